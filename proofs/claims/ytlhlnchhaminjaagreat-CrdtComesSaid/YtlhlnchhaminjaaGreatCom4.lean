/- Part 4 of the ground of the proofs of this seat (texts R10 to D9). By an AI agent. -/
import Derived.Test.YtlhlnchhaminjaaGreatCom3
import Derived.ChangeShapes
import Derived.OpenShut
import Derived.WideKeyArgs
import GoSem.ClaimJoined
set_option linter.unusedVariables false
set_option linter.unusedSimpArgs false
namespace Go.Ab
open Go Go.RowKit
def RM.cell (M:RM) (b o:Nat) : Option AV:=(M.cells b).bind (·[o]?)
section
variable {M M' : RM} {K:AV→Prop} {KQ:ak}
theorem Qh {b o:Nat} {v:AV} : M.loads b o 1=some [v]↔M.cell b o=some v:=by
 unfold RM.loads RM.cell
 cases hc:M.cells b with
 | none=>simp
 | some l =>
   simp only[Option.bind_some]
   constructor
   ·intro h
    split at h
    ·rename_i hlt
     have h1:=Option.some.inj h
     have:((l.drop o).take 1)[0]?=some v:=by rw[h1]; rfl
     rw[List.getElem?_take,if_pos (by omega),List.getElem?_drop] at this
     simpa using this
    ·cases h
   ·intro h
    have hlt:=(List.getElem?_eq_some_iff.1 h).1
    rw[if_pos (by omega)]
    congr 1
    rw[List.drop_eq_getElem_cons hlt]
    simp only[List.take_succ_cons,List.take_zero]
    congr 1
    exact(List.getElem?_eq_some_iff.1 h).2
@[go_sem] theorem fH (b o:Nat) : ai M (.ptr b o) K=∃ v,M.cell b o=some v∧K v:=by
 apply propext; unfold ai
 constructor
 ·rintro⟨b',o',v,h,hl,hk⟩; cases h; exact⟨v,Qh.1 hl,hk⟩
 ·rintro⟨v,hl,hk⟩; exact⟨b,o,v,rfl,Qh.2 hl,hk⟩
@[go_sem] theorem fZ (b o n:Nat) : aI M (.ptr b o) n K=∃ vs,M.loads b o n=some vs∧K (.agg vs):=by
 apply propext; unfold aI
 constructor
 ·rintro⟨b',o',v,h,hl,hk⟩; cases h; exact⟨v,hl,hk⟩
 ·rintro⟨v,hl,hk⟩; exact⟨b,o,v,rfl,hl,hk⟩
@[go_sem] theorem Aw (b p:Nat) (x:AV) (n:Nat) (K:RM→Prop) : aL M (.ptr b p) x n K=(x.cells.length=n∧∃ M',M.stores b p x.cells=some M'∧K M'):=by
 apply propext; unfold aL
 constructor
 ·rintro⟨b',o',M',h,h1,h2,hk⟩; cases h; exact⟨h1,M',h2,hk⟩
 ·rintro⟨h1,M',h2,hk⟩; exact⟨b,p,M',rfl,h1,h2,hk⟩
def JU (k:IntKind) (a b:Int) : Int:=k.wrap (BitVec.ofInt k.bits a &&& BitVec.ofInt k.bits b).toNat
def orI (k:IntKind) (a b:Int) : Int:=k.wrap (BitVec.ofInt k.bits a ||| BitVec.ofInt k.bits b).toNat
def adn (k:IntKind) (a b:Int) : Int:=k.wrap (BitVec.ofInt k.bits a ^^^ BitVec.ofInt k.bits b).toNat
def akT (k:IntKind) (a b:Int) : Int:=k.wrap (BitVec.ofInt k.bits a &&& ~~~BitVec.ofInt k.bits b).toNat
def acT (k:IntKind) (a b:Int) : Int:=k.wrap (a * 2 ^ (min b.toNat k.bits))
def Te (k:IntKind) (a b:Int) : Int:=a.fdiv (2 ^ (min b.toNat k.bits))
section
variable (k:IntKind) (a b:Int)
theorem jJ {op:BinOp} {v:Value} (h:Cn op k a b=some v) : af op (N k a) (N k b) K=K (.sc v):=by
 apply propext; unfold af
 constructor
 ·rintro⟨k',a',b',u,h1,h2,h3,hk⟩; cases h1; cases h2; rw[h] at h3; cases h3; exact hk
 ·intro hk; exact⟨k,a,b,v,rfl,rfl,h,hk⟩
@[go_sem] theorem bG:af .add (N k a) (N k b) K=K (N k (k.wrap (a + b))):=jJ k a b rfl
@[go_sem] theorem iQ:af .sub (N k a) (N k b) K=K (N k (k.wrap (a - b))):=jJ k a b rfl
@[go_sem] theorem yP:af .mul (N k a) (N k b) K=K (N k (k.wrap (a * b))):=jJ k a b rfl
@[go_sem] theorem Gx:af .and (N k a) (N k b) K=K (N k (JU k a b)):=jJ k a b rfl
@[go_sem] theorem alW:af .or (N k a) (N k b) K=K (N k (orI k a b)):=jJ k a b rfl
@[go_sem] theorem yQ:af .xor (N k a) (N k b) K=K (N k (adn k a b)):=jJ k a b rfl
@[go_sem] theorem auY:af .andNot (N k a) (N k b) K=K (N k (akT k a b)):=jJ k a b rfl
@[go_sem] theorem bU:af .eql (N k a) (N k b) K=K (Bo (a == b)):=jJ k a b rfl
@[go_sem] theorem dY:af .neq (N k a) (N k b) K=K (Bo (a != b)):=jJ k a b rfl
@[go_sem] theorem bN:af .lss (N k a) (N k b) K=K (Bo (decide (a<b))):=jJ k a b rfl
@[go_sem] theorem mr:af .leq (N k a) (N k b) K=K (Bo (decide (a≤b))):=jJ k a b rfl
@[go_sem] theorem eF:af .gtr (N k a) (N k b) K=K (Bo (decide (a > b))):=jJ k a b rfl
@[go_sem] theorem jA:af .geq (N k a) (N k b) K=K (Bo (decide (a ≥ b))):=jJ k a b rfl
@[go_sem] theorem qJ:af .quo (N k a) (N k b) K=(b≠0∧K (N k (k.wrap (a.tdiv b)))):=by
 apply propext; unfold af Cn
 constructor
 ·rintro⟨k',a',b',u,h1,h2,h3,hk⟩; cases h1; cases h2
  simp only at h3
  split at h3
  ·cases h3
  ·cases h3; exact⟨‹_›,hk⟩
 ·rintro⟨h0,hk⟩; exact⟨k,a,b,_,rfl,rfl,by simp only[if_neg h0],hk⟩
@[go_sem] theorem YZ:af .rem (N k a) (N k b) K=(b≠0∧K (N k (a.tmod b))):=by
 apply propext; unfold af Cn
 constructor
 ·rintro⟨k',a',b',u,h1,h2,h3,hk⟩; cases h1; cases h2
  simp only at h3
  split at h3
  ·cases h3
  ·cases h3; exact⟨‹_›,hk⟩
 ·rintro⟨h0,hk⟩; exact⟨k,a,b,_,rfl,rfl,by simp only[if_neg h0],hk⟩
variable (l:IntKind)
@[go_sem] theorem Bj:BH .shl (N k a) (N l b) K=(0≤b∧K (N k (acT k a b))):=by
 apply propext; unfold BH Ro
 constructor
 ·rintro⟨k',a',l',b',u,h1,h2,h3,hk⟩; cases h1; cases h2
  split at h3
  ·cases h3
  ·cases h3; exact⟨by omega,hk⟩
 ·rintro⟨h0,hk⟩; exact⟨k,a,l,b,_,rfl,rfl,by rw[if_neg (by omega)]; rfl,hk⟩
@[go_sem] theorem LZ:BH .shr (N k a) (N l b) K=(0≤b∧K (N k (Te k a b))):=by
 apply propext; unfold BH Ro
 constructor
 ·rintro⟨k',a',l',b',u,h1,h2,h3,hk⟩; cases h1; cases h2
  split at h3
  ·cases h3
  ·cases h3; exact⟨by omega,hk⟩
 ·rintro⟨h0,hk⟩; exact⟨k,a,l,b,_,rfl,rfl,by rw[if_neg (by omega)]; rfl,hk⟩
@[go_sem] theorem aAZ {l:IntKind} {a:Int} {K:AV→Prop} : ab6 (N l a) K=K (St (Utf8.encode a).data.toList):=by
 apply propext; unfold ab6
 constructor
 ·rintro⟨l',n,h,hk⟩; cases h; exact hk
 ·intro h; exact⟨_,_,rfl,h⟩
@[go_sem] theorem gz:iE k (N l a) K=K (N k (k.wrap a)):=by
 apply propext; unfold iE
 constructor
 ·rintro⟨l',n,h,hk⟩; cases h; exact hk
 ·intro hk; exact⟨l,a,rfl,hk⟩
@[go_sem] theorem YX (mx:Bool) : NA mx (N k a) (N k b) K=K (N k (if mx then(if b > a then b else a) else(if b<a then b else a))):=by
 apply propext; unfold NA
 constructor
 ·rintro⟨k',a',b',h1,h2,hk⟩; cases h1; cases h2; exact hk
 ·intro hk; exact⟨k,a,b,rfl,rfl,hk⟩
@[go_sem] theorem aA4:ahV (N k a) K=K (N k (k.wrap (0 - a))):=by
 apply propext; unfold ahV
 constructor
 ·rintro⟨k',a',h1,hk⟩; cases h1; exact hk
 ·intro hk; exact⟨k,a,rfl,hk⟩
end
@[go_sem] theorem bR (b:Bool) : eG (Bo b) K=K (Bo (!b)):=by
 apply propext; unfold eG
 constructor
 ·rintro⟨b',h,hk⟩; cases h; exact hk
 ·intro hk; exact⟨b,rfl,hk⟩
@[go_sem] theorem avU (neg a b:Bool) : Be neg (Bo a) (Bo b) K=K (Bo ((a == b) != neg)):=by
 apply propext; unfold Be
 constructor
 ·rintro⟨a',b',h,h',hk⟩; cases h; cases h'; exact hk
 ·intro hk; exact⟨a,b,rfl,rfl,hk⟩
@[go_sem] theorem Y4 (t:Bool) (a b:AV) : aJ (Bo t) a b K=K (if t then a else b):=by
 apply propext; unfold aJ
 constructor
 ·rintro⟨t',h,hk⟩; cases h; exact hk
 ·intro hk; exact⟨t,rfl,hk⟩
@[go_sem] theorem Wy (b:Bool) (p q:Prop) : ay (Bo b) p q=((b=true→p)∧(b=false→q)):=rfl
@[go_sem] theorem axq {α:Type} (b want:Bool) (f g:α→Prop) (k:α) : oG (Bo b) want f g k=if b=want then f k else g k:=rfl
@[go_sem] theorem amG {α:Type} (want:Bool) (f g:α→Prop) (k:α) : oG .undef want f g k=g k:=rfl
@[go_sem] theorem aG (b o:Nat) : aZ (.ptr b o) K=K (.ptr b o):=by
 apply propext; unfold aZ
 constructor
 ·rintro⟨b',o',h,hk⟩; cases h; exact hk
 ·intro hk; exact⟨b,o,rfl,hk⟩
@[go_sem] theorem aF (b o n:Nat) : aA (.ptr b o) n K=K (.ptr b (o + n)):=by
 apply propext; unfold aA
 constructor
 ·rintro⟨b',o',h,hk⟩; cases h; exact hk
 ·intro hk; exact⟨b,o,rfl,hk⟩
@[go_sem] theorem oP (b p len:Nat) (cap:Cap) (k:IntKind) (n:Int) (size:Nat) : ax (.slc b p len cap) (N k n) size K=(0≤n∧n<len∧K (.ptr b (p + n.toNat * size))):=by
 apply propext; unfold ax
 constructor
 ·rintro⟨b',p',l',c',k',n',h,h',h0,h1,hk⟩; cases h; cases h'; exact⟨h0,h1,hk⟩
 ·rintro⟨h0,h1,hk⟩; exact⟨b,p,len,cap,k,n,rfl,rfl,h0,h1,hk⟩
@[go_sem] theorem yx (b p:Nat) (k:IntKind) (n:Int) (len size:Nat) : Ih (.ptr b p) (N k n) len size K=(0≤n∧n<len∧K (.ptr b (p + n.toNat * size))):=by
 apply propext; unfold Ih
 constructor
 ·rintro⟨b',p',k',n',h,h',h0,h1,hk⟩; cases h; cases h'; exact⟨h0,h1,hk⟩
 ·rintro⟨h0,h1,hk⟩; exact⟨b,p,k,n,rfl,rfl,h0,h1,hk⟩
@[go_sem] theorem axy (cs:List AV) (off:Nat) : ab4 (.agg cs) off K=∃ v,cs[off]?=some v∧K v:=by
 apply propext; unfold ab4
 constructor
 ·rintro⟨cs',v,h,h1,hk⟩; cases h; exact⟨v,h1,hk⟩
 ·rintro⟨v,h1,hk⟩; exact⟨cs,v,rfl,h1,hk⟩
@[go_sem] theorem axR (cs:List AV) (off n:Nat) : ad1 (.agg cs) off n K=(off + n≤cs.length∧K (.agg ((cs.drop off).take n))):=by
 apply propext; unfold ad1
 constructor
 ·rintro⟨cs',h,h1,hk⟩; cases h; exact⟨h1,hk⟩
 ·rintro⟨h1,hk⟩; exact⟨cs,rfl,h1,hk⟩
@[go_sem] theorem axJ (cs:List AV) (k:IntKind) (n:Int) (len:Nat) : adC (.agg cs) (N k n) len K=(0≤n∧n<len∧∃ v,cs[n.toNat]?=some v∧K v):=by
 apply propext; unfold adC
 constructor
 ·rintro⟨cs',k',n',v,h,h',h0,h1,h2,hk⟩; cases h; cases h'; exact⟨h0,h1,v,h2,hk⟩
 ·rintro⟨h0,h1,v,h2,hk⟩; exact⟨cs,k,n,v,rfl,rfl,h0,h1,h2,hk⟩
@[go_sem] theorem Ke (cs:List AV) (k:IntKind) (n:Int) (len size:Nat) : Lv (.agg cs) (N k n) len size K=(0≤n∧n<len∧n.toNat * size + size≤cs.length∧K (.agg ((cs.drop (n.toNat * size)).take size))):=by
 apply propext; unfold Lv
 constructor
 ·rintro⟨cs',k',n',h,h',h0,h1,h2,hk⟩; cases h; cases h'; exact⟨h0,h1,h2,hk⟩
 ·rintro⟨h0,h1,h2,hk⟩; exact⟨cs,k,n,rfl,rfl,h0,h1,h2,hk⟩
@[go_sem] theorem ak9 (s:List UInt8) (k:IntKind) (n:Int) : Yh (St s) (N k n) K=(0≤n∧∃ b,s[n.toNat]?=some b∧K (N .u8 b.toNat)):=by
 apply propext; unfold Yh
 constructor
 ·rintro⟨s',k',n',b,h,h',h0,h1,hk⟩; cases h; cases h'; exact⟨h0,b,h1,hk⟩
 ·rintro⟨h0,b,h1,hk⟩; exact⟨s,k,n,b,rfl,rfl,h0,h1,hk⟩
@[go_sem] theorem NY (vs:List AV) (i:Nat) : fI (.tup vs) i K=∃ v,vs[i]?=some v∧K v:=by
 apply propext; unfold fI
 constructor
 ·rintro⟨cs',v,h,h1,hk⟩; cases h; exact⟨v,h1,hk⟩
 ·rintro⟨v,h1,hk⟩; exact⟨vs,v,rfl,h1,hk⟩
@[go_sem] theorem cB (v:AV) : eT (some v) K=K v:=by
 apply propext; unfold eT
 constructor
 ·rintro⟨v',h,hk⟩; cases h; exact hk
 ·intro hk; exact⟨v,rfl,hk⟩
@[go_sem] theorem oN (b o n:Nat) (c:Cap) : bD (.slc b o n c) K=K (N .i64 n):=by
 apply propext; unfold bD
 constructor
 ·rintro⟨n',h,hk⟩; cases h; exact hk
 ·intro hk; exact⟨n,rfl,hk⟩
@[go_sem] theorem aiv (b:Nat) : bD (.emp b) K=K (N .i64 0):=by
 apply propext; unfold bD
 constructor
 ·rintro⟨n',h,hk⟩; cases h; exact hk
 ·intro hk; exact⟨0,rfl,hk⟩
@[go_sem] theorem Nc:bD (.sc (.slice none 0 0)) K=K (N .i64 0):=by
 apply propext; unfold bD
 constructor
 ·rintro⟨n',h,hk⟩; cases h; exact hk
 ·intro hk; exact⟨0,rfl,hk⟩
@[go_sem] theorem mP (s:List UInt8) : qi (St s) K=K (N .i64 s.length):=by
 apply propext; unfold qi
 constructor
 ·rintro⟨s',h,hk⟩; cases h; exact hk
 ·intro hk; exact⟨s,rfl,hk⟩
@[go_sem] theorem alb (b o n c:Nat) : EU (.slc b o n (.ex c)) K=K (N .i64 c):=by
 apply propext; unfold EU
 constructor
 ·rintro⟨n',h,hk⟩; cases h; exact hk
 ·intro hk; exact⟨c,rfl,hk⟩
@[go_sem] theorem ayL:EU (.sc (.slice none 0 0)) K=K (N .i64 0):=by
 apply propext; unfold EU
 constructor
 ·rintro⟨n',h,hk⟩; cases h; exact hk
 ·intro hk; exact⟨0,rfl,hk⟩
@[go_sem] theorem aAv (s:List UInt8) : isStr (St s) K=K (St s):=by
 apply propext; unfold isStr
 constructor
 ·rintro⟨s',h,hk⟩; cases h; exact hk
 ·intro hk; exact⟨s,rfl,hk⟩
@[go_sem] theorem aai {x:AV} {s:List UInt8} (h:GQ M x=some s) : jL M x K=K (St s):=by
 apply propext; unfold jL
 constructor
 ·rintro⟨s',h',hk⟩; rw[h] at h'; cases h'; exact hk
 ·intro hk; exact⟨s,h,hk⟩
theorem wu {op:BinOp} {a b:List UInt8} {v:AV} (h:Hu op a b=some v) : iT op (St a) (St b) K=K v:=by
 apply propext; unfold iT
 constructor
 ·rintro⟨a',b',u,h1,h2,h3,hk⟩; cases h1; cases h2; rw[h] at h3; cases h3; exact hk
 ·intro hk; exact⟨a,b,v,rfl,rfl,h,hk⟩
@[go_sem] theorem qE (a b:List UInt8) : iT .eql (St a) (St b) K=K (Bo (a == b)):=by rw[← lq]; exact wu rfl
@[go_sem] theorem nG (a b:List UInt8) : iT .neq (St a) (St b) K=K (Bo (a != b)):=by rw[bne,← lq]; exact wu rfl
@[go_sem] theorem MZ (a b:List UInt8) : iT .lss (St a) (St b) K=K (Bo (Op.bytesLess a b)):=wu rfl
@[go_sem] theorem azP (a b:List UInt8) : iT .leq (St a) (St b) K=K (Bo (Op.bytesLess a b || a == b)):=by rw[← lq]; exact wu rfl
@[go_sem] theorem agR (a b:List UInt8) : iT .gtr (St a) (St b) K=K (Bo (!(Op.bytesLess a b || a == b))):=by rw[← lq]; exact wu rfl
@[go_sem] theorem ax5 (a b:List UInt8) : iT .geq (St a) (St b) K=K (Bo (!Op.bytesLess a b)):=wu rfl
@[go_sem] theorem ayn (a b:List UInt8) : iT .add (St a) (St b) K=(a.length + b.length≤9223372036854775807∧K (St (a++b))):=by
 apply propext; unfold iT
 constructor
 ·rintro⟨a',b',u,h1,h2,h3,hk⟩; cases h1; cases h2
  simp only[Hu] at h3
  split at h3
  ·rename_i hb; cases h3; exact⟨bL hb,hk⟩
  ·cases h3
 ·rintro⟨h0,hk⟩; exact⟨a,b,_,rfl,rfl,by simp only[Hu,bJ.2 h0],hk⟩
theorem pE {neg:Bool} {tag:Nat} {x y:AV} {r:Bool} (ht:VK x=tag) (h:Lr x y=some r) : lJ neg tag x y K=K (Bo (r != neg)):=by
 apply propext; unfold lJ
 constructor
 ·rintro⟨_,r',h',hk⟩; rw[h] at h'; cases h'; exact hk
 ·intro hk; exact⟨ht,r,h,hk⟩
@[go_sem] theorem SG (neg:Bool) : lJ neg 2 (.sc (.slice none 0 0)) (.sc (.slice none 0 0)) K=K (Bo (!neg)):=(pE (tag:=2) (r:=true) rfl rfl).trans (by cases neg <;> rfl)
@[go_sem] theorem Uu (neg:Bool) (b:Nat) : lJ neg 2 (.emp b) (.sc (.slice none 0 0)) K=K (Bo neg):=(pE (tag:=2) (r:=false) rfl rfl).trans (by cases neg <;> rfl)
@[go_sem] theorem SC (neg:Bool) (b o n:Nat) (c:Cap) : lJ neg 2 (.slc b o n c) (.sc (.slice none 0 0)) K=K (Bo neg):=(pE (tag:=2) (r:=false) rfl rfl).trans (by cases neg <;> rfl)
@[go_sem] theorem amg (neg:Bool) (b o:Nat) : lJ neg 1 (.ptr b o) (.sc (.pointer none)) K=K (Bo neg):=(pE (tag:=1) (r:=false) rfl rfl).trans (by cases neg <;> rfl)
@[go_sem] theorem akl (neg:Bool) : lJ neg 1 (.sc (.pointer none)) (.sc (.pointer none)) K=K (Bo (!neg)):=(pE (tag:=1) (r:=true) rfl rfl).trans (by cases neg <;> rfl)
@[go_sem] theorem amh (neg:Bool) (b:Nat) : lJ neg 3 (.map b) (.sc (.map none)) K=K (Bo neg):=(pE (tag:=3) (r:=false) rfl rfl).trans (by cases neg <;> rfl)
@[go_sem] theorem amr (neg:Bool) (f:Fn) (xs ys:List AV) : lJ neg 4 (.fn f xs ys) (.sc .nilFunc) K=K (Bo neg):=(pE (tag:=4) (r:=false) rfl rfl).trans (by cases neg <;> rfl)
@[go_sem] theorem ad9 (neg:Bool) (ks:List Nat) (cs ds:List AV) : nE neg ks (.agg cs) (.agg ds) K=(cs.length=ks.length∧ds.length=ks.length∧∃ r,eH ks cs ds=some r∧K (Bo (r != neg))):=by
 apply propext; unfold nE
 constructor
 ·rintro⟨a',b',r,h1,h2,h3,h4,h5,hk⟩; cases h1; cases h2; exact⟨h3,h4,r,h5,hk⟩
 ·rintro⟨h3,h4,r,h5,hk⟩; exact⟨cs,ds,r,rfl,rfl,h3,h4,h5,hk⟩
@[go_sem] theorem ayb (C:FuncId→au) (g:FuncId) (first cap args:List AV) : gW C (.fn (.func g) first cap) args M KQ=C g (first++args++cap) M KQ:=by
 apply propext; unfold gW
 constructor
 ·rintro⟨g',f',c',h,hk⟩; cases h; exact hk
 ·intro hk; exact⟨g,first,cap,rfl,hk⟩
@[go_sem] theorem jI (cs:List AV) (parts:List (Nat × Nat × AV)) : lX cs parts K=∃ cs',sZ cs parts=some cs'∧K (.agg cs'):=rfl
@[go_sem] theorem bn (x:RB) (mk:Nat→AV) : df x mk M KQ=KQ (mk M.next) (M.push x):=rfl
@[go_sem] theorem ku (x:RB) (mk:Nat→AV) (k:KR) : mI x mk M k=k (mk M.next) (M.push x) (some M.next):=rfl
@[go_sem] theorem vD (f:(List AV→RM→Prop)→Prop) (g:List AV→RM→Prop) : ed f g=f g:=rfl
@[go_sem] theorem axr (x:AV) (xs:List AV) : aa (x :: xs) 0=x:=rfl
@[go_sem] theorem axz (x:AV) (xs:List AV) (n:Nat) : aa (x :: xs) (n + 1)=aa xs n:=rfl
@[go_sem] theorem ad2 (b:Nat) (x:RB) (mk:Nat→AV) (v:AV) : uk (some b) M x mk v=(M.heap b=some x∧mk b=v):=rfl
end
theorem aej {body:(List AV→RM→Prop)→List AV→RM→Prop} {xs:List AV} {M:RM} (I:Nat→List AV→RM→Prop) (n:Nat) (h0:I n xs M)
  (hb:∀ m ys M',I m ys M'→body (fun zs M''=>∃ m',m'<m∧I m' zs M'') ys M') : aV body xs M:=⟨I,n,h0,hb⟩
section
variable {M M' : RM}
theorem RM.Dp {b:Nat} {l:List AV} {opn:Bool} {el fz:Nat} (h:M.heap b=some (.row l opn el fz)) : M.cells b=some l:=by simp[RM.cells,h]
theorem RM.agB {b o:Nat} {l:List AV} {opn:Bool} {el fz:Nat} (h:M.heap b=some (.row l opn el fz)) : M.cell b o=l[o]?:=by simp[RM.cell,RM.Dp h]
theorem RM.dx {b o k:Nat} {l:List AV} {opn:Bool} {el fz:Nat} (h:M.heap b=some (.row l opn el fz)) (hk:o + k≤l.length) : M.loads b o k=some ((l.drop o).take k):=by
 simp[RM.loads,RM.Dp h,hk]
theorem RM.GZ {b o:Nat} {l vs:List AV} {opn:Bool} {el fz:Nat} (h:M.heap b=some (.row l opn el fz)) (h1:o + vs.length≤l.length) (h2:fz≤o) (h3:vs.all oneCell=true) :
  M.stores b o vs=some (M.put b (.row (l.take o++vs++l.drop (o + vs.length)) opn el fz)):=by
 simp only[RM.stores,h]
 rw[if_pos ⟨h1,h2,h3⟩]
structure ag (bs:List Nat) (M M' : RM) : Prop where
 base:M'.base=M.base
 next:M.next≤M'.next
 heap:∀ c,c<M.next→c ∉ bs→M'.heap c=M.heap c
theorem ag.refl (bs:List Nat) (M:RM) : ag bs M M:=⟨rfl,Nat.le_refl _,fun _ _ _=>rfl⟩
theorem ag.trans {bs:List Nat} {M1 M2:RM} (h:ag bs M M1) (k:ag bs M1 M2) : ag bs M M2 :=
 ⟨k.base.trans h.base,Nat.le_trans h.next k.next,fun c hc hb=>(k.heap c (Nat.lt_of_lt_of_le hc h.next) hb).trans (h.heap c hc hb)⟩
theorem ag.push {bs:List Nat} (h:ag bs M M') (x:RB) : ag bs M (M'.push x) :=
 ⟨h.base,Nat.le_succ_of_le h.next,fun c hc hb=>by
  have:=h.next
  simp only[RM.push]; rw[if_neg (by omega)]; exact h.heap c hc hb⟩
theorem ag.put {bs:List Nat} (h:ag bs M M') {b:Nat} (x:RB) (hb:M.next≤b∨b∈bs) : ag bs M (M'.put b x) :=
 ⟨h.base,h.next,fun c hc hcb=>by
  simp only[RM.put]; rw[if_neg]
  ·exact h.heap c hc hcb
  ·rintro rfl; rcases hb with hb | hb
   ·omega
   ·exact hcb hb⟩
theorem ag.del {bs:List Nat} (h:ag bs M M') {b:Nat} (hb:M.next≤b∨b∈bs) : ag bs M (M'.del b) :=
 ⟨h.base,h.next,fun c hc hcb=>by
  simp only[RM.del]; rw[if_neg]
  ·exact h.heap c hc hcb
  ·rintro rfl; rcases hb with hb | hb
   ·omega
   ·exact hcb hb⟩
theorem ag.mono {bs cs:List Nat} (h:ag bs M M') (hs:∀ b∈bs,b∈cs) : ag cs M M':=⟨h.base,h.next,fun c hc hb=>h.heap c hc fun h=>hb (hs c h)⟩
theorem ag.aY {bs:List Nat} {M1 M2:RM} {cs:List Nat} (h:ag bs M M1) (k:ag cs M1 M2) (hn:∀ c∈cs,M.next≤c∨c∈bs) : ag bs M M2 :=
 ⟨k.base.trans h.base,Nat.le_trans h.next k.next,fun c hc hb=>by
  rw[k.heap c (Nat.lt_of_lt_of_le hc h.next) (fun hm=>by rcases hn c hm with h1 | h1; omega; exact hb h1),h.heap c hc hb]⟩
theorem ag.cells {bs:List Nat} (h:ag bs M M') {b:Nat} (hlt:b<M.next) (hb:b ∉ bs) : M'.cells b=M.cells b:=by
 simp only[RM.cells,h.heap b hlt hb,RM.lo,h.base]
theorem ag.cell {bs:List Nat} (h:ag bs M M') {b o:Nat} (hlt:b<M.next) (hb:b ∉ bs) : M'.cell b o=M.cell b o:=by
 simp only[RM.cell,h.cells hlt hb]
theorem ag.loads {bs:List Nat} (h:ag bs M M') {b o k:Nat} (hlt:b<M.next) (hb:b ∉ bs) : M'.loads b o k=M.loads b o k:=by
 simp only[RM.loads,h.cells hlt hb]
@[go_sem] theorem RM.axM (x:RB) : (M.push x).next=M.next + 1:=rfl
@[go_sem] theorem RM.aAC (b:Nat) (x:RB) : (M.put b x).next=M.next:=rfl
@[go_sem] theorem RM.ayO (b:Nat) : (M.del b).next=M.next:=rfl
@[go_sem] theorem RM.aQ (x:RB) : (M.push x).heap M.next=some x:=by simp[RM.push]
theorem RM.agQ {x:RB} {c:Nat} (h:c≠M.next) : (M.push x).heap c=M.heap c:=by simp[RM.push,h]
@[go_sem] theorem RM.yX (b:Nat) (x:RB) : (M.put b x).heap b=some x:=by simp[RM.put]
end
abbrev dV:AV:=.sc (.slice none 0 0)
inductive aM (M:RM) (size:Nat) : AV→List AV→Nat→Prop
 | nil:aM M size dV [] 0
 | emp (b:Nat) : aM M size (.emp b) [] 0
 | slc (b o n:Nat) (cap:Cap) (cs:List AV) : b<M.next→M.loads b o (n * size)=some cs→aM M size (.slc b o n cap) cs n
section
variable {M M' : RM} {size:Nat} {v:AV} {cs:List AV} {n:Nat}
theorem Jt {b o k:Nat} {cs:List AV} (h:M.loads b o k=some cs) : cs.length=k:=by
 unfold RM.loads at h
 split at h <;> first | (cases h; done) | skip
 split at h <;> first | (cases h; done) | skip
 rename_i hle
 have:=Option.some.inj h
 rw[← this,List.length_take,List.length_drop]; omega
theorem afC {b o k:Nat} {cs:List AV} (h:M.loads b o k=some cs) (i:Nat) (hi:i<k) : M.cell b (o + i)=cs[i]?:=by
 unfold RM.loads at h
 unfold RM.cell
 split at h <;> first | (cases h; done) | skip
 rename_i l hl
 split at h <;> first | (cases h; done) | skip
 cases h
 simp only[hl,Option.bind_some]
 rw[List.getElem?_take,if_pos hi,List.getElem?_drop]
theorem qy {b o k:Nat} {cs:List AV} (h:M.loads b o k=some cs) (i j:Nat) (hij:i + j≤k) : M.loads b (o + i) j=some ((cs.drop i).take j):=by
 unfold RM.loads at h ⊢
 cases hl:M.cells b with
 | none=>rw[hl] at h; cases h
 | some l =>
   rw[hl] at h
   simp only at h ⊢
   split at h
   ·rename_i hle
    have h:=Option.some.inj h
    subst h
    rw[if_pos (by omega),List.drop_take,List.drop_drop,List.take_take]
    congr 2
    omega
   ·cases h
theorem PX {b o:Nat} {l:List AV} (h:M.cells b=some l) (ho:o≤l.length) : M.loads b o 0=some []:=by
 simp[RM.loads,h,ho]
theorem aM.length (h:aM M size v cs n) : cs.length=n * size:=by
 cases h with
 | nil=>exact(Nat.zero_mul _).symm
 | emp=>exact(Nat.zero_mul _).symm
 | slc b o n cap cs hb0 hl=>exact Jt hl
theorem aM.len (h:aM M size v cs n) {K:AV→Prop} : bD v K=K (N .i64 n):=by
 cases h with
 | nil=>exact Nc
 | emp b=>exact aiv b
 | slc b o n cap cs hb0 hl=>exact oN b o n cap
theorem aM.nQ (h:aM M size v cs n) (zs:List AV) : nQ M size zs false v=some (n,cs):=by
 cases h with
 | nil=>rfl
 | emp b=>rfl
 | slc b o n cap cs hb0 hl=>simp only[Go.Ab.nQ,hl]
theorem aM.pos (h:aM M size v cs n) (hn:0<n) : ∃ b o cap,v=.slc b o n cap∧b<M.next∧M.loads b o (n * size)=some cs:=by
 cases h with
 | nil=>omega
 | emp b=>omega
 | slc b o n cap cs hb0 hl=>exact⟨b,o,cap,rfl,hb0,hl⟩
theorem aM.GQ (h:aM M 1 v cs n) {l:List UInt8} (hb:eX byteOf cs=some l) : GQ M v=some l:=by
 cases h with
 | nil=>simp[eX] at hb; subst hb; rfl
 | emp b=>simp[eX] at hb; subst hb; rfl
 | slc b o n cap cs hb0 hl =>
   rw[Nat.mul_one] at hl
   simp only[Go.Ab.GQ,hl]; exact hb
def aD:AV→List Nat
 | .slc b _ _ _=>[b]
 | _=>[]
theorem aM.keep {bs:List Nat} (h:aM M size v cs n) (hk:ag bs M M') (hb:∀ b∈aD v,b ∉ bs) : aM M' size v cs n:=by
 cases h with
 | nil=>exact .nil
 | emp b=>exact .emp b
 | slc b o n cap cs hb0 hl =>
   exact .slc b o n cap cs (Nat.lt_of_lt_of_le hb0 hk.next) (by rw[hk.loads hb0 (hb b (by simp[aD]))]; exact hl)
inductive Own (M:RM) (base el size:Nat) : AV→List AV→Nat→Prop
 | nil:Own M base el size dV [] 0
 | ex0 (b o:Nat) : base≤b→b<M.next→(∃ l,M.cells b=some l∧o≤l.length)→Own M base el size (.slc b o 0 (.ex 0)) [] 0
 | op (b n:Nat) (cs:List AV) : base≤b→b<M.next→M.heap b=some (.row cs true el 0)→cs.length=n * size→Own M base el size (.slc b 0 n (.op size)) cs n
theorem Own.fu {base el:Nat} (h:Own M base el size v cs n) : aM M size v cs n:=by
 cases h with
 | nil=>exact .nil
 | ex0 b o hb hlt hc =>
   obtain⟨l,hl,ho⟩:=hc
   exact .slc b o 0 _ [] hlt (by rw[Nat.zero_mul]; exact PX hl ho)
 | op b n cs hb hlt hh hl =>
   refine .slc b 0 n _ cs hlt ?_
   rw[RM.dx hh (by omega)]
   simp[← hl]
theorem Own.blk {base el:Nat} (h:Own M base el size v cs n) : ∀ b∈aD v,base≤b∧b<M.next:=by
 cases h with
 | nil=>intro b hb; simp[aD] at hb
 | ex0 b o hb hlt hc=>intro c hc; simp[aD] at hc; subst hc; exact⟨hb,hlt⟩
 | op b n cs hb hlt hh hl=>intro c hc; simp[aD] at hc; subst hc; exact⟨hb,hlt⟩
theorem Own.keep {base el:Nat} {bs:List Nat} (h:Own M base el size v cs n) (hk:ag bs M M') (hb:∀ b∈aD v,b ∉ bs) : Own M' base el size v cs n:=by
 cases h with
 | nil=>exact .nil
 | ex0 b o h1 hlt hc=>exact .ex0 b o h1 (Nat.lt_of_lt_of_le hlt hk.next) (by rw[hk.cells hlt (hb b (by simp[aD]))]; exact hc)
 | op b n cs h1 hlt hh hl=>exact .op b n cs h1 (Nat.lt_of_lt_of_le hlt hk.next) (by rw[hk.heap b hlt (hb b (by simp[aD]))]; exact hh) hl
theorem Own.mono {base base' el:Nat} (h:Own M base el size v cs n) (hb:base'≤base) : Own M base' el size v cs n:=by
 cases h with
 | nil=>exact .nil
 | ex0 b o h1 hlt hc=>exact .ex0 b o (Nat.le_trans hb h1) hlt hc
 | op b n cs h1 hlt hh hl=>exact .op b n cs (Nat.le_trans hb h1) hlt hh hl
theorem uz {base el bytes:Nat} {zs:List AV} {zeros:Bool} {x:AV} {m:Nat} {ds:List AV} {K:ak} (h:Own M base el size v cs n) (hbase:base≤M.next) (hs:1≤size) (hx:nQ M size zs zeros x=some (m,ds)) (hd:ds.length=m * size)
  (h1:ds.all oneCell=true) (hb:(n + m) * bytes≤140737488355328) (hb2:n + m≤140737488355328)
  (hK:∀ v' M',Own M' base el size v' (cs++ds) (n + m)→ag (aD v) M M'→M.next≤M'.next→(v'=v∨∀ b∈aD v',M.next≤b)→K v' M') : appW el size bytes zs zeros v x M K:=by
 have hmb:m * bytes≤140737488355328:=Nat.le_trans (Nat.mul_le_mul_right _ (by omega)) hb
 refine⟨m,ds,hx,hmb,by omega, ?_⟩
 cases h with
 | nil =>
   by_cases hm:m=0
   ·subst hm
    have:ds=[]:=List.eq_nil_of_length_eq_zero (by simpa using hd)
    subst this
    exact⟨dV,M,by simp[qK],hK _ _ .nil (ag.refl _ _) (Nat.le_refl _) (.inl rfl)⟩
   ·refine⟨.slc M.next 0 m (.op size),M.push (.row ds true el 0),by simp only[qK,if_neg hm,h1,if_true],hK _ _ ?_ ((ag.refl _ _).push _) (by simp[RM.push]) (.inr fun b hb=>by simp[aD] at hb; omega)⟩
    simp only[List.nil_append,Nat.zero_add]
    exact .op _ _ _ hbase (by simp[RM.push]) (RM.aQ _) hd
 | ex0 b o hb0 hlt hc =>
   obtain⟨l,hl,ho⟩:=hc
   by_cases hm:m=0
   ·subst hm
    have:ds=[]:=List.eq_nil_of_length_eq_zero (by simpa using hd)
    subst this
    exact⟨_,M,by simp[qK],hK _ _ (.ex0 b o hb0 hlt ⟨l,hl,ho⟩) (ag.refl _ _) (Nat.le_refl _) (.inl rfl)⟩
   ·refine⟨.slc M.next 0 m (.op size),M.push (.row ds true el 0), ?_,hK _ _ ?_ ((ag.refl _ _).push _) (by simp[RM.push]) (.inr fun b hb=>by simp[aD] at hb; omega)⟩
    ·have hl0:M.loads b o (0 * size)=some []:=by rw[Nat.zero_mul]; exact PX hl ho
     simp only[qK,if_neg hm]
     rw[if_neg (by omega),hl0]
     simp only[Nat.zero_add,List.nil_append]
     rw[if_pos ⟨hmb,by omega,h1⟩]
    ·simp only[List.nil_append,Nat.zero_add]
     exact .op _ _ _ hbase (by simp[RM.push]) (RM.aQ _) hd
 | op b n cs hb0 hlt hh hl =>
   by_cases hm:m=0
   ·subst hm
    have:ds=[]:=List.eq_nil_of_length_eq_zero (by simpa using hd)
    subst this
    exact⟨_,M,by simp[qK],hK _ _ (by simpa using .op b n cs hb0 hlt hh hl) (ag.refl _ _) (Nat.le_refl _) (.inl rfl)⟩
   ·have hpos:1≤m * size:=Nat.mul_pos (by omega) hs
    have hsum:(n + m) * size=n * size + m * size:=Nat.add_mul _ _ _
    refine⟨.slc M.next 0 (n + m) (.op size),(M.del b).push (.row (cs++ds) true el 0), ?_,hK _ _ ?_ (((ag.refl _ _).del (.inr (by simp[aD]))).push _) (by simp[RM.push,RM.del]) (.inr fun b hb=>by simp[aD] at hb; omega)⟩
    ·simp only[qK,if_neg hm,hh,and_self,if_true]
     rw[if_neg (by omega),if_pos ⟨trivial,hb,hb2,trivial,hl,Nat.zero_le _,h1⟩]
    ·exact .op _ _ _ (show base≤M.next from hbase) (by simp[RM.push,RM.del]) (by simp[RM.push,RM.del]) (by rw[List.length_append,hl,hd,hsum])
theorem aM.Lr (h:aM M size v cs n) (neg:Bool) : (v=dV∧∀ K:AV→Prop,lJ neg 2 v dV K=K (Bo (!neg)))∨(v≠dV∧∀ K:AV→Prop,lJ neg 2 v dV K=K (Bo neg)):=by
 cases h with
 | nil=>exact .inl ⟨rfl,fun _=>SG neg⟩
 | emp b=>exact .inr ⟨by(intro h; cases h),fun _=>Uu neg b⟩
 | slc b o n cap cs hb0 hl=>exact .inr ⟨by(intro h; cases h),fun _=>SC neg b o n cap⟩
theorem Own.lit {base el T:Nat} (M:RM) (h:base≤M.next) : Own (M.push (.row [] false T 0)) base el size (.slc M.next 0 0 (.ex 0)) [] 0 :=
 .ex0 _ _ h (by simp[RM.push]) ⟨[],by simp[RM.cells,RM.push],Nat.le_refl _⟩
end
end Go.Ab
set_option maxRecDepth 4000
namespace Go.Ab
open Go
theorem wrap_u8 (n:Nat) : IntKind.wrap .u8 (n:Int)=((n % 256:Nat) : Int):=by
 simp only[IntKind.wrap,IntKind.bits,IntKind.signed,IntKind.max,IntKind.min]
 simp
theorem wrap_u64 (n:Nat) : IntKind.wrap .u64 (n:Int)=((n % 18446744073709551616:Nat) : Int):=by
 simp only[IntKind.wrap,IntKind.bits,IntKind.signed,IntKind.max,IntKind.min]
 simp
theorem Gv {n:Int} (h0:0≤n) (h:n<256) : IntKind.wrap .u8 n=n:=by
 obtain⟨m,rfl⟩:=Int.eq_ofNat_of_zero_le h0
 rw[wrap_u8,Nat.mod_eq_of_lt (by omega)]
theorem dB {n:Int} (h0:0≤n) (h:n<18446744073709551616) : IntKind.wrap .u64 n=n:=by
 obtain⟨m,rfl⟩:=Int.eq_ofNat_of_zero_le h0
 rw[wrap_u64,Nat.mod_eq_of_lt (by omega)]
theorem bE {n:Int} (h0 : -9223372036854775808≤n) (h:n<9223372036854775808) : IntKind.wrap .i64 n=n:=by
 rw[IntKind.wrap_i64]; omega
theorem amB (k:Nat) (a b:Nat) : (BitVec.ofInt k (a:Int) ||| BitVec.ofInt k (b:Int)).toNat=(a ||| b) % 2 ^ k:=by
 rw[BitVec.toNat_or,BitVec.ofInt_natCast,BitVec.ofInt_natCast,BitVec.toNat_ofNat,BitVec.toNat_ofNat,← Nat.or_mod_two_pow]
theorem akM (k:Nat) (a b:Nat) : (BitVec.ofInt k (a:Int) &&& BitVec.ofInt k (b:Int)).toNat=(a &&& b) % 2 ^ k:=by
 rw[BitVec.toNat_and,BitVec.ofInt_natCast,BitVec.ofInt_natCast,BitVec.toNat_ofNat,BitVec.toNat_ofNat,← Nat.and_mod_two_pow]
theorem al4 (k:Nat) (a b:Nat) : (BitVec.ofInt k (a:Int) ^^^ BitVec.ofInt k (b:Int)).toNat=(a ^^^ b) % 2 ^ k:=by
 rw[BitVec.toNat_xor,BitVec.ofInt_natCast,BitVec.ofInt_natCast,BitVec.toNat_ofNat,BitVec.toNat_ofNat,← Nat.xor_mod_two_pow]
theorem ai5 (a b:Nat) : ((a:Int).fdiv (b:Int))=((a / b:Nat) : Int):=by
 rw[Int.fdiv_eq_ediv_of_nonneg _ (by omega)]; rfl
def vz:IntKind→Nat
 | .u8=>8 | .u16=>16 | .u32=>32 | _=>64
def Ee:IntKind→Bool
 | .u8 | .u16 | .u32 | .u64=>true
 | _=>false
theorem Ic {k:IntKind} (h:Ee k=true) (n:Nat) : k.wrap (n:Int)=((n % 2 ^ vz k:Nat) : Int):=by
 cases k <;> simp[Ee] at h <;> (simp only[IntKind.wrap,IntKind.bits,IntKind.signed,vz]; simp)
theorem Ph (k:IntKind) (h:Ee k=true) : k.bits=vz k:=by cases k <;> simp[Ee] at h <;> rfl
theorem abf {k:IntKind} (h:Ee k=true) (a b:Nat) : orI k a b=(((a ||| b) % 2 ^ vz k:Nat) : Int):=by
 unfold orI
 rw[amB,Ic h,Ph k h,Nat.mod_mod]
theorem Na {k:IntKind} (h:Ee k=true) (a b:Nat) : JU k a b=(((a &&& b) % 2 ^ vz k:Nat) : Int):=by
 unfold JU
 rw[akM,Ic h,Ph k h,Nat.mod_mod]
theorem ahI {k:IntKind} (h:Ee k=true) (a b:Nat) : adn k a b=(((a ^^^ b) % 2 ^ vz k:Nat) : Int):=by
 unfold adn
 rw[al4,Ic h,Ph k h,Nat.mod_mod]
theorem Ha (k:IntKind) (a b:Nat) (hb:b≤k.bits) : Te k a b=((a / 2 ^ b:Nat) : Int):=by
 unfold Te
 rw[Int.toNat_natCast,Nat.min_eq_left hb,← ai5,Int.natCast_pow]; rfl
theorem OO {k:IntKind} (h:Ee k=true) (a b:Nat) (hb:b≤k.bits) : acT k a b=((a * 2 ^ b % 2 ^ vz k:Nat) : Int):=by
 unfold acT
 rw[Int.toNat_natCast,Nat.min_eq_left hb,← Ic h,Int.natCast_mul,Int.natCast_pow]
 rfl
theorem as0 {x:Nat} (h:x<256) : x ||| 128=x % 128 + 128:=by
 have:∀ x:Fin 256,x.val ||| 128=x.val % 128 + 128:=by decide
 exact this ⟨x,h⟩
theorem Jy (n:Nat) : (UInt8.ofNat n).toNat=n % 256:=by simp
end Go.Ab
namespace Go.Ab.aC
open Go Go.Ab
theorem Kv {T size bytes:Nat} {zs:List AV} {M0:RM} {a0:AV} {cs:List AV} {n:Nat} (h:aM M0 size a0 cs n) (h1:cs.all oneCell=true) (hs:1≤size) (hn:n * bytes≤140737488355328) (hn2:n≤140737488355328) {Q:ak}
  (hQ:∀ v M',Own M' M0.next T size v cs n→ag [] M0 M'→Q v M') :
  lJ false 2 a0 dV fun t4=>ay t4 (Q dV M0) (dH T 0 zs [] fun r f=>df r f M0 fun t5 M=>appW T size bytes zs false t5 a0 M fun t7 M_0=>Q t7 M_0):=by
 rcases h.Lr false with⟨rfl,e⟩ | ⟨hne,e⟩
 ·rw[e]
  cases h
  exact⟨fun _=>hQ _ _ .nil (ag.refl _ _),fun h=>by simp at h⟩
 ·rw[e]
  refine⟨fun h=>by simp at h,fun _=>⟨[],rfl, ?_⟩⟩
  have hk:ag [] M0 (M0.push (.row [] false T 0)):=(ag.refl _ _).push _
  refine uz (base:=M0.next) (Own.lit M0 (Nat.le_refl _)) (by simp[RM.push]) hs ((h.keep hk (by simp)).nQ _) h.length h1 (by rw[Nat.zero_add]; exact hn) (by omega) ?_
  intro v' M' ho hk' hnx hv
  exact hQ v' M' (by simpa using ho) (hk.aY hk' (by simp[aD]))
def FP (T size bytes:Nat) (c:au) : Prop:=∀ {M0:RM} {a0:AV} {cs:List AV} {n:Nat},aM M0 size a0 cs n→cs.all oneCell=true→n * bytes≤140737488355328→n≤140737488355328→∀ {Q:ak},
 (∀ v M',Own M' M0.next T size v cs n→ag [] M0 M'→Q v M')→c [a0] M0 Q
def bi (v:Nat) : List UInt8:=if v<128 then[UInt8.ofNat v] else UInt8.ofNat (v % 128 + 128) :: bi (v / 128)
 termination_by v
 decreasing_by omega
theorem BQ {v:Nat} (h:v<128) : bi v=[UInt8.ofNat v]:=by rw[bi,if_pos h]
theorem CP {v:Nat} (h:¬ v<128) : bi v=UInt8.ofNat (v % 128 + 128) :: bi (v / 128):=by rw[bi,if_neg h]
theorem La:∀ (k v:Nat),1≤k→v<128 ^ k→(bi v).length≤k
 | 0,_,h,_=>by omega
 | k + 1,v,_,h=>by
   by_cases hv:v<128
   ·rw[BQ hv]; simp
   ·rw[CP hv]
    simp only[List.length_cons]
    have:1≤k:=by
     rcases k with _ | k
     ·simp at h; omega
     ·omega
    have:=La k (v / 128) this (by rw[Nat.pow_succ] at h; omega)
    omega
abbrev ek (l:List UInt8) : List AV:=l.map fun b=>N .u8 b.toNat
theorem mM (l:List UInt8) : (ek l).all oneCell=true:=by simp[oneCell]
def Gi (T:Nat) (c:au) : Prop:=∀ {M0:RM} {a0:AV} {cs:List AV} {n v:Nat},aM M0 1 a0 cs n→cs.all oneCell=true→n + 10≤140737488355328→v<2 ^ 64→∀ {Q:ak},
 (∀ r M',Own M' M0.next T 1 r (cs++ek (bi v)) (n + (bi v).length)→ag [] M0 M'→Q r M')→c [a0,N .u64 v] M0 Q
theorem WU {T base:Nat} {M:RM} {b:AV} {cs:List AV} {n:Nat} {x:AV} {K:ak} (ho:Own M base T 1 b cs n) (hb:base≤M.next) (hx:oneCell x=true) (hc:x.cells=[x]) (hn:n + 1≤140737488355328)
  (hK:∀ v' M',Own M' base T 1 v' (cs++[x]) (n + 1)→ag (aD b) M M'→K v' M') : dH T 1 [N .u8 0] [(0,1,x)] fun r f=>df r f M fun t M1=>appW T 1 1 [N .u8 0] false b t M1 K:=by
 refine⟨[x],by simp[AZ,bW,hc,hx], ?_⟩
 dsimp only
 rw[bn]
 have hk:ag [] M (M.push (.row [x] false T 0)):=(ag.refl _ _).push _
 have hs:aM (M.push (.row [x] false T 0)) 1 (.slc M.next 0 1 (.ex 1)) [x] 1:=.slc _ _ _ _ _ (by simp[RM.push]) (RM.dx (RM.aQ _) (by simp))
 refine uz (ho.keep hk (by simp)) (Nat.le_trans hb hk.next) (Nat.le_refl _) (hs.nQ _) (by simp) (by simpa using hx) (by omega) (by omega) ?_
 intro v' M' h1 h2 h3 h4
 exact hK v' M' h1 ((hk.mono (by simp)).trans h2)
theorem akI (m:Nat) : N .u8 (orI .u8 (IntKind.u8.wrap (m:Int)) 128)=N .u8 ((UInt8.ofNat (m % 128 + 128)).toNat:Int):=by
 have e1:(128:Int)=((128:Nat) : Int):=rfl
 rw[e1,wrap_u8,abf rfl,Jy,as0 (by omega)]
 simp only[vz]
 congr 2
 omega
theorem aaS {m:Nat} (h:m<128) : N .u8 (IntKind.u8.wrap (m:Int))=N .u8 ((UInt8.ofNat m).toNat:Int):=by
 rw[wrap_u8,Jy]
theorem ax4 (m:Nat) : N .u64 (Te .u64 (m:Int) 7)=N .u64 ((m / 128:Nat) : Int):=by
 rw[show(7:Int)=((7:Nat) : Int) from rfl,Ha _ _ _ (by decide)]
theorem afA {T:Nat} {c:au} (hc:FP T 1 1 c) : Gi T fun args M Q=>∃ a0 a1,args=[a0,a1]∧YS c T a0 a1 M Q:=by
 intro M0 a0 cs n v h h1 hn hv Q hQ
 refine⟨a0,_,rfl, ?_⟩
 unfold YS
 refine hc h h1 (by omega) (by omega) fun b0 M ho hk=>?_
 refine aej (fun m xs M=>∃ b w done,m=w∧xs=[b,N .u64 (w:Nat)]∧Own M M0.next T 1 b (cs++ek done) (n + done.length)∧ag [] M0 M∧done++bi w=bi v∧w<2 ^ 64) v ⟨b0,v,[],rfl,rfl,by simpa using ho,hk,rfl,hv⟩ ?_
 rintro m ys M1 ⟨b,w,done,rfl,rfl,ho,hk,hd,hw⟩
 have hlen:=La 10 v (by omega) (by omega)
 rw[← hd,List.length_append] at hlen
 dsimp only
 simp only[go_sem,aa]
 refine⟨fun hge=>?_,fun hlt=>?_⟩
 ·have hge:¬ m<128:=by simp at hge; omega
  rw[CP hge,List.length_cons] at hlen
  refine WU ho hk.next rfl rfl (by omega) fun b' M' ho' hk'=>?_
  refine⟨by omega,m / 128,by omega,b',m / 128,done++[UInt8.ofNat (m % 128 + 128)],rfl, ?_, ?_,hk.aY hk' (fun c hc=>.inl (ho.blk c hc).1), ?_,by omega⟩
  ·rw[ax4]
  ·rw[akI] at ho'
   simpa [Nat.add_assoc] using ho'
  ·rw[← hd,CP hge]; simp
 ·have hlt:m<128:=by simp at hlt; omega
  refine WU ho hk.next rfl rfl (by rw[BQ hlt] at hlen; simp at hlen; omega) fun b' M' ho' hk'=>?_
  refine hQ b' M' ?_ (hk.aY hk' (fun c hc=>.inl (ho.blk c hc).1))
  rw[← hd,BQ hlt]
  rw[aaS hlt] at ho'
  simpa [Nat.add_assoc] using ho'
end Go.Ab.aC
namespace Go.Ab
open Go Go.RowKit
section
variable {P:Program}
theorem fF.opened {ρ:Ren} {M:RM} {w:World} {b n:Nat} {l:List AV} {el:Nat} {u:Value} (hw:fF P ρ M w) (hh:M.heap b=some (.row l true el 0)) (hl:l.length=n) (hv:az ρ (.slc b 0 n (.op 1)) u) :
  ∃ c,n≤c∧az ρ (.slc b 0 n (.ex c)) u∧fF P ρ (M.put b (.row (l++List.replicate (c - n) .top) true el 0)) w:=by
 obtain⟨A,hA⟩:=hw
 obtain⟨k,i,hb,hp,he,hk,rfl⟩:=Cb hv
 rcases hA.blk b _ hh with⟨y,hy,hle⟩ | ⟨_,e0,_⟩
 ·cases y <;> first | exact hle.elim | skip
  rename_i nn tree zs opn elem fz
  obtain⟨r1,rfl,rfl,rfl,r5⟩:=hle
  obtain⟨ob,hob,cs,fr,rfl,hrow⟩:=hA.rel.blk b i _ hb hy
  obtain⟨h0,hcs,hels⟩:=hrow.opn rfl
  have hk0:k=0:=by
   rcases Nat.eq_zero_or_pos k with e | e
   ·exact e
   ·have:0<k * i.esz:=Nat.mul_pos e h0
    omega
  subst hk0
  have hsh:=hrow.sh0
  rw[← he,Nat.mul_one,hsh,Nat.zero_add] at hcs
  refine⟨i.gL,by omega, ?_,⟨{ A with heap:=A.heap.set b (.row i.gL (Tree.ofList (l++List.replicate (i.gL - n) .top) 0 .leaf) [] true elem 0) },hA.next,⟨hA.rel.dom,fun b' i' x hb' hx=>?_,fun b1 b2 i1 i2 x1 x2 p1 p2 g1 g2 e=>?_,fun b' x hx=>?_,fun b' i' x hb' hx=>?_,hA.rel.inv⟩,hA.size,fun c x hx=>?_,hA.old⟩⟩
  ·have:=az.jB (ρ:=ρ) b 0 n i.gL i hb
   rw[Nat.zero_mul] at *
   simpa using this
  ·simp only[Tree.bQ] at hx
   by_cases e:b'=b
   ·subst e
    rw[if_pos rfl] at hx
    cases hx
    rw[hb] at hb'; cases hb'
    refine⟨_,hob,cs,fr,rfl,⟨by rw[hsh]; omega,fun j x hj=>?_,fun j h1 h2=>hrow.free j h1 h2,hrow.mark,fun _=>⟨h0,by rw[hsh,← he]; omega,hels⟩,hsh⟩⟩
    obtain⟨hjlt,hj2⟩:=mX hj
    rw[Tree.mK] at hj2
    split at hj2
    ·rename_i hlt
     rw[Nat.sub_zero] at hj2
     by_cases hjl:j<l.length
     ·rw[List.getElem?_append_left hjl] at hj2
      exact hrow.val j x (r5 j x hj2)
     ·rw[List.getElem?_append_right (by omega),List.getElem?_replicate] at hj2
      split at hj2
      ·cases hj2
       exact⟨cs[j]'(by omega),by rw[hsh,Nat.zero_add]; simp,.top _⟩
      ·cases hj2
    ·simp[Tree.get] at hj2
   ·rw[if_neg e] at hx
    exact hA.rel.blk b' i' x hb' hx
  ·have q:∀ {b1 x1},(A.heap.set b (dw.row i.gL (Tree.ofList (l++List.replicate (i.gL - n) .top) 0 .leaf) [] true elem 0)).get b1=some x1→∃ y,A.heap.get b1=some y:=by
    intro b1 x1 h
    rw[Tree.bQ] at h
    by_cases e:b1=b
    ·subst e; exact⟨_,hy⟩
    ·rw[if_neg e] at h; exact⟨_,h⟩
   obtain⟨y1,e1⟩:=q g1
   obtain⟨y2,e2⟩:=q g2
   exact hA.rel.sep _ _ _ _ _ _ p1 p2 e1 e2 e
  ·simp only[Tree.bQ] at hx
   by_cases e:b'=b
   ·subst e; exact hA.rel.top _ _ hy
   ·rw[if_neg e] at hx; exact hA.rel.top _ _ hx
  ·simp only[Tree.bQ] at hx
   by_cases e:b'=b
   ·subst e; exact hA.rel.lo _ _ _ hb' hy
   ·rw[if_neg e] at hx; exact hA.rel.lo _ _ _ hb' hx
  ·simp only[RM.put] at hx
   simp only[Tree.bQ]
   by_cases e:c=b
   ·subst e
    rw[if_pos rfl] at hx ⊢
    cases hx
    refine .inl ⟨_,rfl,by simp; omega,rfl,rfl,rfl,fun j v hj=>?_⟩
    have hjl:=(List.getElem?_eq_some_iff.1 hj).1
    exact zm (by simp at hjl; omega) (by rw[Tree.mK,if_pos (by omega)]; simpa using hj)
   ·rw[if_neg e] at hx ⊢
    exact hA.blk c x hx
 ·cases e0
theorem jH.ag3 {f:FuncId} {b n:Nat} {l:List AV} {el:Nat} {rest:List AV} {M:RM} {Q:ak} (hP:LD P f) (hh:M.heap b=some (.row l true el 0)) (hl:l.length=n)
  (h:∀ c,n≤c→jH P f (.slc b 0 n (.ex c) :: rest) (M.put b (.row (l++List.replicate (c - n) .top) true el 0)) Q) : jH P f (.slc b 0 n (.op 1) :: rest) M Q:=by
 refine⟨hP,fun ρ w us hargs hw=>?_⟩
 cases hargs with
 | cons _ u _ us hv hr =>
 obtain⟨c,hc,hv',hw'⟩:=hw.opened hh hl hv
 refine((h c hc).2 ρ w (u :: us) (.cons _ _ _ _ hv' hr) hw').mono fun e w' hR=>?_
 obtain⟨v',v,M',ρ',rfl,k1,k2,k3⟩:=hR
 exact⟨v',v,M',ρ',rfl,⟨k1.step,k1.rel,k1.base,k1.next⟩,k2,k3⟩
end
def RM.old (base:Base) (w:World) : RM where
 next:=base.n
 heap:=fun b=>if b<base.n then(match w.heap[b]? with | some (.cells c _ _)=>some (.ro c) | _=>none) else none
 base:=base
def XV (n:Nat) : Ren:=fun b=>if b<n then some ⟨b,0,0,0⟩ else none
theorem ag5 {P:Program} {base:Base} {w:World} (hn:base.n=w.heap.size) (hi:base.inv w) : fF P (XV base.n) (RM.old base w) w:=by
 refine⟨{ next:=base.n,heap:=.leaf },rfl,⟨fun b i h=>?_,fun b i x _ h=>by simp[Tree.get] at h,fun b _ i _ x _ _ _ h=>by simp[Tree.get] at h,fun b x h=>by simp[Tree.get] at h,fun b i x _ h=>by simp[Tree.get] at h,hi⟩,by simp[RM.old,RM.lo,hn],fun b x h=>.inr ?_,fun c hc=>by have hc' : c<base.n:=hc; simp only[XV]; rw[if_pos hc']⟩
 ·simp only[XV] at h
  split at h <;> first | (cases h; done) | skip
  cases h
  exact⟨by assumption,by rw[← hn]; assumption⟩
 ·simp only[RM.old] at h
  split at h <;> first | (cases h; done) | skip
  rename_i hlt
  split at h <;> first | (cases h; done) | skip
  rename_i c el fr hh
  cases h
  exact⟨c,rfl,hlt,el,fr,hh⟩
theorem RM.aff {base:Base} {w:World} {b:Nat} {c:Array Value} {el:TypeId} {fr:_} (hb:b<base.n) (h:w.heap[b]?=some (.cells c el fr)) : (RM.old base w).cells b=some (c.toList.map (vF base.n)):=by
 simp only[RM.cells,RM.old,if_pos hb,h]
def Db (lo:Nat) : Value→AV
 | .agg cs=>.agg (cs.toList.map (vF lo))
 | v=>vF lo v
theorem Yf {ρ:Ren} {lo:Nat} (h:∀ c,c<lo→ρ c=some ⟨c,0,0,0⟩) : ∀ (vs:List Value),bF ρ (vs.map (vF lo)) vs
 | []=>.nil
 | v :: vs=>.cons _ _ _ _ (Om h v) (Yf h vs)
theorem aiL {ρ:Ren} {lo:Nat} (h:∀ c,c<lo→ρ c=some ⟨c,0,0,0⟩) (v:Value) : az ρ (Db lo v) v:=by
 unfold Db
 split
 ·exact .agg _ _ (Yf h _)
 ·exact Om h v
theorem U8 {ρ:Ren} {lo:Nat} (h:∀ c,c<lo→ρ c=some ⟨c,0,0,0⟩) : ∀ (vs:List Value),bF ρ (vs.map (Db lo)) vs
 | []=>.nil
 | v :: vs=>.cons _ _ _ _ (aiL h v) (U8 h vs)
theorem jH.close {P:Program} {f:FuncId} {base:Base} {w:World} {us:Array Value} (hn:base.n=w.heap.size) (hi:base.inv w)
  (h:jH P f (us.toList.map (Db base.n)) (RM.old base w) fun v _=>v=Bo true) :
  Calls P f us w fun e w'=>e=.returned (.bool true)∧Below w.heap.size w w':=by
 have hr:=ag5 (P:=P) hn hi
 refine((h.2 (XV base.n) w us.toList (U8 (fun c hc=>by simp only[XV]; rw[if_pos hc]) _) hr)).mono fun e w' hR=>?_
 obtain⟨v',v,M',ρ',rfl,k1,k2,rfl⟩:=hR
 obtain⟨rfl,_⟩:=bu k2
 refine⟨rfl,k1.step.os,k1.step.tape,k1.step.output,k1.step.size,fun k hk=>k1.step.low k ?_⟩
 show k<base.n
 rw[hn]; exact hk
def FW:Option TypeDesc→Bool
 | some .bool | some (.int _) | some .string | some (.slice _) | some (.struct _) | some (.array _ _)=>false
 | _=>true
inductive Fits (P:Program) (M:RM) : TypeId→List AV→Prop
 | bool (t:TypeId) (b:Bool) : P.underlying t=some .bool→Fits P M t [Bo b]
 | int (t:TypeId) (k:IntKind) (n:Int) : P.underlying t=some (.int k)→k.min≤n→n≤k.max→Fits P M t [N k n]
 | str (t:TypeId) (s:List UInt8) : P.underlying t=some .string→s.length≤reachBytes→Fits P M t [St s]
 | agD (t e:TypeId) : P.underlying t=some (.slice e)→Fits P M t [dV]
 | emp (t e:TypeId) (b:Nat) : P.underlying t=some (.slice e)→Fits P M t [.emp b]
 | slc (t e:TypeId) (b o n c:Nat) (cs:List AV) : P.underlying t=some (.slice e)→b<M.next→n≤c→c * P.bytesOf e≤reachBytes→M.loads b o (n * P.cellsOf e)=some cs →
   (∀ i,i<n→Fits P M e ((cs.drop (i * P.cellsOf e)).take (P.cellsOf e)))→Fits P M t [.slc b o n (.ex c)]
 | struct (t:TypeId) (fs:Array Field) (cs:List AV) : P.underlying t=some (.struct fs)→cs.length=P.cellsOf t →
   (∀ (i:Nat) (f:Field),fs[i]?=some f→Fits P M f.type ((cs.drop f.offset).take (P.cellsOf f.type)))→Fits P M t cs
 | array (t e:TypeId) (n:Nat) (cs:List AV) : P.underlying t=some (.array n e)→cs.length=P.cellsOf t →
   (∀ i,i<n→Fits P M e ((cs.drop (i * P.cellsOf e)).take (P.cellsOf e)))→Fits P M t cs
 | other (t:TypeId) (cs:List AV) : FW (P.underlying t)=true→Fits P M t cs
 | zero (t e:TypeId) (cs:List AV) : P.underlying t=some (.slice e)→P.cellsOf e=0→Fits P M t cs
theorem IZ (a:Addr) : a.add 0=a:=by simp[Addr.add]
theorem AA {w:World} {base:Nat} {a:Addr} {n:Nat} {cs:List Value} (h:w.cells? base a n=some cs) : cs.length=n∧∀ i,i<n→w.cell? (a.add i)=cs[i]?:=by
 unfold World.cells? at h
 split at h
 ·exact⟨by simpa using mapM_some_length h,fun i hi=>mapM_some_get h i i (by simp[hi])⟩
 ·cases h
theorem cell?_at {w:World} {a:Addr} {v:Value} (h:w.cell? a=some v) : ∃ c el fr,w.heap[a.block]?=some (.cells c el fr)∧a.spot=none∧a.off<c.size∧c[a.off]?=some v:=by
 unfold World.cell? at h
 split at h
 ·rename_i c el fr hh
  split at h
  ·cases h
  ·rename_i hs
   exact⟨c,el,fr,hh,by simpa using hs,(Array.getElem?_eq_some_iff.1 h).1,h⟩
 ·cases h
section
variable {H:Type} {enc:TypeId × Value→H} {P:Program} {base:Base} {w:World}
theorem xZ {e:TypeId} {ds:List (DataW H)} {d:DataW H} (hd:d∈ds) {x:Nat} (hx:x∈d.weights P e) : x∈DataW.weightsAll P e ds:=by
 induction ds with
 | nil=>cases hd
 | cons y ys ih =>
   simp only[DataW.weightsAll,List.mem_append]
   rcases List.mem_cons.1 hd with rfl | hd
   ·exact .inl hx
   ·exact .inr (ih hd)
theorem Ej {x:Nat} : ∀ (ts:List TypeId) (ds:List (DataW H)) (i:Nat) (t:TypeId) (d:DataW H),ts[i]?=some t→ds[i]?=some d→x∈d.weights P t→x∈DataW.weightsEach P ts ds
 | [],_,_,_,_,h,_,_=>by simp at h
 | _ :: _,[],_,_,_,_,h,_=>by simp at h
 | t :: ts,d :: ds,0,t',d',h,h',hx=>by
   simp at h h'; subst h h'
   simp only[DataW.weightsEach,List.mem_append]; exact .inl hx
 | t :: ts,d :: ds,i + 1,t',d',h,h',hx=>by
   simp only[DataW.weightsEach,List.mem_append]
   exact .inr (Ej ts ds i t' d' (by simpa using h) (by simpa using h') hx)
theorem We (hn:base.n=w.heap.size) {held:Bool} : ∀ (fuel:Nat) (t:TypeId) (cs:List Value) (x:DataW H × List MemPlace),DataW.trod enc P w 0 (fun _=>true) held fuel t cs=some x →
  (∀ y∈x.1.weights P t,y≤reachBytes)→Fits P (RM.old base w) t (cs.map (vF base.n)):=by
 intro fuel
 induction fuel with
 | zero=>intro t cs x h; simp[DataW.trod] at h
 | succ m ih =>
   intro t cs x h hw
   cases hu:P.underlying t with
   | none=>exact .other _ _ (by rw[hu]; rfl)
   | some d =>
     cases d with
     | bool =>
       obtain⟨b,rfl,rfl⟩:=DataW.trod_bool hu h
       exact .bool t b hu
     | int k =>
       obtain⟨n,rfl,rfl,hwf⟩:=DataW.trod_int hu h
       simp only[Lit.wf,Bool.and_eq_true,decide_eq_true_eq] at hwf
       exact .int t k n hu hwf.1 hwf.2
     | string =>
       obtain⟨s,rfl,rfl,_⟩:=DataW.trod_string hu h
       exact .str t s.data.toList hu (hw _ (by simp[DataW.weights]))
     | slice e =>
       rcases DataW.trod_slice hu h with⟨rfl,rfl⟩ | ⟨a,len,cap,elems,rest,n,hm,rfl,rfl,_,hlc,_,hel,hget,hrest,_⟩
       ·exact .agD t e hu
       ·cases hm
        rcases Nat.eq_zero_or_pos (P.cellsOf e) with hz | hz
        ·exact .zero t e _ hu hz
        rcases Nat.eq_zero_or_pos cap with hc | hc
        ·have hl0:len=0:=by omega
         subst hc hl0
         exact .emp t e 0 hu
        ·obtain⟨hr1,hr2⟩:=hrest rfl
         have every:∀ i,i<cap→∃ es y,w.cells? 0 (a.add (i * P.cellsOf e)) (P.cellsOf e)=some es∧DataW.trod enc P w 0 (fun _=>true) held m e es=some y∧(y∈elems∨y∈rest):=by
          intro i hi
          by_cases hil:i<len
          ·have h1:=hget i hil
           have h2:elems[i]?=some (elems[i]'(by omega)):=by simp[hel,hil]
           rw[h2] at h1
           obtain⟨es,e1,e2⟩:=Option.bind_eq_some_iff.1 h1
           exact⟨es,_,e1,e2,.inl (List.getElem_mem _)⟩
          ·have h1:=hr2 (i - len) (by omega)
           rw[show len + (i - len)=i by omega] at h1
           have h2:rest[i - len]?=some (rest[i - len]'(by omega)):=by
            rw[List.getElem?_eq_getElem]
           rw[h2] at h1
           obtain⟨es,e1,e2⟩:=Option.bind_eq_some_iff.1 h1
           exact⟨es,_,e1,e2,.inr (List.getElem_mem _)⟩
         obtain⟨es0,_,k0,_,_⟩:=every 0 hc
         obtain⟨kl0,kg0⟩:=AA k0
         have hc0:=kg0 0 hz
         rw[List.getElem?_eq_getElem (by omega)] at hc0
         obtain⟨c,el,fr,hh,hsp,_,_⟩:=cell?_at hc0
         obtain⟨b,o,sp⟩:=a
         rw[Nat.zero_mul,IZ,IZ] at hh hsp
         simp only at hh hsp
         subst hsp
         have hblt:b<base.n:=by rw[hn]; exact(Array.getElem?_eq_some_iff.1 hh).1
         have hlast:o + cap * P.cellsOf e≤c.size:=by
          obtain⟨es1,_,k1,_,_⟩:=every (cap - 1) (by omega)
          obtain⟨kl1,kg1⟩:=AA k1
          have hc1:=kg1 (P.cellsOf e - 1) (by omega)
          rw[List.getElem?_eq_getElem (by omega)] at hc1
          obtain⟨c',el',fr',hh',_,hlt,_⟩:=cell?_at hc1
          rw[gM,gM] at hh' hlt
          simp only at hh' hlt
          rw[hh] at hh'
          cases hh'
          have:cap * P.cellsOf e=(cap - 1) * P.cellsOf e + P.cellsOf e:=by
           rw[← Nat.succ_mul]; congr 1; omega
          omega
         have ayC:vF base.n (.slice (some ⟨b,o,none⟩) len cap)=.slc b o len (.ex cap):=by
          obtain⟨cap,rfl⟩ : ∃ k,cap=k + 1:=⟨cap - 1,by omega⟩
          simp only[vF,if_pos hblt]
         have hcells:=RM.aff hblt hh
         have hle:len * P.cellsOf e≤cap * P.cellsOf e:=Nat.mul_le_mul_right _ hlc
         have hload:(RM.old base w).loads b o (len * P.cellsOf e)=some (((c.toList.map (vF base.n)).drop o).take (len * P.cellsOf e)):=by
          simp only[RM.loads,hcells]
          rw[if_pos (by simp; omega)]
         simp only[List.map_cons,List.map_nil,ayC]
         refine .slc t e b o len cap _ hu hblt hlc ?_ hload fun i hi=>?_
         ·have:=hw ((elems.length + rest.length) * P.bytesOf e) (by simp[DataW.weights,hu])
          rwa [hel,hr1,show len + (cap - len)=cap by omega] at this
         ·obtain⟨es,y,k1,k2,k3⟩:=every i (by omega)
          have hlen:=(AA k1).1
          have hes:((((c.toList.map (vF base.n)).drop o).take (len * P.cellsOf e)).drop (i * P.cellsOf e)).take (P.cellsOf e)=es.map (vF base.n):=by
           have hii:i * P.cellsOf e + P.cellsOf e≤len * P.cellsOf e:=by rw[← Nat.succ_mul]; exact Nat.mul_le_mul_right _ hi
           apply List.ext_getElem?
           intro j
           by_cases hj:j<P.cellsOf e
           ·have hg:=(AA k1).2 j hj
            rw[List.getElem?_take,if_pos hj,List.getElem?_drop,List.getElem?_take,if_pos (by omega),List.getElem?_drop,List.getElem?_map,List.getElem?_map,← hg]
            rw[gM,gM]
            simp only[World.cell?,hh]
            rw[Array.getElem?_toList]
            simp[Nat.add_assoc]
           ·rw[List.getElem?_eq_none (by simp; omega),List.getElem?_eq_none (by simp; omega)]
          rw[hes]
          refine ih e es y k2 fun z hz=>hw z ?_
          simp only[DataW.weights,hu,List.mem_cons,List.mem_append]
          rcases k3 with k3 | k3
          ·exact .inr (.inl (xZ (List.mem_map_of_mem k3) hz))
          ·exact .inr (.inr (xZ (List.mem_map_of_mem k3) hz))
     | struct fs =>
       obtain⟨xs,n,hm,rfl,hl,hxl,hget⟩:=DataW.trod_struct hu h
       cases hm
       refine .struct t fs _ hu (by simpa using hl) fun i f hf=>?_
       have h1:=hget i f hf
       have hi:i<fs.size:=(Array.getElem?_eq_some_iff.1 hf).1
       rw[List.getElem?_eq_getElem (by omega)] at h1
       rw[← List.map_drop,← List.map_take]
       refine ih _ _ _ h1 fun z hz=>hw z ?_
       simp only[DataW.weights,hu]
       refine Ej _ _ i f.type _ (by simp[hf]) (by rw[List.getElem?_map,List.getElem?_eq_getElem (by omega)]; rfl) hz
     | array n e =>
       obtain⟨xs,m',hm,rfl,hl,hxl,hget⟩:=DataW.trod_array hu h
       cases hm
       refine .array t e n _ hu (by simpa using hl) fun i hi=>?_
       have h1:=hget i hi
       rw[List.getElem?_eq_getElem (by omega)] at h1
       rw[← List.map_drop,← List.map_take]
       refine ih _ _ _ h1 fun z hz=>hw z ?_
       simp only[DataW.weights,hu]
       exact xZ (List.mem_map_of_mem (List.getElem_mem _)) hz
     | _=>exact .other _ _ (by rw[hu]; rfl)
end
section
variable {P:Program} {M:RM} {t:TypeId} {cs:List AV}
theorem Fits.LK (h:Fits P M t cs) {k:IntKind} (hu:P.underlying t=some (.int k)) : ∃ n:Int,cs=[N k n]∧k.min≤n∧n≤k.max:=by
 cases h with
 | int _ k' n h1 h2 h3=>rw[hu] at h1; cases h1; exact⟨n,rfl,h2,h3⟩
 | _=>simp_all [FW]
theorem Fits.SS (h:Fits P M t cs) (hu:P.underlying t=some .string) : ∃ s,cs=[St s]∧s.length≤reachBytes:=by
 cases h with
 | str _ s h1 h2=>exact⟨s,rfl,h2⟩
 | _=>simp_all [FW]
theorem Fits.QB (h:Fits P M t cs) {fs:Array Field} (hu:P.underlying t=some (.struct fs)) : cs.length=P.cellsOf t∧∀ (i:Nat) (f:Field),fs[i]?=some f→Fits P M f.type ((cs.drop f.offset).take (P.cellsOf f.type)):=by
 cases h with
 | struct _ fs' _ h1 h2 h3=>rw[hu] at h1; cases h1; exact⟨h2,h3⟩
 | _=>simp_all [FW]
theorem Fits.UI (h:Fits P M t cs) {e:TypeId} (hu:P.underlying t=some (.slice e)) (hz:0<P.cellsOf e) :
  ∃ v n ds,cs=[v]∧aM M (P.cellsOf e) v ds n∧n * P.bytesOf e≤reachBytes∧∀ i,i<n→Fits P M e ((ds.drop (i * P.cellsOf e)).take (P.cellsOf e)):=by
 cases h with
 | agD _ e' h1=>exact⟨_,0,[],rfl,.nil,by simp,fun i hi=>absurd hi (by omega)⟩
 | emp _ e' b h1=>exact⟨_,0,[],rfl,.emp b,by simp,fun i hi=>absurd hi (by omega)⟩
 | slc _ e' b o n c ds h1 h2 h3 h4 h5 h6 =>
   rw[hu] at h1; cases h1
   exact⟨_,n,ds,rfl,.slc b o n _ ds h2 h5,Nat.le_trans (Nat.mul_le_mul_right _ h3) h4,h6⟩
 | zero _ e' _ h1 h2=>rw[hu] at h1; cases h1; omega
 | _=>simp_all [FW]
theorem UA {α:Type} {size:Nat} (enc:α→List AV) (p:α→Prop) (hs:∀ a,(enc a).length=size) : ∀ (n:Nat) (ds:List AV),ds.length=n * size→(∀ i,i<n→∃ a,p a∧(ds.drop (i * size)).take size=enc a) →
  ∃ xs:List α,xs.length=n∧ds=xs.flatMap enc∧∀ x∈xs,p x
 | 0,ds,hl,_=>⟨[],rfl,by simpa using hl,by simp⟩
 | n + 1,ds,hl,h=>by
   obtain⟨a,pa,ha⟩:=h 0 (by omega)
   simp only[Nat.zero_mul,List.drop_zero] at ha
   have hl' : (ds.drop size).length=n * size:=by rw[List.length_drop,hl,Nat.succ_mul]; omega
   obtain⟨xs,h1,h2,h3⟩:=UA enc p hs n (ds.drop size) hl' fun i hi=>by
    obtain⟨b,pb,hb⟩:=h (i + 1) (by omega)
    refine⟨b,pb, ?_⟩
    rw[List.drop_drop,← hb,Nat.succ_mul,Nat.add_comm]
   refine⟨a :: xs,by simp[h1], ?_,fun x hx=>?_⟩
   ·rw[List.flatMap_cons,← h2,← ha,List.take_append_drop]
   ·rcases List.mem_cons.1 hx with rfl | hx
    ·exact pa
    ·exact h3 x hx
end
def RZ (P:Program) (t:TypeId) : Bool :=
 match P.underlying t with
 | some (.struct _) | some (.array _ _)=>true
 | _=>false
def xN (P:Program) (M:RM) (t:TypeId) (v:AV) : Prop :=
 match RZ P t with
 | true=>∃ cs,v=.agg cs∧Fits P M t cs
 | false=>Fits P M t [v]
theorem xN.agg {P:Program} {M:RM} {t:TypeId} {v:AV} (h:xN P M t v) (ha:RZ P t=true) : ∃ cs,v=.agg cs∧Fits P M t cs:=by
 unfold xN at h; rw[ha] at h; exact h
theorem xN.one {P:Program} {M:RM} {t:TypeId} {v:AV} (h:xN P M t v) (ha:RZ P t=false) : Fits P M t [v]:=by
 unfold xN at h; rw[ha] at h; exact h
section
variable {H:Type} {enc:TypeId × Value→H} {P:Program} {base:Base} {w:World}
theorem X7 {r:Reach} {b:Nat} {t:TypeId} {cs:Array Value} (h:Cell.okWide P w r b t (.agg cs)) : False:=by
 unfold Cell.okWide at h
 split at h <;> first | (rename_i e _; cases e; done) | skip
 all_goals first | (rename_i e; cases e; done) | skip
 unfold Cell.ok at h
 split at h <;> first | exact h | simp_all
theorem aiq (hn:base.n=w.heap.size) {r:Reach} {b:Nat} {held:Bool} {t:TypeId} {v:Value} {d:DataW H} {ps:List MemPlace} (hv:Value.okWide P w r b t v) (h:DataW.Trod enc P w 0 (fun _=>true) held t v d ps)
  (hw:∀ y∈d.weights P t,y≤reachBytes) : xN P (RM.old base w) t (Db base.n v):=by
 obtain⟨fuel,hf⟩:=h
 have hfit:=We hn fuel t _ _ hf hw
 unfold xN
 cases ha:RZ P t with
 | true =>
   have:∃ cs,v=.agg cs:=by
    unfold Value.okWide at hv
    unfold RZ at ha
    split at hv
    ·obtain⟨cs,h,_⟩:=hv; exact⟨cs,h⟩
    ·obtain⟨cs,h,_⟩:=hv; exact⟨cs,h⟩
    ·split at ha <;> simp_all
   obtain⟨cs,rfl⟩:=this
   exact⟨_,rfl,hfit⟩
 | false =>
   have hc:Cell.okWide P w r b t v:=by
    unfold Value.okWide at hv
    unfold RZ at ha
    split at hv
    ·simp_all
    ·simp_all
    ·exact hv
   have:v.cells.toList=[v]∧Db base.n v=vF base.n v:=by
    cases v with
    | agg cs=>exact(X7 hc).elim
    | _=>exact⟨rfl,rfl⟩
   rw[this.1] at hfit
   rw[this.2]
   exact hfit
theorem Zv (hn:base.n=w.heap.size) {r:Reach} {b:Nat} {held:Bool} : ∀ {ts:List TypeId} {vs:List Value} {ds:List (DataW H)} {ps:List MemPlace},DataW.TrodAll enc P w 0 (fun _=>true) held ts vs ds ps →
  (∀ (j:Nat) t v,ts[j]?=some t→vs[j]?=some v→Value.okWide P w r b t v)→(∀ y∈DataW.weightsEach P ts ds,y≤reachBytes) →
  ∀ (j:Nat) t v,ts[j]?=some t→vs[j]?=some v→xN P (RM.old base w) t (Db base.n v)
 | [],_,_,_,_,_,_,j,t,v,h,_=>by simp at h
 | t0 :: ts,vs,ds,ps,h,hv,hw,j,t,v,hj,hvj=>by
   cases vs with
   | nil=>simp at hvj
   | cons v0 vs =>
   cases ds with
   | nil=>exact h.elim
   | cons d ds =>
   obtain⟨p,q,h1,h2,_⟩:=h
   cases j with
   | zero =>
     simp at hj hvj; subst hj hvj
     exact aiq hn (hv 0 _ _ rfl rfl) h1 fun y hy=>hw y (by simp[DataW.weightsEach,hy])
   | succ j =>
     exact Zv hn h2 (fun j t v a b=>hv (j + 1) t v (by simpa using a) (by simpa using b)) (fun y hy=>hw y (by simp[DataW.weightsEach,hy])) j t v (by simpa using hj) (by simpa using hvj)
theorem IW (hl:laidOutB P=true) {W W' : World} {sp:Nat→Bool} (hb:Below W.heap.size W W') : ∀ {ts:List TypeId} {vs:List Value} {ds:List (DataW H)} {ps:List MemPlace},
  (∀ t∈ts,P.readableRec t=true∧t<P.types.size)→DataW.TrodAll enc P W 0 (fun _=>true) true ts vs ds ps→(∀ p∈ps,p.block<W.heap.size)→(∀ p∈ps,sp p.block=true)→DataW.TrodAll enc P W' 0 sp true ts vs ds ps
 | [],vs,ds,ps,_,h,_,_=>by
   cases vs <;> cases ds <;> first | exact h | exact h.elim
 | t :: ts,vs,ds,ps,hr,h,hlt,hsp=>by
   cases vs with
   | nil=>cases ds <;> exact h.elim
   | cons v vs =>
   cases ds with
   | nil=>exact h.elim
   | cons d ds =>
   obtain⟨p,q,h1,h2,rfl⟩:=h
   have hrt:=hr t (List.mem_cons_self ..)
   exact⟨p,q,WideElems.Trod_stays hl hrt.1 hrt.2 h1 (fun x hx=>hb.same (hlt x (List.mem_append_left _ hx))) (fun x hx=>hsp x (List.mem_append_left _ hx)),
    IW hl hb (fun t ht=>hr t (List.mem_cons_of_mem _ ht)) h2 (fun x hx=>hlt x (List.mem_append_right _ hx)) (fun x hx=>hsp x (List.mem_append_right _ hx)),rfl⟩
end
def RB.cells (lo:Nat) : RB→Option (List AV)
 | .row l _ _ _=>some l
 | .ro c=>some (c.toList.map (vF lo))
 | _=>none
@[go_sem] theorem RB.Dp (lo:Nat) (l:List AV) (p:Bool) (e f:Nat) : RB.cells lo (.row l p e f)=some l:=rfl
theorem RM.NV (M:RM) (b:Nat) : M.cells b=(M.heap b).bind (RB.cells M.lo):=by
 unfold RM.cells RB.cells
 cases M.heap b with
 | none=>rfl
 | some x=>cases x <;> rfl
def Ce (l:Option (List AV)) (o k:Nat) : Option (List AV) :=
 match l with
 | some l=>if o + k≤l.length then some ((l.drop o).take k) else none
 | none=>none
@[go_sem] theorem auZ (l:List AV) (o k:Nat) : Ce (some l) o k=if o + k≤l.length then some ((l.drop o).take k) else none:=rfl
theorem RM.Nl (M:RM) (b o k:Nat) : M.loads b o k=Ce (M.cells b) o k:=rfl
section
variable {M M' : RM}
@[go_sem] theorem RM.aeA (x:RB) (c:Nat) : (M.push x).heap c=if c=M.next then some x else M.heap c:=rfl
@[go_sem] theorem RM.heap_put (b:Nat) (x:RB) (c:Nat) : (M.put b x).heap c=if c=b then some x else M.heap c:=rfl
@[go_sem] theorem RM.aAA (b:Nat) (c:Nat) : (M.del b).heap c=if c=b then none else M.heap c:=rfl
@[go_sem] theorem RM.axN (x:RB) : (M.push x).base=M.base:=rfl
@[go_sem] theorem RM.aAx (b:Nat) (x:RB) : (M.put b x).base=M.base:=rfl
@[go_sem] theorem RM.aAI (b:Nat) : (M.del b).base=M.base:=rfl
theorem RM.PG (x:RB) (c:Nat) : (M.push x).cells c=if c=M.next then x.cells M.lo else M.cells c:=by
 simp only[RM.NV,RM.aeA]
 split <;> rfl
theorem RM.Ux (b:Nat) (x:RB) (c:Nat) : (M.put b x).cells c=if c=b then x.cells M.lo else M.cells c:=by
 simp only[RM.NV,RM.heap_put]
 split <;> rfl
@[go_sem] theorem RM.axI (x:RB) (c o:Nat) : (M.push x).cell c o=if c=M.next then(x.cells M.lo).bind (·[o]?) else M.cell c o:=by
 simp only[RM.cell,RM.PG]
 split <;> rfl
@[go_sem] theorem RM.azx (b:Nat) (x:RB) (c o:Nat) : (M.put b x).cell c o=if c=b then(x.cells M.lo).bind (·[o]?) else M.cell c o:=by
 simp only[RM.cell,RM.Ux]
 split <;> rfl
@[go_sem] theorem RM.avV (x:RB) (c o k:Nat) : (M.push x).loads c o k=if c=M.next then Ce (x.cells M.lo) o k else M.loads c o k:=by
 simp only[RM.Nl,RM.PG]
 split <;> rfl
@[go_sem] theorem RM.axP (b:Nat) (x:RB) (c o k:Nat) : (M.put b x).loads c o k=if c=b then Ce (x.cells M.lo) o k else M.loads c o k:=by
 simp only[RM.Nl,RM.Ux]
 split <;> rfl
def uj (l:List AV) (fz o:Nat) (vs:List AV) : Option (List AV) :=
 if o + vs.length≤l.length∧fz≤o∧vs.all oneCell=true then some (l.take o++vs++l.drop (o + vs.length)) else none
theorem sV {l vs:List AV} {fz o:Nat} (h1:o + vs.length≤l.length) (h2:fz≤o) (h3:vs.all oneCell=true) : uj l fz o vs=some (l.take o++vs++l.drop (o + vs.length)):=if_pos ⟨h1,h2,h3⟩
@[go_sem] theorem Vs {l vs:List AV} (h:vs.length=l.length) (h3:vs.all oneCell=true) : uj l 0 0 vs=some vs:=by
 rw[sV (by omega) (Nat.le_refl _) h3]
 simp[h]
theorem RM.Dt {b o:Nat} {vs l:List AV} {p:Bool} {e f:Nat} (h:M.heap b=some (.row l p e f)) : M.stores b o vs=(uj l f o vs).map fun l'=>M.put b (.row l' p e f):=by
 simp only[RM.stores,h,uj]
 split <;> rfl
theorem RM.aih {x y:RB} : (M.push x).put M.next y=M.push y:=by
 simp only[RM.put,RM.push]
 congr 1
 funext c
 split <;> rfl
theorem RM.Yc {x y:RB} {b:Nat} (hb:b≠M.next) : (M.push x).put b y=(M.put b y).push x:=by
 simp only[RM.put,RM.push]
 congr 1
 funext c
 by_cases h1:c=b
 ·subst h1; simp[hb]
 ·simp[h1]
theorem RM.QN {l vs:List AV} {p:Bool} {e f o:Nat} : (M.push (.row l p e f)).stores M.next o vs=(uj l f o vs).map fun l'=>M.push (.row l' p e f):=by
 rw[RM.Dt (RM.aQ _)]
 congr 1
 funext l'
 exact RM.aih
theorem RM.RA {M:RM} {b o:Nat} {vs:List AV} : M.stores b o vs=match M.heap b with
  | some (.row l p e f)=>(uj l f o vs).map fun l'=>M.put b (.row l' p e f)
  | _=>none:=by
 cases h:M.heap b with
 | none=>simp[RM.stores,h]
 | some x =>
   cases x with
   | row l p e f=>rw[RM.Dt h]
   | _=>simp[RM.stores,h]
@[go_sem] theorem RM.Rj {x:RB} {vs:List AV} {c o:Nat} (hc:c≠M.next) : (M.push x).stores c o vs=(M.stores c o vs).map (·.push x):=by
 rw[RM.RA,RM.RA,RM.agQ hc]
 split
 ·simp only[Option.map_map]
  congr 1
  funext l'
  exact RM.Yc hc
 ·rfl
@[go_sem] theorem RM.au0 {l vs:List AV} {p:Bool} {e f c o:Nat} : (M.push (.row l p e f)).stores c o vs =
  if c=M.next then(uj l f o vs).map fun l'=>M.push (.row l' p e f) else(M.stores c o vs).map (·.push (.row l p e f)):=by
 split
 ·rename_i h; subst h; exact RM.QN
 ·rename_i h; exact RM.Rj h
@[go_sem] theorem RM.ajH {b o:Nat} {l vs:List AV} {p:Bool} {e f:Nat} : (M.put b (.row l p e f)).stores b o vs=(uj l f o vs).map fun l'=>M.put b (.row l' p e f):=by
 rw[RM.Dt (RM.yX _ _)]
 congr 1
 funext l'
 simp only[RM.put]
 congr 1
 funext c
 split <;> rfl
@[go_sem] theorem aAY {α:Type} (a:α) (K:α→Prop) : (∃ x,some a=some x∧K x)=K a:=by simp
@[go_sem] theorem au1 {α β:Type} (f:α→β) (x:α) : (some x).map f=some (f x):=rfl
attribute [go_sem] Int.natCast_nonneg Int.toNat_natCast Nat.mul_one true_implies false_implies Bool.false_eq_true Bool.true_eq_false Bool.not_true Bool.not_false Bool.and_self Bool.and_true Bool.true_and Nat.le_refl List.append_nil List.nil_append if_true if_false Nat.lt_irrefl Nat.add_one_ne_zero true_and and_true Nat.zero_add Nat.add_zero List.drop_zero List.getElem?_cons_zero List.getElem?_cons_succ Option.bind_some List.take_succ_cons List.take_zero List.drop_succ_cons List.drop_nil List.take_nil
attribute [go_sem] iW List.all_cons List.all_nil List.length_cons List.length_nil
@[go_sem] theorem axF (cs:List AV) : (AV.agg cs).cells=cs:=rfl
@[go_sem] theorem ayM (v:Value) : (AV.sc v).cells=[.sc v]:=rfl
@[go_sem] theorem axL (b o:Nat) : (AV.ptr b o).cells=[.ptr b o]:=rfl
@[go_sem] theorem axE (b o n:Nat) (c:Cap) : (AV.slc b o n c).cells=[.slc b o n c]:=rfl
@[go_sem] theorem axK (b:Nat) : (AV.emp b).cells=[.emp b]:=rfl
@[go_sem] theorem axs (b:Nat) : (AV.map b).cells=[.map b]:=rfl
@[go_sem] theorem aAs (f:Fn) (xs ys:List AV) : (AV.fn f xs ys).cells=[.fn f xs ys]:=rfl
@[go_sem] theorem Xh (v:Value) : oneCell (.sc v)=true:=rfl
@[go_sem] theorem aAX (b o:Nat) : oneCell (.ptr b o)=true:=rfl
@[go_sem] theorem aAW (b o n:Nat) (c:Cap) : oneCell (.slc b o n c)=true:=rfl
@[go_sem] theorem aAU (b:Nat) : oneCell (.emp b)=true:=rfl
@[go_sem] theorem aAV (b:Nat) : oneCell (.map b)=true:=rfl
@[go_sem] theorem aA5 (f:Fn) (xs ys:List AV) : oneCell (.fn f xs ys)=true:=rfl
end
theorem RM.aiZ {M:RM} {b:Nat} {l:List AV} {p:Bool} {e f:Nat} (h:M.heap b=some (.row l p e f)) (o k:Nat) : M.loads b o k=Ce (some l) o k:=by rw[RM.Nl,RM.Dp h]
theorem RM.cell_of {M:RM} {b:Nat} {l:List AV} {p:Bool} {e f:Nat} (h:M.heap b=some (.row l p e f)) (o:Nat) : M.cell b o=l[o]?:=RM.agB h
theorem RM.zG {M:RM} {b:Nat} {l:List AV} {p:Bool} {e f:Nat} (h:M.heap b=some (.row l p e f)) (o:Nat) (vs:List AV) : M.stores b o vs=(uj l f o vs).map fun l'=>M.put b (.row l' p e f):=RM.Dt h
theorem ag.aN {bs:List Nat} {M M' : RM} (h:ag bs M M') {b:Nat} {x:RB} (hh:M.heap b=some x) (hlt:b<M.next) (hb:b ∉ bs) : M'.heap b=some x:=by rw[h.heap b hlt hb,hh]
def adO (tab run:iO) : iO:=fun f args A=>match tab f args A with
 | some r=>some r
 | none=>run f args A
def Md (P:Program) (X:Ext) (tab:iO) (L:Nat) : Nat→iO
 | 0,_,_,_=>none
 | n + 1,f,args,A=>match has X.split f with
   | true=>YU (VG P X L (adO tab (Md P X tab L n))) f args A
   | false=>VG P X L (adO tab (Md P X tab L n)) f args A
inductive Ans where
 | val (v:AV)
 | rows (n:Nat) (v:AV) (bs:List (Nat × dw)) (n' : Nat)
structure aP where
 args:List AV
 fp:List (Nat × dw):=[]
 dead:List Nat:=[]
 nx:Nat:=0
 ans:Ans
def zC:Tree dw→List (Nat × dw)→Tree dw
 | t,[]=>t
 | t,(b,x) :: r=>zC (t.set b x) r
def Jz:Tree dw→List Nat→Tree dw
 | t,[]=>t
 | t,b :: r=>Jz (t.del b) r
def LC (A:AW) : List (Nat × dw)→Bool
 | []=>true
 | (b,x) :: r=>match A.heap.get b with
   | some y=>Ij x y && LC A r
   | none=>false
def agT (A:AW) (e:aP) : Option (AV × AW) :=
 match LC A e.fp with
 | false=>none
 | true=>match e.ans with
   | .val v=>some (v,A)
   | .rows n v bs n'=>match Nat.beq n A.next with
     | true=>some (v,{ next:=n',heap:=zC (Jz A.heap e.dead) bs })
     | false=>none
def Lx:List aP→List AV→AW→Option (AV × AW)
 | [],_,_=>none
 | e :: es,args,A=>match uZ e.args args with
   | true=>match agT A e with
     | some r=>some r
     | none=>Lx es args A
   | false=>Lx es args A
abbrev Table:=List (Nat × List aP)
def Ho:Table→iO
 | [],_,_,_=>none
 | (g,es) :: T,f,args,A=>match Nat.beq g f with
   | true=>match Lx es args A with
     | some r=>some r
     | none=>Ho T f args A
   | false=>Ho T f args A
def P9:List Nat→Nat→Bool
 | [],_=>false
 | k :: ks,b=>match Nat.beq k b with
   | true=>true
   | false=>P9 ks b
mutual
def within (ks:List Nat) : AV→Bool
 | .sc _ | .top | .atl _=>true
 | .ptr b _ | .slc b _ _ _ | .emp b | .map b=>P9 ks b
 | .fn _ xs ys=>qV ks xs && qV ks ys
 | .ifc _ x=>within ks x
 | .agg xs | .tup xs=>qV ks xs
def qV (ks:List Nat) : List AV→Bool
 | []=>true
 | x :: xs=>within ks x && qV ks xs
end
theorem tN {b:Nat} : ∀ {ks:List Nat},P9 ks b=true↔b∈ks
 | []=>by simp[P9]
 | k :: ks=>by
   simp only[P9]
   split
   ·rename_i h
    simp[bS h]
   ·rename_i h
    rw[tN,List.mem_cons]
    constructor
    ·exact .inr
    ·rintro(e | e)
     ·exact absurd e.symm (DI h)
     ·exact e
mutual
theorem ug {ρ ρ' : Ren} {ks:List Nat} (hk:∀ b∈ks,∀ i,ρ b=some i→ρ' b=some i) : ∀ (x:AV) {v:Value},within ks x=true→az ρ x v→az ρ' x v
 | .top,v,_,_=>.top v
 | .atl k,v,_,hr=>by cases hr; exact .atl _ _ (by assumption)
 | .sc u,v,_,hr=>by cases hr; exact .sc _ (by assumption)
 | .ptr b o,v,h,hr=>by
   simp only[within] at h
   cases hr with
   | ptr _ _ i e=>exact .ptr _ _ i (hk b (tN.1 h) i e)
 | .slc b o l c,v,h,hr=>by
   simp only[within] at h
   cases hr with
   | jB _ _ _ c i e=>exact .jB _ _ _ c i (hk b (tN.1 h) i e)
   | mO _ k _ i e q=>exact .mO _ k _ i (hk b (tN.1 h) i e) q
 | .emp b,v,h,hr=>by
   simp only[within] at h
   cases hr with
   | emp _ a c=>exact .emp _ a c
 | .map b,v,h,hr=>by
   simp only[within] at h
   cases hr with
   | map _ i e=>exact .map _ i (hk b (tN.1 h) i e)
 | .fn f xs ys,v,h,hr=>by
   simp only[within,Bool.and_eq_true] at h
   cases hr with
   | fn _ _ _ us vs p a b=>exact .fn f xs ys us vs p (qU hk xs h.1 a) (qU hk ys h.2 b)
 | .ifc t x,v,h,hr=>by
   simp only[within] at h
   cases hr with
   | ifc _ _ v a=>exact .ifc t x v (ug hk x h a)
 | .agg xs,v,h,hr=>by
   simp only[within] at h
   cases hr with
   | agg _ vs a=>exact .agg xs vs (qU hk xs h a)
 | .tup xs,v,h,hr=>by
   simp only[within] at h
   cases hr with
   | tup _ vs a=>exact .tup xs vs (qU hk xs h a)
theorem qU {ρ ρ' : Ren} {ks:List Nat} (hk:∀ b∈ks,∀ i,ρ b=some i→ρ' b=some i) : ∀ (xs:List AV) {vs:List Value},qV ks xs=true→bF ρ xs vs→bF ρ' xs vs
 | [],vs,_,hr=>by cases hr; exact .nil
 | x :: xs,vs,h,hr=>by
   simp only[qV,Bool.and_eq_true] at h
   cases hr with
   | cons _ v _ vs a b=>exact .cons x v xs vs (ug hk x h.1 a) (qU hk xs h.2 b)
end
def FQ (p:AV→Bool) : Tree AV→Bool
 | .leaf=>true
 | .node l v r=>(match v with
   | some x=>p x
   | none=>true) && FQ p l && FQ p r
theorem Ep {p:AV→Bool} : ∀ {t:Tree AV} {k:Nat} {x:AV},FQ p t=true→t.get k=some x→p x=true
 | .leaf,k,x,_,h=>by simp[Tree.get] at h
 | .node l v r,k,x,ha,h=>by
   simp only[FQ,Bool.and_eq_true] at ha
   simp only[Tree.get] at h
   split at h
   ·rw[h] at ha; exact ha.1.1
   ·split at h
    ·exact Ep ha.1.2 h
    ·exact Ep ha.2 h
def QQ (ks:List Nat) : List (AV × AV × Nat)→Bool
 | []=>true
 | (k,v,_) :: es=>within ks k && within ks v && QQ ks es
def VI (ks:List Nat) : dw→Bool
 | .row _ t zs _ _ _=>FQ (within ks) t && qV ks zs
 | .map es _=>QQ ks es
 | .iter m _ _ _=>match m with
   | some b=>P9 ks b
   | none=>true
 | .nN _ _=>true
theorem Mw {ks:List Nat} : ∀ {xs:List AV},qV ks xs=true→∀ x∈xs,within ks x=true
 | [],_,x,h=>by cases h
 | y :: ys,h,x,hx=>by
   simp only[qV,Bool.and_eq_true] at h
   rcases List.mem_cons.1 hx with e | hx
   ·rw[e]; exact h.1
   ·exact Mw h.2 x hx
theorem abo {β:Type} : ∀ {l:List β} {n:Nat} {x:β},nth l n=some x→x∈l
 | [],_,_,h=>by simp[nth] at h
 | y :: ys,0,x,h=>by simp[nth] at h; simp[h]
 | y :: ys,n + 1,x,h=>by
   simp only[nth] at h
   exact List.mem_cons_of_mem _ (abo h)
theorem aex {tree:Tree AV} {zs:List AV} {n k:Nat} {x:AV} (h:cellAt tree zs n k=some x) : tree.get k=some x∨x∈zs:=by
 unfold cellAt at h
 split at h
 ·cases h
 ·split at h
  ·rename_i v hv
   cases h
   exact .inl hv
  ·split at h
   ·cases h
   ·cases h
    exact .inr (List.mem_cons_self ..)
   ·exact .inr (abo h)
theorem dS.restrict {ρ ρ' : Ren} {ks:List Nat} (hk:∀ b∈ks,∀ i,ρ b=some i→ρ' b=some i) : ∀ {es:List (AV × AV × Nat)} {fs:List MapEntry},QQ ks es=true→dS ρ es fs→dS ρ' es fs
 | [],[],_,_=>trivial
 | [],_ :: _,_,h=>h.elim
 | _ :: _,[],_,h=>h.elim
 | (a,b,n) :: es,f :: fs,h,⟨h1,h2,h3,h4⟩=>by
   simp only[QQ,Bool.and_eq_true] at h
   exact⟨ug hk a h.1.1 h1,ug hk b h.1.2 h2,h3,dS.restrict hk h.2 h4⟩
theorem kT.restrict {P:Program} {ρ ρ' : Ren} {ks:List Nat} (hk:∀ b∈ks,∀ i,ρ b=some i→ρ' b=some i) {i:jf} : ∀ {x:dw} {o:Obj},VI ks x=true→kT P ρ i x o→kT P ρ' i x o
 | .row n t zs opn el fz,o,h,⟨c,fr,e,k⟩=>by
   simp only[VI,Bool.and_eq_true] at h
   refine⟨c,fr,e,k.size,fun j x hx=>?_,k.free,k.mark,k.opn,k.sh0⟩
   obtain⟨v,h1,h2⟩:=k.val j x hx
   refine⟨v,h1,ug hk x ?_ h2⟩
   rcases aex hx with hx | hx
   ·exact Ep h.1 hx
   ·exact Mw h.2 x hx
 | .map es clock,o,h,⟨fs,e,k⟩=>⟨fs,e,dS.restrict hk h k⟩
 | .iter m since seen st,o,h,⟨m',e,k⟩=>by
   refine⟨m',e, ?_⟩
   cases m with
   | none=>exact k
   | some b =>
     obtain⟨j,h1,h2⟩:=k
     exact⟨j,hk b (tN.1 h) j h1,h2⟩
 | .nN s pos,o,h,k=>k
section
variable {P:Program} {X:Ext}
theorem Rx {base:Base} {tab run:iO} (ht:mF P base tab) (hr:mF P base run) : mF P base (adO tab run):=by
 intro f args A v A' h
 unfold adO at h
 split at h
 ·rename_i r hr'
  cases h
  exact ht f args A v A' hr'
 ·exact hr f args A v A' h
theorem EQ {base:Base} (hng:I4 P X) (hm:P.follows .mixedOrders=true) {tab:iO} (ht:mF P base tab) (L:Nat) : ∀ n,mF P base (Md P X tab L n)
 | 0=>by intro f args A v A' h; simp[Md] at h
 | n + 1=>by
   intro f args A v A' h
   simp only[Md] at h
   split at h
   ·exact Zn (Mv hng hm L (Rx ht (EQ hng hm ht L n))) f args A v A' h
   ·exact Mv hng hm L (Rx ht (EQ hng hm ht L n)) f args A v A' h
def tH (P:Program) (I:World→Prop) (f:Nat) (e:aP) : Prop :=
 ∀ (base:Base),(∀ w,base.inv w→I w)→∀ A v A',agT A e=some (v,A')→∀ (ρ:Ren) (w:World) (us:List Value),bF ρ e.args us→bX P base ρ A w→base≤w.heap.size →
   Calls P f ⟨us⟩ w fun r w'=>∃ ρ' v',r=.returned v'∧Step base A.next ρ w ρ' w'∧bX P base ρ' A' w'∧A.next≤A'.next∧az ρ' v v'
def jR (P:Program) (I:World→Prop) (T:Table) : Prop:=∀ g∈T,∀ e∈g.2,tH P I g.1 e
theorem Fu {base:Base} {I:World→Prop} (hI:∀ w,base.inv w→I w) {f:Nat} : ∀ (es:List aP),(∀ e∈es,tH P I f e)→∀ {args A v A'},Lx es args A=some (v,A')→∀ (ρ:Ren) (w:World) (us:List Value),bF ρ args us→bX P base ρ A w→base≤w.heap.size →
  Calls P f ⟨us⟩ w fun r w'=>∃ ρ' v',r=.returned v'∧Step base A.next ρ w ρ' w'∧bX P base ρ' A' w'∧A.next≤A'.next∧az ρ' v v'
 | [],_,args,A,v,A',h=>by simp[Lx] at h
 | e :: es,hes,args,A,v,A',h=>by
   simp only[Lx] at h
   split at h
   ·rename_i hq
    have hq:=sQ _ _ hq
    subst hq
    split at h
    ·rename_i r hr
     cases h
     exact hes e (List.mem_cons_self ..) base hI A v A' hr
    ·exact Fu hI es (fun e he=>hes e (List.mem_cons_of_mem _ he)) h
   ·exact Fu hI es (fun e he=>hes e (List.mem_cons_of_mem _ he)) h
theorem Fj {base:Base} {I:World→Prop} (hI:∀ w,base.inv w→I w) : ∀ (T:Table),jR P I T→mF P base (Ho T)
 | [],_=>by intro f args A v A' h; simp[Ho] at h
 | (g,es) :: T,hT=>by
   intro f args A v A' h
   have hrest:=Fj hI T (fun g hg=>hT g (List.mem_cons_of_mem _ hg))
   simp only[Ho] at h
   split at h
   ·rename_i hq
    have hq:=bS hq
    subst hq
    split at h
    ·rename_i r hr
     cases h
     exact Fu hI es (hT (g,es) (List.mem_cons_self ..)) hr
    ·exact hrest g args A v A' h
   ·exact hrest f args A v A' h
theorem AY:∀ (bs:List (Nat × dw)) (t:Tree dw) {k:Nat} {x:dw},(zC t bs).get k=some x→(k,x)∈bs∨(t.get k=some x∧∀ y,(k,y) ∉ bs)
 | [],t,k,x,h=>.inr ⟨h,fun y hy=>by cases hy⟩
 | (b,y) :: r,t,k,x,h=>by
   simp only[zC] at h
   rcases AY r _ h with h | ⟨h,hn⟩
   ·exact .inl (List.mem_cons_of_mem _ h)
   ·rw[Tree.bQ] at h
    split at h
    ·rename_i e
     cases h
     subst e
     exact .inl (List.mem_cons_self ..)
    ·rename_i hne
     refine .inr ⟨h,fun z hz=>?_⟩
     rcases List.mem_cons.1 hz with e | hz
     ·cases e; exact hne rfl
     ·exact hn z hz
theorem Gs:∀ (ds:List Nat) (t:Tree dw) {k:Nat} {x:dw},(Jz t ds).get k=some x→t.get k=some x∧k ∉ ds
 | [],t,k,x,h=>⟨h,by simp⟩
 | d :: r,t,k,x,h=>by
   simp only[Jz] at h
   obtain⟨h1,h2⟩:=Gs r _ h
   rw[Tree.yK] at h1
   split at h1
   ·cases h1
   ·rename_i hne
    exact⟨h1,by simp only[List.mem_cons,not_or]; exact⟨hne,h2⟩⟩
theorem KP {A:AW} : ∀ (l:List (Nat × dw)),LC A l=true→∀ b x,(b,x)∈l→A.heap.get b=some x
 | [],_,b,x,hm=>by cases hm
 | (c,y) :: r,h,b,x,hm=>by
   simp only[LC] at h
   split at h <;> first | (cases h; done) | skip
   rename_i z hz
   rw[Bool.and_eq_true] at h
   rcases List.mem_cons.1 hm with e | hm
   ·cases e
    rw[hz,Bp h.1]
   ·exact KP r h.2 b x hm
def keysOf:List (Nat × dw)→List Nat
 | []=>[]
 | (b,_) :: r=>b :: keysOf r
theorem Ie {b:Nat} : ∀ {l:List (Nat × dw)},b∈keysOf l↔∃ x,(b,x)∈l
 | []=>by simp[keysOf]
 | (c,y) :: r=>by
   simp only[keysOf,List.mem_cons,Ie (l:=r)]
   constructor
   ·rintro(e | ⟨x,h⟩)
    ·subst e; exact⟨y,.inl rfl⟩
    ·exact⟨x,.inr h⟩
   ·rintro⟨x,h | h⟩
    ·cases h; exact .inl rfl
    ·exact .inr ⟨x,h⟩
def abK (ks:List Nat) (n:Nat) : List (Nat × dw)→List Nat→Bool
 | [],_=>true
 | (b,x) :: r,seen=>VI ks x && Nat.ble (b + 1) n && !P9 seen b && abK ks n r (b :: seen)
theorem UB {ks:List Nat} {n:Nat} : ∀ (l:List (Nat × dw)) (seen:List Nat),abK ks n l seen=true→(∀ b x,(b,x)∈l→VI ks x=true∧b<n∧b ∉ seen)∧∀ b x y,(b,x)∈l→(b,y)∈l→x=y
 | [],_,_=>⟨fun b x h=>(by cases h),fun b x y h=>(by cases h)⟩
 | (c,z) :: r,seen,h=>by
   simp only[abK,Bool.and_eq_true,Bool.not_eq_true'] at h
   obtain⟨⟨⟨h1,h2⟩,h3⟩,h4⟩:=h
   obtain⟨i1,i2⟩:=UB r (c :: seen) h4
   have hc:c ∉ seen:=fun hm=>by rw[tN.2 hm] at h3; cases h3
   refine⟨fun b x hm=>?_,fun b x y hx hy=>?_⟩
   ·rcases List.mem_cons.1 hm with e | hm
    ·cases e; exact⟨h1,bL h2,hc⟩
    ·obtain⟨a1,a2,a3⟩:=i1 b x hm
     exact⟨a1,a2,fun h=>a3 (List.mem_cons_of_mem _ h)⟩
   ·rcases List.mem_cons.1 hx with e | hx <;> rcases List.mem_cons.1 hy with f | hy
    ·cases e; cases f; rfl
    ·cases e
     exact absurd (List.mem_cons_self ..) (i1 _ _ hy).2.2
    ·cases f
     exact absurd (List.mem_cons_self ..) (i1 _ _ hx).2.2
    ·exact i2 b x y hx hy
def QC (ks:List Nat) (n:Nat) (A:AW) : List (Nat × dw)→Bool
 | []=>true
 | (b,x) :: r=>(Nat.ble n b || P9 ks b) && (match A.heap.get b with
   | some y=>Ij x y
   | none=>false) && QC ks n A r
def Ka (A:AW) (gone:List Nat) : List (Nat × dw)→Bool
 | []=>true
 | (b,x) :: r=>(P9 gone b || (match A.heap.get b with
   | some y=>Ij x y
   | none=>false)) && Ka A gone r
def FX (e:aP) : Nat:=match e.ans with
 | .val _=>e.nx
 | .rows m _ _ _=>m
def NB (P:Program) (X:Ext) (tab:iO) (L n:Nat) (f:Nat) (e:aP) : Bool :=
 match qV (keysOf e.fp) e.args && abK (keysOf e.fp) (FX e) e.fp [] with
 | false=>false
 | true=>match Md P X tab L n f e.args { next:=FX e,heap:=zC .leaf e.fp } with
   | none=>false
   | some (v',A')=>match e.ans with
     | .val v=>within [] v && qQ v' v && Ka A' [] e.fp
     | .rows _ v bs m'=>qQ v' v && Nat.beq A'.next m' && QC (keysOf e.fp) (FX e) A' bs && Ka A' (keysOf bs++e.dead) e.fp
theorem ME {ks:List Nat} {n:Nat} {A:AW} : ∀ (bs:List (Nat × dw)),QC ks n A bs=true→∀ b x,(b,x)∈bs→(n≤b∨b∈ks)∧A.heap.get b=some x
 | [],_,b,x,hm=>by cases hm
 | (c,y) :: r,h,b,x,hm=>by
   simp only[QC,Bool.and_eq_true] at h
   obtain⟨⟨h1,h2⟩,h3⟩:=h
   rcases List.mem_cons.1 hm with e | hm
   ·cases e
    split at h2
    ·rename_i z hz
     rw[Bool.or_eq_true] at h1
     refine⟨?_, ?_⟩
     ·rcases h1 with h1 | h1
      ·exact .inl (bL h1)
      ·exact .inr (tN.1 h1)
     ·rw[hz,Bp h2]
    ·cases h2
   ·exact ME r h3 b x hm
theorem EM {gone:List Nat} {A:AW} : ∀ (l:List (Nat × dw)),Ka A gone l=true→∀ b x,(b,x)∈l→b∈gone∨A.heap.get b=some x
 | [],_,b,x,hm=>by cases hm
 | (c,y) :: r,h,b,x,hm=>by
   simp only[Ka,Bool.and_eq_true] at h
   obtain⟨h1,h3⟩:=h
   rcases List.mem_cons.1 hm with e | hm
   ·cases e
    rw[Bool.or_eq_true] at h1
    rcases h1 with h1 | h1
    ·exact .inl (tN.1 h1)
    ·split at h1
     ·rename_i z hz
      rw[hz,Bp h1]
      exact .inr rfl
     ·cases h1
   ·exact EM r h3 b x hm
theorem bX.none {P:Program} {base:Base} {n:Nat} {w:World} (hi:base.inv w) : bX P base (fun _=>none) { next:=n,heap:=.leaf } w :=
 ⟨fun _ _ h=>(by cases h),fun _ _ _ h=>(by cases h),fun _ _ _ _ _ _ h=>(by cases h),fun _ _ h=>(by simp[Tree.get] at h),fun _ _ _ h=>(by cases h),hi⟩
def only(ρ:Ren) (ks:List Nat) : Ren:=fun b=>if b∈ks then ρ b else none
theorem qW {ρ:Ren} {ks:List Nat} {b:Nat} {i:jf} (h:only ρ ks b=some i) : b∈ks∧ρ b=some i:=by
 unfold only at h
 split at h
 ·exact⟨‹_›,h⟩
 ·cases h
theorem FJ {ρ:Ren} {ks:List Nat} {b:Nat} (h:b∈ks) : only ρ ks b=ρ b:=by simp[only,h]
theorem Tz (hng:I4 P X) (hm:P.follows .mixedOrders=true) {I:World→Prop} {tab:iO} (ht:∀ base:Base,(∀ w,base.inv w→I w)→mF P base tab) {L n f:Nat} {e:aP} (h:NB P X tab L n f e=true) : tH P I f e:=by
 unfold NB at h
 split at h <;> first | (cases h; done) | skip
 rename_i hfl
 rw[Bool.and_eq_true] at hfl
 obtain⟨hwi,hfp⟩:=hfl
 obtain⟨hf1,hf2⟩:=UB _ _ hfp
 split at h <;> first | (cases h; done) | skip
 rename_i v1 A1 hc
 intro base hI A v A' ha ρ w us hargs hw hb
 unfold agT at ha
 split at ha <;> first | (cases ha; done) | skip
 rename_i hhas
 have hrow:=KP _ hhas
 -- the blocks alone
 let ks:=keysOf e.fp
 have hks:∀ {b},b∈ks↔∃ x,(b,x)∈e.fp:=Ie
 have hto:∀ b∈ks,∀ i,ρ b=some i→only ρ ks b=some i:=fun b hb i h=>by rw[FJ hb]; exact h
 have aqi:bF (only ρ ks) e.args us:=qU hto _ hwi hargs
 have Ry:∀ b x,(zC .leaf e.fp).get b=some x→(b,x)∈e.fp:=fun b x h=>by
  rcases AY _ _ h with h | ⟨h,_⟩
  ·exact h
  ·simp[Tree.get] at h
 have hw0:bX P base (only ρ ks) { next:=FX e,heap:=zC .leaf e.fp } w:=by
  refine⟨fun b i h=>?_,fun b i x h hx=>?_,fun b b' i i' x x' h h' hx hx' he=>?_,fun b x hx=>?_,fun b i x h hx=>?_,hw.inv⟩
  ·obtain⟨hbk,hbi⟩:=qW h
   obtain⟨x,hx⟩:=hks.1 hbk
   exact⟨(hf1 b x hx).2.1,(hw.dom b i hbi).2⟩
  ·obtain⟨hbk,hbi⟩:=qW h
   have hm:=Ry b x hx
   obtain⟨o,ho,hrel⟩:=hw.blk b i x hbi (hrow b x hm)
   exact⟨o,ho,hrel.restrict hto (hf1 b x hm).1⟩
  ·exact hw.sep _ _ _ _ _ _ (qW h).2 (qW h').2 (hrow _ _ (Ry _ _ hx)) (hrow _ _ (Ry _ _ hx')) he
  ·exact(hf1 b x (Ry b x hx)).2.1
  ·exact hw.lo b i x (qW h).2 (hrow _ _ (Ry _ _ hx))
 have adK:∀ b i,b ∉ ks→ρ b=some i→∀ x,A.heap.get b=some x→∀ b0 i0,only ρ ks b0=some i0→i0.cb≠i.cb:=by
  intro b i hbk hbi x hx b0 i0 h0 he
  obtain⟨h0k,h0i⟩:=qW h0
  obtain⟨x0,hx0⟩:=hks.1 h0k
  exact hbk (hw.sep _ _ _ _ _ _ h0i hbi (hrow _ _ hx0) hx he▸h0k)
 have main:=EQ hng hm (ht base hI) L n f _ _ _ _ hc (only ρ ks) w us aqi hw0 hb
 split at ha
 ·
  rename_i v0 abU
  cases ha
  rw[abU] at h
  dsimp only at h
  simp only[Bool.and_eq_true] at h
  obtain⟨⟨h1,h2⟩,h3⟩:=h
  have hv1:=yD _ _ h2
  subst hv1
  have hkept:=EM _ h3
  refine main.mono fun r w' hR=>?_
  obtain⟨ρ',v',rfl,hst,hwr,hnx,hv⟩:=hR
  have hback:∀ b∈ks,∀ i,ρ' b=some i→ρ b=some i:=fun b hbk i h=>by
   obtain⟨x,hx⟩:=hks.1 hbk
   rw[hst.ext b (hf1 b x hx).2.1,FJ hbk] at h
   exact h
  refine⟨ρ,v',rfl,⟨hst.os,hst.tape,hst.output,hst.size,fun c hc hun=>hst.frame c hc fun b i hbi=>hun b i (qW hbi).2,fun _ _=>rfl,fun b i h=>.inl ⟨b,i,h,rfl⟩,hst.low⟩,⟨fun b i h=>?_,fun b i x hbi hx=>?_,hw.sep,hw.top,hw.lo,hwr.inv⟩,Nat.le_refl _,ug (ks:=[]) (fun b hb=>by cases hb) _ h1 hv⟩
  ·exact⟨(hw.dom b i h).1,Nat.lt_of_lt_of_le (hw.dom b i h).2 hst.size⟩
  ·by_cases hbk:b∈ks
   ·obtain⟨y,hy⟩:=hks.1 hbk
    have hxy:x=y:=by have:=hrow b y hy; rw[hx] at this; exact Option.some.inj this
    subst hxy
    rcases hkept b x hy with hg | hg
    ·cases hg
    ·have hρ' : ρ' b=some i:=by rw[hst.ext b (hf1 b x hy).2.1,FJ hbk]; exact hbi
     obtain⟨o,ho,hrel⟩:=hwr.blk b i x hρ' hg
     exact⟨o,ho,hrel.restrict hback (hf1 b x hy).1⟩
   ·obtain⟨o,ho,hrel⟩:=hw.blk b i x hbi hx
    exact⟨o,by rw[hst.frame _ (hw.dom b i hbi).2 (adK b i hbk hbi x hx)]; exact ho,hrel⟩
 ·
  rename_i m v0 bs m' abU
  have hnext:FX e=m:=by unfold FX; rw[abU]
  rw[abU] at h
  dsimp only at h
  simp only[Bool.and_eq_true] at h
  obtain⟨⟨⟨h1,h2⟩,h3⟩,h4⟩:=h
  have hv1:=yD _ _ h1
  have h2:=bS h2
  subst hv1
  subst h2
  split at ha <;> first | (cases ha; done) | skip
  rename_i hn
  have hn:=bS hn
  rw[hnext,hn] at main hw0 hf1 h3
  cases ha
  have hrows:=ME bs h3
  have hkept:=EM _ h4
  refine main.mono fun r w' hR=>?_
  obtain⟨ρ',v',rfl,hst,hwr,hnx,hv⟩:=hR
  dsimp only at hst hnx
  let ρ2:Ren:=fun b=>if b<A.next then ρ b else ρ' b
  have hlo:∀ b,b<A.next→ρ2 b=ρ b:=fun b h=>by simp[ρ2,h]
  have hhi:∀ b,A.next≤b→ρ2 b=ρ' b:=fun b h=>by simp only[ρ2]; rw[if_neg (by omega)]
  have hold:∀ b i,b<A.next→ρ' b=some i→b∈ks∧ρ b=some i:=fun b i h hbi=>by
   rw[hst.ext b h] at hbi
   exact qW hbi
  have hle1:ρ.le ρ2:=fun b i h=>by rw[hlo b (hw.dom b i h).1]; exact h
  have hle2:ρ'.le ρ2:=fun b i h=>by
   rcases Nat.lt_or_ge b A.next with h' | h'
   ·rw[hlo b h']; exact(hold b i h' h).2
   ·rw[hhi b h']; exact h
  -- a row of the outcome: changed or new; or as it was
  have hget:∀ b i x,ρ2 b=some i→(zC (Jz A.heap e.dead) bs).get b=some x→(ρ' b=some i∧A1.heap.get b=some x)∨(b ∉ ks∧b<A.next∧ρ b=some i∧A.heap.get b=some x):=by
   intro b i x hbi hx
   rcases AY bs _ hx with hx | ⟨hx,hnb⟩
   ·obtain⟨hwh,hx⟩:=hrows b x hx
    refine .inl ⟨?_,hx⟩
    rcases Nat.lt_or_ge b A.next with h' | h'
    ·rcases hwh with hwh | hwh
     ·omega
     ·rw[hst.ext b h',FJ hwh,← hlo b h']; exact hbi
    ·rw[← hhi b h']; exact hbi
   ·obtain⟨hx,hnd⟩:=Gs _ _ hx
    have hbn:=hw.top b x hx
    rw[hlo b hbn] at hbi
    by_cases hbk:b∈ks
    ·obtain⟨y,hy⟩:=hks.1 hbk
     have hxy:x=y:=by have:=hrow b y hy; rw[hx] at this; exact Option.some.inj this
     subst hxy
     rcases hkept b x hy with hg | hg
     ·rcases List.mem_append.1 hg with hg | hg
      ·obtain⟨z,hz⟩:=Ie.1 hg
       exact absurd hz (hnb z)
      ·exact absurd hg hnd
     ·exact .inl ⟨by rw[hst.ext b hbn,FJ hbk]; exact hbi,hg⟩
    ·exact .inr ⟨hbk,hbn,hbi,hx⟩
  have Rn:∀ b i x b' i' x',b ∉ ks→ρ b=some i→A.heap.get b=some x→ρ' b'=some i'→A1.heap.get b'=some x'→i.cb≠i'.cb:=by
   intro b i x b' i' x' hbk hbi hx hb' hx' he
   rcases hst.fresh b' i' hb' with⟨b0,i0,h0,e0⟩ | hge
   ·exact adK b i hbk hbi x hx b0 i0 h0 (by rw[e0,he])
   ·have:=(hw.dom b i hbi).2; omega
  refine⟨ρ2,v',rfl,⟨hst.os,hst.tape,hst.output,hst.size,fun c hc hun=>hst.frame c hc fun b i hbi=>hun b i (qW hbi).2,fun b h=>hlo b h,fun b i h=>?_,hst.low⟩,⟨fun b i h=>?_,fun b i x h1 h2=>?_,fun b b' i i' x x' hb hb' hx hx' he=>?_,fun b x h=>?_,fun b i x h1 h2=>?_,hwr.inv⟩,hnx,hv.mono hle2⟩
  ·rcases Nat.lt_or_ge b A.next with h' | h'
   ·rw[hlo b h'] at h; exact .inl ⟨b,i,h,rfl⟩
   ·rw[hhi b h'] at h
    rcases hst.fresh b i h with⟨b0,i0,h0,e0⟩ | hge
    ·exact .inl ⟨b0,i0,(qW h0).2,e0⟩
    ·exact .inr hge
  ·rcases Nat.lt_or_ge b A.next with h' | h'
   ·rw[hlo b h'] at h
    exact⟨Nat.lt_of_lt_of_le (hw.dom b i h).1 hnx,Nat.lt_of_lt_of_le (hw.dom b i h).2 hst.size⟩
   ·rw[hhi b h'] at h
    exact hwr.dom b i h
  ·rcases hget b i x h1 h2 with⟨g1,g2⟩ | ⟨g1,g2,g3,g4⟩
   ·obtain⟨o,ho,hrel⟩:=hwr.blk b i x g1 g2
    exact⟨o,ho,hrel.mono hle2⟩
   ·obtain⟨o,ho,hrel⟩:=hw.blk b i x g3 g4
    exact⟨o,by rw[hst.frame _ (hw.dom b i g3).2 (adK b i g1 g3 x g4)]; exact ho,hrel.mono hle1⟩
  ·rcases hget b i x hb hx with⟨g1,g2⟩ | ⟨g1,g2,g3,g4⟩ <;> rcases hget b' i' x' hb' hx' with⟨k1,k2⟩ | ⟨k1,k2,k3,k4⟩
   ·exact hwr.sep _ _ _ _ _ _ g1 k1 g2 k2 he
   ·exact absurd he.symm (Rn b' i' x' b i x k1 k3 k4 g1 g2)
   ·exact absurd he (Rn b i x b' i' x' g1 g3 g4 k1 k2)
   ·exact hw.sep _ _ _ _ _ _ g3 k3 g4 k4 he
  ·rcases AY bs _ h with h | ⟨h,_⟩
   ·exact hwr.top b x (hrows b x h).2
   ·exact Nat.lt_of_lt_of_le (hw.top b x (Gs _ _ h).1) hnx
  ·rcases hget b i x h1 h2 with⟨g1,g2⟩ | ⟨g1,g2,g3,g4⟩
   ·exact hwr.lo b i x g1 g2
   ·exact hw.lo b i x g3 g4
def lc (P:Program) (X:Ext) (T:Table) (L n:Nat) (B:Table) : Bool:=B.all fun g=>g.2.all (NB P X (Ho T) L n g.1)
theorem jR.nil {I:World→Prop} : jR P I []:=fun g hg=>by cases hg
theorem jR.add (hng:I4 P X) (hm:P.follows .mixedOrders=true) {I:World→Prop} {T B:Table} (hT:jR P I T) {L n:Nat} (h:lc P X T L n B=true) : jR P I (B++T):=by
 intro g hg e he
 rcases List.mem_append.1 hg with hg | hg
 ·exact Tz hng hm (fun base hI=>Fj hI T hT) (List.all_eq_true.1 (List.all_eq_true.1 h g hg) e he)
 ·exact hT g hg e he
open Go.WideShapes Go.ChangeShapes in
open Go.WideShapes Go.ChangeShapes in
end
structure Enc (α:Type) where
 size:Nat
 cells:α→List AV
 len:∀ a,(cells a).length=size
 one:∀ a,(cells a).all oneCell=true
section
variable {α:Type} (E:Enc α)
def Enc.row (xs:List α) : List AV:=xs.flatMap E.cells
theorem Enc.jF (x:α) (xs:List α) : E.row (x :: xs)=E.cells x++E.row xs:=rfl
theorem Enc.xQ (xs ys:List α) : E.row (xs++ys)=E.row xs++E.row ys:=by simp[Enc.row]
theorem Enc.row_one (x:α) : E.row [x]=E.cells x:=by simp[Enc.row]
theorem Enc.fo:∀ (xs:List α),(E.row xs).length=xs.length * E.size
 | []=>by simp[Enc.row]
 | x :: xs=>by rw[Enc.jF,List.length_append,E.len,Enc.fo xs,List.length_cons,Nat.succ_mul,Nat.add_comm]
theorem Enc.qX:∀ (xs:List α),(E.row xs).all oneCell=true
 | []=>by simp[Enc.row]
 | x :: xs=>by rw[Enc.jF,List.all_append,E.one,Enc.qX xs]; rfl
theorem Enc.vE:∀ (xs:List α) (i:Nat),(E.row xs).drop (i * E.size)=E.row (xs.drop i)
 | [],i=>by simp[Enc.row]
 | x :: xs,0=>by simp
 | x :: xs,i + 1=>by
   rw[Enc.jF,Nat.succ_mul,Nat.add_comm,← List.drop_drop,List.drop_left' (E.len x),Enc.vE xs i]
   rfl
theorem Enc.vI:∀ (xs:List α) (i:Nat),(E.row xs).take (i * E.size)=E.row (xs.take i)
 | [],i=>by simp[Enc.row]
 | x :: xs,0=>by simp[Enc.row]
 | x :: xs,i + 1=>by
   rw[Enc.jF,Nat.succ_mul,Nat.add_comm,List.take_append,List.take_of_length_le (by rw[E.len]; omega),E.len,Nat.add_sub_cancel_left,Enc.vI xs i]
   rfl
theorem Enc.abj {xs:List α} {i:Nat} (hi:i<xs.length) : ((E.row xs).drop (i * E.size)).take E.size=E.cells xs[i]:=by
 rw[Enc.vE,List.drop_eq_getElem_cons hi,Enc.jF]
 rw[List.take_append_of_le_length (by rw[E.len]; exact Nat.le_refl _),List.take_of_length_le (by rw[E.len]; exact Nat.le_refl _)]
abbrev Sl (M:RM) (v:AV) (xs:List α) : Prop:=aM M E.size v (E.row xs) xs.length
abbrev Ow (M:RM) (base el:Nat) (v:AV) (xs:List α) : Prop:=Own M base el E.size v (E.row xs) xs.length
variable {E} {M M' : RM} {v:AV} {xs:List α}
theorem Sl.elem (h:Sl E M v xs) {i:Nat} (hi:i<xs.length) : ∃ b o,b<M.next∧b∈aD v∧(∀ (kd:IntKind) (K:AV→Prop),ax v (N kd (i:Int)) E.size K=K (.ptr b o))∧M.loads b o E.size=some (E.cells xs[i]):=by
 obtain⟨b,o,cap,rfl,hb,hl⟩:=h.pos (by omega)
 have hsum:i * E.size + E.size≤xs.length * E.size:=by rw[← Nat.succ_mul]; exact Nat.mul_le_mul_right _ hi
 refine⟨b,o + i * E.size,hb,by simp[aD],fun kd K=>?_, ?_⟩
 ·rw[oP]
  simp only[Int.toNat_natCast]
  exact propext ⟨fun h=>h.2.2,fun h=>⟨by omega,by omega,h⟩⟩
 ·rw[qy hl (i * E.size) E.size hsum,E.abj hi]
theorem Sl.at (h:Sl E M v xs) {i:Nat} (sz:Nat) (j:Int) (hi:i<xs.length) (hsz:E.size=sz:=by rfl) (hj:j=(i:Int):=by rfl) : ∃ b o,b<M.next∧b∈aD v∧(∀ (kd:IntKind) (K:AV→Prop),ax v (N kd j) sz K=K (.ptr b o))∧M.loads b o sz=some (E.cells xs[i]):=by
 subst hsz hj; exact h.elem hi
theorem kw {b o k:Nat} {cs:List AV} (h:M.loads b o k=some cs) {j:Nat} {x:AV} (hj:cs[j]?=some x) : M.cell b (o + j)=some x:=by
 have hlt:j<k:=by rw[← Jt h]; exact(List.getElem?_eq_some_iff.1 hj).1
 rw[afC h j hlt,hj]
theorem Ui {b o k:Nat} {cs:List AV} (h:M.loads b o k=some cs) {x:AV} (hj:cs[0]?=some x) : M.cell b o=some x:=kw h hj
theorem uy {base T bytes:Nat} {zs:List AV} {u:AV} {ys:List α} {K:ak} (ho:Ow E M base T v xs) (hb:base≤M.next) (hs:1≤E.size) (hu:Sl E M u ys)
  (hn:(xs.length + ys.length) * bytes≤140737488355328) (hn2:xs.length + ys.length≤140737488355328)
  (hK:∀ v' M',Ow E M' base T v' (xs++ys)→ag (aD v) M M'→M.next≤M'.next→(v'=v∨∀ b∈aD v',M.next≤b)→K v' M') :
  appW T E.size bytes zs false v u M K:=by
 refine uz ho hb hs (aM.nQ hu _) (E.fo ys) (E.qX ys) hn hn2 ?_
 intro v' M' h1 h2 h3 h4
 refine hK v' M' ?_ h2 h3 h4
 rw[← E.xQ] at h1
 simpa [Ow] using h1
theorem tT {b o k:Nat} {cs:List AV} (h:M.loads b o k=some cs) (m:Nat) (hm:m≤k) : M.loads b o m=some (cs.take m):=qy h 0 m (by omega)
theorem Sl.new {T c:Nat} {p:Bool} (ys:List α) : Sl E (M.push (.row (E.row ys) p T 0)) (.slc M.next 0 ys.length (.ex c)) ys :=
 .slc _ _ _ _ _ (by simp[RM.push]) (by rw[RM.dx (RM.aQ _) (by rw[E.fo]; omega),List.drop_zero,← E.fo,List.take_length])
theorem yU {base T bytes:Nat} {zs:List AV} {a:α} {K:ak} (ho:Ow E M base T v xs) (hb:base≤M.next) (hs:1≤E.size)
  (hn:(xs.length + 1) * bytes≤140737488355328) (hn2:xs.length + 1≤140737488355328)
  (hK:∀ v' M',Ow E M' base T v' (xs++[a])→ag (aD v) M M'→M.next≤M'.next→(v'=v∨∀ b∈aD v',M.next≤b)→K v' M') :
  appW T E.size bytes zs false v (.slc M.next 0 1 (.ex 1)) (M.push (.row (E.cells a) false T 0)) K:=by
 have hk:ag [] M (M.push (.row (E.cells a) false T 0)):=(ag.refl _ _).push _
 refine uy (ys:=[a]) (Own.keep ho hk (by simp)) (Nat.le_trans hb hk.next) hs (by rw[← E.row_one]; exact Sl.new [a]) hn hn2 ?_
 intro v' M' h1 h2 h3 h4
 exact hK v' M' h1 ((hk.mono (by simp)).trans h2) (Nat.le_trans hk.next h3) (h4.imp id fun h b hb=>Nat.le_trans hk.next (h b hb))
@[go_sem] theorem akj {T:Nat} {zs:List AV} {K:RB→(Nat→AV)→Prop} : dH T 0 zs [] K=K (.row [] false T 0) (fun b=>.slc b 0 0 (.ex 0)):=by
 apply propext; unfold dH
 constructor
 ·rintro⟨l,h,hk⟩; cases h; exact hk
 ·intro hk; exact⟨_,rfl,hk⟩
theorem lv {T size:Nat} {zs:List AV} {x:AV} {K:RB→(Nat→AV)→Prop} (h:x.cells.length=size) (h1:x.cells.all oneCell=true) (hz:zs.length=size) :
  dH T 1 zs [(0,size,x)] K=K (.row x.cells false T 0) (fun b=>.slc b 0 1 (.ex 1)):=by
 have:AZ (bW zs 1) [(0,size,x)]=some x.cells:=by
  simp only[AZ,bW,List.append_nil,h1,h,Nat.zero_add,hz,Nat.le_refl,and_self,if_true,List.take_zero,List.nil_append]
  rw[List.drop_of_length_le (by omega),List.append_nil]
 apply propext; unfold dH
 constructor
 ·rintro⟨l,h,hk⟩; rw[this] at h; cases h; exact hk
 ·intro hk; exact⟨_,this,hk⟩
theorem Ow.lit (E:Enc α) {T:Nat} (M:RM) : Ow E (M.push (.row [] false T 0)) M.next T (.slc M.next 0 0 (.ex 0)) []:=Own.lit M (Nat.le_refl _)
theorem dK {i:Nat} (h:i<9223372036854775807) : IntKind.wrap .i64 ((i:Int) + 1)=((i + 1:Nat) : Int):=by
 rw[bE (by omega) (by omega)]; rfl
end
@[go_sem] theorem PI:eH [] [] []=some true:=rfl
@[go_sem] theorem Rl (ks:List Nat) (k:IntKind) (a b:Int) (xs ys:List AV) : eH (1 :: ks) (N k a :: xs) (N k b :: ys)=if a=b then eH ks xs ys else some false:=by
 simp only[eH,xO,if_true]
 by_cases h:a=b
 ·simp[h]
 ·have:(a == b)=false:=by simp[h]
  simp[this,h]
@[go_sem] theorem acm (ks:List Nat) (a b:List UInt8) (xs ys:List AV) : eH (2 :: ks) (St a :: xs) (St b :: ys)=if a=b then eH ks xs ys else some false:=by
 simp only[eH,xO]
 by_cases h:a=b
 ·simp[h]
 ·have:(a == b)=false:=by simp[h]
  simp[this,h]
@[go_sem] theorem au2 (ks:List Nat) (a b:Bool) (xs ys:List AV) : eH (3 :: ks) (Bo a :: xs) (Bo b :: ys)=if a=b then eH ks xs ys else some false:=by
 simp only[eH,xO]
 by_cases h:a=b
 ·simp[h]
 ·have:(a == b)=false:=by simp[h]
  simp[this,h]
theorem qz {neg:Bool} {ks:List Nat} {cs ds:List AV} {r:Bool} {K:AV→Prop} (h1:cs.length=ks.length) (h2:ds.length=ks.length) (h:eH ks cs ds=some r) : nE neg ks (.agg cs) (.agg ds) K=K (Bo (r != neg)):=by
 rw[ad9]
 apply propext
 constructor
 ·rintro⟨_,_,r',h',hk⟩; rw[h] at h'; cases h'; exact hk
 ·intro hk; exact⟨h1,h2,r,h,hk⟩
theorem gT (x:AV) (w:Bool) (f g:ak→Prop) (F G:AV→RM→ak→Prop) (k:ak) :
  ah x w f g (fun v M=>ah x w (F v M) (G v M) k)=ah x w (fun k'=>f fun v M=>F v M k') (fun k'=>g fun v M=>G v M k') k:=by
 unfold ah oG
 split
 ·split <;> simp_all
 ·rfl
 ·rfl
theorem gU (x:AV) (w:Bool) (f g:KR→Prop) (F G:AV→RM→Option Nat→KR→Prop) (k:KR) :
  ae x w f g (fun v M b=>ae x w (F v M b) (G v M b) k)=ae x w (fun k'=>f fun v M b=>F v M b k') (fun k'=>g fun v M b=>G v M b k') k:=by
 unfold ae oG
 split
 ·split <;> simp_all
 ·rfl
 ·rfl
theorem fG (x:AV) (w:Bool) (f g:KR→Prop) (F G:AV→RM→Option Nat→ak→Prop) (k:ak) :
  ae x w f g (fun v M b=>ah x w (F v M b) (G v M b) k)=ah x w (fun k'=>f fun v M b=>F v M b k') (fun k'=>g fun v M b=>G v M b k') k:=by
 unfold ae ah oG
 split
 ·split <;> simp_all
 ·rfl
 ·rfl
theorem ig (x:AV) (w:Bool) (f g:ak→Prop) (F G:AV→RM→KR→Prop) (k:KR) :
  ah x w f g (fun v M=>ae x w (F v M) (G v M) k)=ae x w (fun k'=>f fun v M=>F v M k') (fun k'=>g fun v M=>G v M k') k:=by
 unfold ae ah oG
 split
 ·split <;> simp_all
 ·rfl
 ·rfl
theorem aK {body:(List AV→RM→Prop)→List AV→RM→Prop} {xs:List AV} {M:RM} (I:Nat→List AV→RM→Prop) (n:Nat) (h0:I n xs M)
  (hb:∀ (next:List AV→RM→Prop) m ys M',(∀ m' zs M'',m'<m→I m' zs M''→next zs M'')→I m ys M'→body next ys M') : aV body xs M :=
 ⟨I,n,h0,fun m ys M' hI=>hb _ m ys M' (fun m' zs M'' hlt h=>⟨m',hlt,h⟩) hI⟩
theorem adR {P:Program} {I:World→Prop} {T:Table} (hT:jR P I T) {f:FuncId} {args:List AV} {v:AV} {M:RM} {Q:ak} (hP:LD P f) (hl:∀ A,Ho T f args A=some (v,A))
  (hI:∀ w,M.base.inv w→I w) (hQ:Q v M) : jH P f args M Q:=by
 refine⟨hP,fun ρ w us hargs hw=>?_⟩
 obtain⟨A,hA⟩:=hw
 refine(Fj (base:=M.base) hI T hT f args A v A (hl A) ρ w us hargs hA.rel hA.size).mono fun e w' hR=>?_
 obtain⟨ρ',v',rfl,hst,hw',_,hv⟩:=hR
 refine⟨v',v,M,ρ',rfl,oL hA hst hw' rfl hA.next (Nat.le_refl _) (fun b x hx=>?_),hv,hQ⟩
 rcases hA.blk b x hx with h | ⟨c,rfl,_⟩
 ·exact .inl h
 ·exact .inr ⟨c,rfl,hx⟩
abbrev By (b:UInt8) : AV:=N .u8 (b.toNat:Int)
def BY:Enc UInt8:=⟨1,fun b=>[By b],fun _=>rfl,fun _=>rfl⟩
theorem CR (s:List UInt8) : BY.row s=s.map By:=by
 induction s with
 | nil=>rfl
 | cons b s ih=>rw[Enc.jF,ih]; rfl
def xV:Enc (List UInt8):=⟨1,fun s=>[St s],fun _=>rfl,fun _=>rfl⟩
def INT:Enc Int:=⟨1,fun n=>[N .i64 n],fun _=>rfl,fun _=>rfl⟩
def aU:Enc Nat:=⟨1,fun n=>[N .u64 (n:Int)],fun _=>rfl,fun _=>rfl⟩
theorem FN (s:List Nat) : aU.row s=s.map (fun(s:Nat)=>N .u64 (s:Int)):=by
 induction s with
 | nil=>rfl
 | cons b s ih=>rw[Enc.jF,ih]; rfl
theorem PT:∀ (s:List UInt8),eX byteOf (s.map By)=some s
 | []=>rfl
 | b :: s=>by
   simp only[List.map_cons,eX,byteOf,PT s]
   simp
section
variable {α:Type} {E:Enc α} {M M' : RM} {v:AV} {xs:List α}
theorem Sl.str {s:List UInt8} (h:Sl BY M v s) {K:AV→Prop} : jL M v K=K (St s) :=
 aai (aM.GQ h (by rw[CR]; exact PT s))
theorem Sl.uB (h:Sl E M v xs) {i:Nat} (j:Int) (hi:i<xs.length) (hsz:E.size=1:=by rfl) (hj:j=(i:Int):=by rfl) :
  ∃ b o,b<M.next∧b∈aD v∧(∀ (kd:IntKind) (K:AV→Prop),ax v (N kd j) 1 K=K (.ptr b o))∧∀ x,E.cells xs[i]=[x]→M.cell b o=some x:=by
 obtain⟨b,o,h1,h2,h3,h4⟩:=Sl.at h 1 j hi hsz hj
 exact⟨b,o,h1,h2,h3,fun x hx=>Ui h4 (by rw[hx]; rfl)⟩
structure Rw (E:Enc α) (M:RM) (b:Nat) (opn:Bool) (el:Nat) (xs:List α) : Prop where
 heap:M.heap b=some (.row (E.row xs) opn el 0)
 lt:b<M.next
theorem Rw.sl {b el:Nat} {p:Bool} {cap:Cap} (h:Rw E M b p el xs) : Sl E M (.slc b 0 xs.length cap) xs:=by
 refine .slc _ _ _ _ _ h.lt ?_
 rw[RM.dx h.heap (by rw[E.fo]; omega),List.drop_zero,← E.fo,List.take_length]
theorem Rw.keep {b el:Nat} {p:Bool} {bs:List Nat} (h:Rw E M b p el xs) (hk:ag bs M M') (hb:b ∉ bs) : Rw E M' b p el xs :=
 ⟨hk.aN h.heap h.lt hb,Nat.lt_of_lt_of_le h.lt hk.next⟩
theorem Rw.new {el:Nat} {p:Bool} (M:RM) (xs:List α) : Rw E (M.push (.row (E.row xs) p el 0)) M.next p el xs :=
 ⟨RM.aQ _,by simp[RM.push]⟩
end
@[go_sem] theorem axt (el:Nat) (s:List UInt8) (K:RB→(Nat→AV)→Prop) : PR el (St s) K=K (.row (BY.row s) true el 0) (fun b=>.slc b 0 s.length (.op 1)):=by
 rw[CR]
 apply propext; unfold PR
 constructor
 ·rintro⟨s',h,hk⟩; cases h; exact hk
 ·intro hk; exact⟨s,rfl,hk⟩
def az4 (b:UInt8) : UInt8:=if 65≤b.toNat∧b.toNat≤90 then b + 32 else b
def low (s:List UInt8) : List UInt8:=s.map az4
theorem akw (b:UInt8) : b.toNat<256:=b.toNat_lt
structure BG (n:Nat) (bs:List Nat) (M M' : RM) : Prop where
 base:M'.base=M.base
 next:M.next≤M'.next
 heap:∀ c,c<n→c ∉ bs→M'.heap c=M.heap c
theorem BG.refl (n:Nat) (bs:List Nat) (M:RM) : BG n bs M M:=⟨rfl,Nat.le_refl _,fun _ _ _=>rfl⟩
theorem BG.trans {n:Nat} {bs:List Nat} {M M1 M2:RM} (h:BG n bs M M1) (k:BG n bs M1 M2) : BG n bs M M2 :=
 ⟨k.base.trans h.base,Nat.le_trans h.next k.next,fun c h1 h2=>(k.heap c h1 h2).trans (h.heap c h1 h2)⟩
theorem ag.to {bs cs:List Nat} {n:Nat} {M M' : RM} (h:ag bs M M') (hn:n≤M.next) (hb:∀ b∈bs,n≤b∨b∈cs) : BG n cs M M' :=
 ⟨h.base,h.next,fun c h1 h2=>h.heap c (Nat.lt_of_lt_of_le h1 hn) (fun hm=>by rcases hb c hm with h3 | h3; omega; exact h2 h3)⟩
theorem Own.same {M M' : RM} {n el size n0:Nat} {v:AV} {cs:List AV} (h:Own M n0 el size v cs n) (hn:M'.next=M.next) (hb:∀ c∈aD v,M'.heap c=M.heap c) (hbase:M'.base=M.base) : Own M' n0 el size v cs n:=by
 cases h with
 | nil=>exact .nil
 | ex0 b o h1 h2 h3=>exact .ex0 b o h1 (by omega) (by simpa [RM.NV,hb b (by simp[aD]),RM.lo,hbase] using h3)
 | op b n cs h1 h2 h3 h4=>exact .op b n cs h1 (by omega) (by rw[hb b (by simp[aD]),h3]) h4
theorem Own.one {M:RM} {n el size n0:Nat} {v:AV} {cs:List AV} (h:Own M n0 el size v cs n) : oneCell v=true:=by
 cases h <;> rfl
def AwakeC (B:Base) (c:au) : Prop:=∀ {M:RM} {Q:ak},M.base=B→Q (Bo true) M→c [] M Q
theorem Own.cells {M:RM} {n el size n0:Nat} {v:AV} {cs:List AV} (h:Own M n0 el size v cs n) : v.cells=[v]:=by
 cases h <;> rfl
section
variable {P:Program} {ρ:Ren} {M:RM} {w w' : World}
theorem bX.below {base:Base} {A:AW} (h:bX P base ρ A w) (hb:Below w.heap.size w w') (hn:base.n≤w.heap.size) : bX P base ρ A w' where
 dom b i hbi:=⟨(h.dom b i hbi).1,Nat.lt_of_lt_of_le (h.dom b i hbi).2 hb.size⟩
 blk b i x hbi hx:=let ⟨o,ho,hr⟩:=h.blk b i x hbi hx; ⟨o,by rw[hb.block _ (h.dom b i hbi).2]; exact ho,hr⟩
 sep:=h.sep
 top:=h.top
 lo:=h.lo
 inv:=base.low w w' (fun c hc=>hb.block c (Nat.lt_of_lt_of_le hc hn)) h.inv
theorem Step.of_below {base n:Nat} (hb:Below w.heap.size w w') (hn:base≤w.heap.size) : Step base n ρ w ρ w' where
 os:=hb.os
 tape:=hb.tape
 output:=hb.output
 size:=hb.size
 frame c hc _:=hb.block c hc
 ext _ _:=rfl
 fresh b i h:=.inl ⟨b,i,h,rfl⟩
 low c hc:=hb.block c (Nat.lt_of_lt_of_le hc hn)
theorem After.below (h:fF P ρ M w) (hb:Below w.heap.size w w') : After P M ρ w M ρ w':=by
 obtain⟨A,hA⟩:=h
 refine oL hA (Step.of_below hb hA.size) (hA.rel.below hb hA.size) rfl hA.next (Nat.le_refl _) fun b x hx=>?_
 rcases hA.blk b x hx with h | ⟨c,rfl,_⟩
 ·exact .inl h
 ·exact .inr ⟨c,rfl,hx⟩
end
structure sJ (α:Type) where
 size:Nat
 rel:RM→List AV→α→(Nat→Prop)→Prop
 len:∀ {M cs a S},rel M cs a S→cs.length=size
 one:∀ {M cs a S},rel M cs a S→cs.all oneCell=true
 mono:∀ {M cs a S S'},rel M cs a S→(∀ b,S b→S' b)→rel M cs a S'
 lt:∀ {M cs a S},rel M cs a S→rel M cs a (fun b=>S b∧b<M.next)
 keep:∀ {M M' cs a S bs},rel M cs a S→ag bs M M'→(∀ b∈bs,¬ S b)→rel M' cs a S
def Enc.Cf {α:Type} (E:Enc α) : sJ α where
 size:=E.size
 rel _ cs a _:=cs=E.cells a
 len h:=by subst h; exact E.len _
 one h:=by subst h; exact E.one _
 mono h _:=h
 lt h:=h
 keep h _ _:=h
inductive gY {α:Type} (R:sJ α) (M:RM) (S:Nat→Prop) : List AV→List α→Prop
 | nil:gY R M S [] []
 | cons {cs ds:List AV} {a:α} {xs:List α} : R.rel M cs a S→gY R M S ds xs→gY R M S (cs++ds) (a :: xs)
section
variable {α:Type} {R:sJ α} {M M' : RM} {S S' : Nat→Prop} {cs ds:List AV} {xs ys:List α} {a:α}
theorem gY.len (h:gY R M S cs xs) : cs.length=xs.length * R.size:=by
 induction h with
 | nil=>simp
 | cons h1 _ ih=>rw[List.length_append,R.len h1,ih,List.length_cons,Nat.succ_mul,Nat.add_comm]
theorem gY.one (h:gY R M S cs xs) : cs.all oneCell=true:=by
 induction h with
 | nil=>rfl
 | cons h1 _ ih=>rw[List.all_append,R.one h1,ih]; rfl
theorem gY.mono (h:gY R M S cs xs) (hs:∀ b,S b→S' b) : gY R M S' cs xs:=by
 induction h with
 | nil=>exact .nil
 | cons h1 _ ih=>exact .cons (R.mono h1 hs) ih
theorem gY.lt (h:gY R M S cs xs) : gY R M (fun b=>S b∧b<M.next) cs xs:=by
 induction h with
 | nil=>exact .nil
 | cons h1 _ ih=>exact .cons (R.lt h1) ih
theorem gY.keep {bs:List Nat} (h:gY R M S cs xs) (hk:ag bs M M') (hb:∀ b∈bs,¬ S b) : gY R M' S cs xs:=by
 induction h with
 | nil=>exact .nil
 | cons h1 _ ih=>exact .cons (R.keep h1 hk hb) ih
theorem gY.append (h:gY R M S cs xs) (k:gY R M S ds ys) : gY R M S (cs++ds) (xs++ys):=by
 induction h with
 | nil=>exact k
 | cons h1 _ ih=>rw[List.append_assoc]; exact .cons h1 ih
theorem gY.single (h:R.rel M cs a S) : gY R M S cs [a]:=by
 have:=gY.cons h .nil
 simpa using this
theorem gY.get (h:gY R M S cs xs) : ∀ {i:Nat} (hi:i<xs.length),R.rel M ((cs.drop (i * R.size)).take R.size) xs[i] S:=by
 induction h with
 | nil=>intro i hi; simp at hi
 | cons h1 h2 ih =>
   rename_i c1 d1 a1 x1
   intro i hi
   cases i with
   | zero =>
     rw[Nat.zero_mul,List.drop_zero,List.take_append_of_le_length (by rw[R.len h1]; exact Nat.le_refl _),List.take_of_length_le (by rw[R.len h1]; exact Nat.le_refl _)]
     exact h1
   | succ i =>
     rw[Nat.succ_mul,Nat.add_comm,← List.drop_drop,List.drop_left' (R.len h1)]
     exact ih (by simpa using hi)
theorem gY.take (h:gY R M S cs xs) : ∀ (k:Nat),gY R M S (cs.take (k * R.size)) (xs.take k):=by
 induction h with
 | nil=>intro k; simp; exact .nil
 | cons h1 h2 ih =>
   intro k
   cases k with
   | zero=>simp; exact .nil
   | succ k =>
     rw[Nat.succ_mul,Nat.add_comm,List.take_append,List.take_of_length_le (by rw[R.len h1]; omega),R.len h1,Nat.add_sub_cancel_left]
     exact .cons h1 (ih k)
theorem gY.cells {E:Enc α} : ∀ {cs:List AV} {xs:List α},gY E.Cf M S cs xs→cs=E.row xs
 | _,_,.nil=>rfl
 | _,_,.cons h1 h2=>by rw[Enc.jF,gY.cells h2]; rw[show _=_ from h1]
theorem gY.of_cells {E:Enc α} : ∀ (xs:List α),gY E.Cf M S (E.row xs) xs
 | []=>.nil
 | x :: xs=>by rw[Enc.jF]; exact .cons rfl (gY.of_cells xs)
def gD (R:sJ α) (M:RM) (v:AV) (xs:List α) (S:Nat→Prop) : Prop :=
 ∃ cs,aM M R.size v cs xs.length∧(∀ b∈aD v,S b)∧gY R M S cs xs
theorem aM.lt {size n:Nat} {v:AV} (h:aM M size v cs n) : ∀ b∈aD v,b<M.next:=by
 cases h with
 | nil=>intro b hb; simp[aD] at hb
 | emp=>intro b hb; simp[aD] at hb
 | slc b o n cap cs hb _=>intro c hc; simp[aD] at hc; omega
theorem aM.one {size n:Nat} {v:AV} (h:aM M size v cs n) : oneCell v=true:=by
 cases h <;> rfl
theorem aM.cells {size n:Nat} {v:AV} (h:aM M size v cs n) : v.cells=[v]:=by
 cases h <;> rfl
variable {v:AV}
theorem gD.mono (h:gD R M v xs S) (hs:∀ b,S b→S' b) : gD R M v xs S':=let ⟨cs,h1,h2,h3⟩:=h; ⟨cs,h1,fun b hb=>hs b (h2 b hb),h3.mono hs⟩
theorem gD.lt (h:gD R M v xs S) : gD R M v xs (fun b=>S b∧b<M.next):=let ⟨cs,h1,h2,h3⟩:=h; ⟨cs,h1,fun b hb=>⟨h2 b hb,h1.lt b hb⟩,h3.lt⟩
theorem gD.keep {bs:List Nat} (h:gD R M v xs S) (hk:ag bs M M') (hb:∀ b∈bs,¬ S b) : gD R M' v xs S :=
 let ⟨cs,h1,h2,h3⟩:=h; ⟨cs,h1.keep hk (fun b hv hbs=>hb b hbs (h2 b hv)),h2,h3.keep hk hb⟩
theorem gD.len (h:gD R M v xs S) {K:AV→Prop} : bD v K=K (N .i64 xs.length):=let ⟨cs,h1,_,_⟩:=h; h1.len
theorem gD.one (h:gD R M v xs S) : oneCell v=true:=let ⟨cs,h1,_,_⟩:=h; h1.one
theorem gD.cells (h:gD R M v xs S) : v.cells=[v]:=let ⟨cs,h1,_,_⟩:=h; h1.cells
theorem gD.nil:gD R M dV [] S:=⟨[],.nil,by simp[aD],.nil⟩
theorem gD.sl {E:Enc α} (h:gD E.Cf M v xs S) : Sl E M v xs:=by
 obtain⟨cs,h1,h2,h3⟩:=h
 rw[h3.cells] at h1
 exact h1
theorem gD.ajV {E:Enc α} (h:Sl E M v xs) (hs:∀ b∈aD v,S b) : gD E.Cf M v xs S:=⟨_,h,hs,gY.of_cells xs⟩
theorem gD.at (h:gD R M v xs S) {i:Nat} (sz:Nat) (j:Int) (hi:i<xs.length) (hsz:R.size=sz:=by rfl) (hj:j=(i:Int):=by rfl) :
  ∃ b o cs,b<M.next∧b∈aD v∧(∀ (kd:IntKind) (K:AV→Prop),ax v (N kd j) sz K=K (.ptr b o))∧M.loads b o sz=some cs∧R.rel M cs xs[i] S:=by
 subst hsz hj
 obtain⟨cs,h1,h2,h3⟩:=h
 obtain⟨b,o,cap,rfl,hb,hl⟩:=h1.pos (by omega)
 have hsum:i * R.size + R.size≤xs.length * R.size:=by rw[← Nat.succ_mul]; exact Nat.mul_le_mul_right _ hi
 refine⟨b,o + i * R.size,(cs.drop (i * R.size)).take R.size,hb,by simp[aD],fun kd K=>?_, ?_,h3.get hi⟩
 ·rw[oP]
  simp only[Int.toNat_natCast]
  exact propext ⟨fun h=>h.2.2,fun h=>⟨by omega,by omega,h⟩⟩
 ·rw[qy hl (i * R.size) R.size hsum]
def sJ.slice (R:sJ α) : sJ (List α) where
 size:=1
 rel M cs xs S:=∃ v,cs=[v]∧gD R M v xs S
 len h:=by obtain⟨v,rfl,_⟩:=h; rfl
 one h:=by obtain⟨v,rfl,h⟩:=h; simp[h.one]
 mono h hs:=by obtain⟨v,rfl,h⟩:=h; exact⟨v,rfl,h.mono hs⟩
 lt h:=by obtain⟨v,rfl,h⟩:=h; exact⟨v,rfl,h.lt⟩
 keep h hk hb:=by obtain⟨v,rfl,h⟩:=h; exact⟨v,rfl,h.keep hk hb⟩
def mE (R:sJ α) (M:RM) (base el:Nat) (v:AV) (xs:List α) (S:Nat→Prop) : Prop :=
 ∃ cs,Own M base el R.size v cs xs.length∧gY R M S cs xs
theorem mE.nil {base el:Nat} : mE R M base el dV [] S:=⟨[],.nil,.nil⟩
theorem mE.mono {base el:Nat} (h:mE R M base el v xs S) (hs:∀ b,S b→S' b) : mE R M base el v xs S':=let ⟨cs,h1,h2⟩:=h; ⟨cs,h1,h2.mono hs⟩
theorem mE.lt {base el:Nat} (h:mE R M base el v xs S) : mE R M base el v xs (fun b=>S b∧b<M.next):=let ⟨cs,h1,h2⟩:=h; ⟨cs,h1,h2.lt⟩
theorem mE.keep {base el:Nat} {bs:List Nat} (h:mE R M base el v xs S) (hk:ag bs M M') (hb:∀ b∈bs,¬ S b) (hv:∀ b∈aD v,b ∉ bs) : mE R M' base el v xs S :=
 let ⟨cs,h1,h2⟩:=h; ⟨cs,h1.keep hk hv,h2.keep hk hb⟩
theorem mE.len {base el:Nat} (h:mE R M base el v xs S) {K:AV→Prop} : bD v K=K (N .i64 xs.length):=let ⟨cs,h1,_⟩:=h; h1.fu.len
theorem mE.blk {base el:Nat} (h:mE R M base el v xs S) : ∀ b∈aD v,base≤b∧b<M.next:=let ⟨cs,h1,_⟩:=h; h1.blk
theorem mE.slD {base el:Nat} (h:mE R M base el v xs S) (hs:∀ b,base≤b→b<M.next→S b) : gD R M v xs S :=
 let ⟨cs,h1,h2⟩:=h; ⟨cs,h1.fu,fun b hb=>hs b (h1.blk b hb).1 (h1.blk b hb).2,h2⟩
theorem mE.cells {base el:Nat} (h:mE R M base el v xs S) : v.cells=[v]:=let ⟨cs,h1,_⟩:=h; h1.cells
theorem mE.one {base el:Nat} (h:mE R M base el v xs S) : oneCell v=true:=let ⟨cs,h1,_⟩:=h; h1.one
theorem mE.app {base T bytes:Nat} {zs:List AV} {K:ak} (ho:mE R M base T v xs S) (ha:R.rel M cs a S) (hb:base≤M.next) (hs:1≤R.size)
  (hd:∀ b∈aD v,¬ S b) (hS:∀ b,S b→b<M.next)
  (hn:(xs.length + 1) * bytes≤140737488355328) (hn2:xs.length + 1≤140737488355328)
  (hK:∀ v' M',mE R M' base T v' (xs++[a]) S→ag (aD v) M M'→M.next≤M'.next→(v'=v∨∀ b∈aD v',M.next≤b)→(∀ b∈aD v',¬ S b)→K v' M') :
  appW T R.size bytes zs false v (.slc M.next 0 1 (.ex 1)) (M.push (.row cs false T 0)) K:=by
 obtain⟨ds,h1,h2⟩:=ho
 have hk:ag [] M (M.push (.row cs false T 0)):=(ag.refl _ _).push _
 have hl:=R.len ha
 have hnl:nQ (M.push (.row cs false T 0)) R.size zs false (.slc M.next 0 1 (.ex 1))=some (1,cs):=by
  simp only[nQ,Nat.one_mul]
  rw[RM.dx (RM.aQ _) (by omega),List.drop_zero,← hl,List.take_length]
 refine uz (h1.keep hk (by simp)) (Nat.le_trans hb hk.next) hs hnl (by rw[hl,Nat.one_mul]) (R.one ha) hn hn2 ?_
 intro v' M' q1 q2 q3 q4
 have kk:ag (aD v) M M':=(hk.mono (by simp)).trans q2
 refine hK v' M' ⟨_,by simpa using q1, ?_⟩ kk (Nat.le_trans hk.next q3) (q4.imp id fun h b hb=>Nat.le_trans hk.next (h b hb)) ?_
 ·exact(h2.keep kk hd).append (gY.single (R.keep ha kk hd))
 ·rcases q4 with rfl | q4
  ·exact hd
  ·intro b hb hSb
   have:=q4 b hb
   have:=hS b hSb
   simp only[RM.push] at *
   omega
end
section
variable {M M' : RM} {b i n e f:Nat} {l:List AV} {p:Bool} {x:AV}
theorem aj {K:AV→Prop} (h:M.heap b=some (.row l p e f)) (hx:l[i]?=some x) : ai M (.ptr b i) K=K x:=by
 rw[fH,RM.cell_of h,hx]; simp
theorem dF {K:AV→Prop} (h:M.heap b=some (.row l p e f)) (hn:l.length=n) : aI M (.ptr b 0) n K=K (.agg l):=by
 rw[fZ,RM.aiZ h]
 have:Ce (some l) 0 n=some l:=by simp[Ce,← hn]
 rw[this]; simp
theorem fU {K:RM→Prop} (h:M.heap b=some (.row l p e 0)) (hi:i<l.length) (hc:x.cells=[x]) (h1:oneCell x=true) : aL M (.ptr b i) x 1 K=K (M.put b (.row (l.set i x) p e 0)):=by
 rw[Aw,hc,RM.zG h,sV (by simp only[List.length_cons,List.length_nil]; omega) (Nat.zero_le _) (by simp[h1])]
 have:l.take i++[x]++l.drop (i + 1)=l.set i x:=by
  rw[List.set_eq_take_append_cons_drop,if_pos hi]; simp
 simp[this]
theorem rJ {K:RM→Prop} (l' : List AV) (h:M.heap b=some (.row l p e 0)) (hi:i<l.length) (hc:x.cells=[x]) (h1:oneCell x=true) (hl:l.set i x=l') : aL M (.ptr b i) x 1 K=K (M.put b (.row l' p e 0)):=by
 rw[fU h hi hc h1,hl]
theorem aS {K:AV→Prop} : aA (.ptr b 0) n K=K (.ptr b n):=by rw[aF,Nat.zero_add]
theorem iK {K:RM→Prop} (h:M.heap b=some (.row l p e 0)) (hn:x.cells.length=n) (hl:l.length=n) (h1:x.cells.all oneCell=true) : aL M (.ptr b 0) x n K=K (M.put b (.row x.cells p e 0)):=by
 rw[Aw,RM.zG h,Vs (by rw[hn,hl]) h1]
 simp[hn]
theorem EW {c:Nat} {y z:RB} (h:M.heap b=some y) (hb:b≠c) : (M.put c z).heap b=some y:=by
 simp only[RM.put]; rw[if_neg hb]; exact h
theorem aR (y:RB) : (M.put b y).heap b=some y:=RM.yX _ _
theorem lQ {y z:RB} (h:M.heap b=some y) (hb:b<M.next) : (M.push z).heap b=some y:=by
 simp only[RM.push]; rw[if_neg (by omega)]; exact h
theorem DF (y:RB) : (M.push y).next=M.next + 1:=rfl
theorem ny (c:Nat) (y:RB) : (M.put c y).next=M.next:=rfl
theorem ag.new {bs:List Nat} (h:ag bs M M') {b:Nat} (y:RB) (hb:M.next≤b) : ag bs M (M'.put b y):=h.put y (.inl hb)
end
variable {M:RM}
theorem kN {a:AV} {l:List AV} {K:AV→Prop} : fI (.tup (a :: l)) 0 K=K a:=by rw[NY]; simp
theorem kP {a b:AV} {l:List AV} {K:AV→Prop} : fI (.tup (a :: b :: l)) 1 K=K b:=by rw[NY]; simp
theorem VV {a b c:AV} {l:List AV} {K:AV→Prop} : fI (.tup (a :: b :: c :: l)) 2 K=K c:=by rw[NY]; simp
theorem dC {p q:Prop} : ay (Bo true) p q=p:=by simp[Wy]
theorem bI {p q:Prop} : ay (Bo false) p q=q:=by simp[Wy]
theorem aH {b:Bool} {p q:Prop} (h1:b=true→p) (h2:b=false→q) : ay (Bo b) p q:=⟨h1,h2⟩
theorem bK {f g:ak→Prop} {k:ak} : ah (Bo true) true f g k=f k:=rfl
theorem aT {f g:ak→Prop} {k:ak} : ah (Bo false) false f g k=f k:=rfl
theorem di {f g:ak→Prop} {k:ak} : ah (Bo true) false f g k=g k:=rfl
theorem bM {f g:ak→Prop} {k:ak} : ah (Bo false) true f g k=g k:=rfl
theorem ic {f g:KR→Prop} {k:KR} : ae (Bo true) true f g k=f k:=rfl
theorem eB {f g:KR→Prop} {k:KR} : ae (Bo false) false f g k=f k:=rfl
theorem DR {f g:KR→Prop} {k:KR} : ae (Bo true) false f g k=g k:=rfl
theorem iH {f g:KR→Prop} {k:KR} : ae (Bo false) true f g k=g k:=rfl
theorem qF {w:Bool} {f g:ak→Prop} {k:ak} : ah .undef w f g k=g k:=rfl
theorem XU {w:Bool} {f g:KR→Prop} {k:KR} : ae .undef w f g k=g k:=rfl
theorem bO {a b:AV} {K:AV→Prop} : aJ (Bo true) a b K=K a:=by rw[Y4]; rfl
theorem bz {a b:AV} {K:AV→Prop} : aJ (Bo false) a b K=K b:=by rw[Y4]; rfl
theorem aM.known {size:Nat} {v:AV} {cs:List AV} {n:Nat} (h:aM M size v cs n) : known v=true:=by
 cases h <;> rfl
theorem dL {t:TypeId} {cs:List AV} {K:RB→(Nat→AV)→Prop} (h1:cs.all oneCell=true) (h2:1≤cs.length) : iW t (.agg cs) K=K (.row cs false t 0) (fun b=>.ptr b 0):=by
 unfold iW
 exact propext ⟨fun h=>h.2.2,fun h=>⟨h1,h2,h⟩⟩
theorem aey {x y a b:AV} (h1:known x=true) (h2:x.cells=[x]) (h3:known y=true) (h4:y.cells=[y]) : sZ [a,b] [(0,1,x),(1,1,y)]=some [x,y]:=by
 simp[sZ,h1,h2,h3,h4]
def sJ.pre {α β:Type} (E:Enc α) (R:sJ β) : sJ (α × β) where
 size:=E.size + R.size
 rel M cs a S:=∃ ds,cs=E.cells a.1++ds∧R.rel M ds a.2 S
 len h:=by obtain⟨ds,rfl,h⟩:=h; rw[List.length_append,E.len,R.len h]
 one h:=by obtain⟨ds,rfl,h⟩:=h; rw[List.all_append,E.one,R.one h]; rfl
 mono h hs:=by obtain⟨ds,rfl,h⟩:=h; exact⟨ds,rfl,R.mono h hs⟩
 lt h:=by obtain⟨ds,rfl,h⟩:=h; exact⟨ds,rfl,R.lt h⟩
 keep h hk hb:=by obtain⟨ds,rfl,h⟩:=h; exact⟨ds,rfl,R.keep h hk hb⟩
def sJ.post {α β:Type} (R:sJ α) (E:Enc β) : sJ (α × β) where
 size:=R.size + E.size
 rel M cs a S:=∃ ds,cs=ds++E.cells a.2∧R.rel M ds a.1 S
 len h:=by obtain⟨ds,rfl,h⟩:=h; rw[List.length_append,E.len,R.len h]
 one h:=by obtain⟨ds,rfl,h⟩:=h; rw[List.all_append,E.one,R.one h]; rfl
 mono h hs:=by obtain⟨ds,rfl,h⟩:=h; exact⟨ds,rfl,R.mono h hs⟩
 lt h:=by obtain⟨ds,rfl,h⟩:=h; exact⟨ds,rfl,R.lt h⟩
 keep h hk hb:=by obtain⟨ds,rfl,h⟩:=h; exact⟨ds,rfl,R.keep h hk hb⟩
def sJ.map {α β:Type} (R:sJ α) (g:β→α) : sJ β where
 size:=R.size
 rel M cs a S:=R.rel M cs (g a) S
 len h:=R.len h
 one h:=R.one h
 mono h hs:=R.mono h hs
 lt h:=R.lt h
 keep h hk hb:=R.keep h hk hb
end Go.Ab
set_option maxRecDepth 10000
namespace Go.Ab.aC
open Go Go.Ab
def zi (c:au) : Prop:=∀ {M:RM} {x y:Nat} {Q:ak},Q (Bo (decide (x<y))) M→c [N .u64 (x:Int),N .u64 (y:Int)] M Q
theorem Rm {M:RM} {x:Nat} {Q:ak} (h:Q (Bo false) M) : tK (N .u64 (x:Int)) M Q:=by
 unfold tK
 rw[dY,bne_self_eq_false]; exact h
theorem Z6 {M:RM} {x:Nat} {Q:ak} (h:Q (Bo false) M) : vZ (N .u64 (x:Int)) M Q:=by
 unfold vZ
 rw[dY,bne_self_eq_false]; exact h
def adH (c:au) : Prop:=∀ {M:RM} {x:Nat} {Q:ak},Q (Bo false) M→c [N .u64 (x:Int)] M Q
theorem aeY {cn:au} (hn:adH cn) : zi fun args M Q=>∃ a0 a1,args=[a0,a1]∧zY cn a0 a1 M Q:=by
 intro M x y Q hQ
 refine⟨_,_,rfl, ?_⟩
 unfold zY
 simp only[gT]
 refine hn ?_
 rw[bM]
 dsimp only
 rw[bz,aT,bN]
 dsimp only
 rw[bz,show decide ((x:Int)<(y:Int))=decide (x<y) by simp]
 exact hQ
def Asc (xs:List Nat) : Prop:=xs.Pairwise (· < ·)
def below (n:Nat) (xs:List Nat) : Nat:=(xs.takeWhile (fun x=>decide (x<n))).length
theorem below_le (n:Nat) (xs:List Nat) : below n xs≤xs.length:=by
 unfold below
 induction xs with
 | nil=>simp
 | cons x xs ih =>
   rw[List.takeWhile_cons]
   split <;> simp <;> omega
theorem Asc.lt {xs:List Nat} (h:Asc xs) {i j:Nat} (hij:i<j) (hj:j<xs.length) : xs[i]'(by omega)<xs[j]:=List.pairwise_iff_getElem.1 h i j (by omega) hj hij
theorem IE {n:Nat} : ∀ {xs:List Nat} {i:Nat},i≤xs.length→(∀ k (hk:k<xs.length),k<i→xs[k]<n)→(∀ (hi:i<xs.length),n≤xs[i])→below n xs=i
 | [],i,h,_,_=>by simp at h; subst h; rfl
 | x :: xs,0,_,_,h2=>by
   have:=h2 (by simp)
   simp at this
   unfold below
   rw[List.takeWhile_cons,if_neg (by simp; omega)]; rfl
 | x :: xs,i + 1,h,h1,h2=>by
   have hx:=h1 0 (by simp) (by omega)
   have:=IE (n:=n) (xs:=xs) (i:=i) (by simpa using h) (fun k hk hki=>by have:=h1 (k + 1) (by simp; omega) (by omega); simpa using this) (fun hi=>by have:=h2 (by simp; omega); simpa using this)
   unfold below at *
   rw[List.takeWhile_cons,if_pos (by simpa using hx),List.length_cons,this]
theorem UE {n:Nat} {xs:List Nat} (ha:Asc xs) : (n∈xs↔∃ h:below n xs<xs.length,xs[below n xs]=n):=by
 constructor
 ·intro hm
  obtain⟨i,hi,he⟩:=List.getElem_of_mem hm
  have hb:below n xs=i:=IE (by omega) (fun k hk hki=>by have:=ha.lt hki hi; omega) (fun _=>by omega)
  exact⟨by omega,by simp only[hb]; exact he⟩
 ·rintro⟨h,he⟩
  rw[← he]; exact List.getElem_mem h
theorem Yv {n:Nat} : ∀ {xs:List Nat} {k:Nat} (hk:k<xs.length),k<below n xs→xs[k]<n
 | x :: xs,k,hk,h=>by
   unfold below at h
   rw[List.takeWhile_cons] at h
   split at h
   ·rename_i hx
    cases k with
    | zero=>simpa using hx
    | succ k=>exact Yv (xs:=xs) (k:=k) (by simpa using hk) (by unfold below; simpa using h)
   ·simp at h
theorem V4 {n:Nat} : ∀ {xs:List Nat} (h:below n xs<xs.length),n≤xs[below n xs]
 | x :: xs,h=>by
   unfold below at *
   rw[List.takeWhile_cons] at h
   simp only[List.takeWhile_cons]
   by_cases hx:x<n
   ·simp only[hx,decide_true,if_true,List.length_cons] at h ⊢
    exact V4 (xs:=xs) (by unfold below; omega)
   ·simp only[hx,decide_false,Bool.false_eq_true,if_false,List.length_nil,List.getElem_cons_zero]
    omega
def LX (c:au) : Prop:=∀ {M:RM} {v:AV} {xs:List Nat} {n:Nat} {Q:ak},Sl aU M v xs→xs.length≤1000000→Asc xs→Q (.tup [N .i64 ((below n xs:Nat) : Int),Bo (decide (n∈xs))]) M→c [v,N .u64 (n:Int)] M Q
theorem half (i j:Nat) (h:i + j<9223372036854775808) : N .i64 (IntKind.i64.wrap (Te .u64 (IntKind.u64.wrap (IntKind.i64.wrap ((i:Int) + (j:Int)))) 1))=N .i64 (((i + j) / 2:Nat) : Int):=by
 rw[show IntKind.i64.wrap ((i:Int) + (j:Int))=((i + j:Nat) : Int) by rw[bE (by omega) (by omega)]; rfl]
 rw[show IntKind.u64.wrap (((i + j:Nat) : Int))=((i + j:Nat) : Int) by unfold IntKind.wrap; simp[IntKind.bits,IntKind.signed]; omega]
 rw[show(1:Int)=((1:Nat) : Int) from rfl,Ha _ _ _ (by decide)]
 rw[show((i + j:Nat) / 2 ^ 1)=(i + j) / 2 by simp]
 rw[bE (by omega) (by omega)]
theorem aaA {cl cn:au} (hl:zi cl) (hn:adH cn) : LX fun args M Q=>∃ a0 a1,args=[a0,a1]∧pV cl cn a0 a1 M Q:=by
 intro M v xs n Q hv hxl ha hQ
 refine⟨_,_,rfl, ?_⟩
 unfold pV
 simp only[gT]
 rw[aM.len hv]
 refine aK (fun m ys M3=>M3=M∧∃ i j:Nat,m=j - i∧ys=[N .i64 (i:Int),N .i64 (j:Int)]∧i≤j∧j≤xs.length∧(∀ k (hk:k<xs.length),k<i→xs[k]<n)∧(∀ k (hk:k<xs.length),j≤k→n≤xs[k])) _
  ⟨rfl,0,xs.length,rfl,rfl,Nat.zero_le _,Nat.le_refl _,by omega,by omega⟩ ?_
 rintro next m ys M3 hnext ⟨rfl,i,j,rfl,rfl,hij,hj,h1,h2⟩
 dsimp only[aa]
 rw[bN]
 refine aH (fun hlt=>?_) (fun hge=>?_)
 ·have hlt:i<j:=by simpa using hlt
  have hh:(i + j) / 2<j:=by omega
  have hh2:i≤(i + j) / 2:=by omega
  rw[bG,gz,LZ]
  refine⟨by omega, ?_⟩
  rw[gz,half i j (by omega)]
  have hm:(i + j) / 2<xs.length:=by omega
  obtain⟨b,o,_,_,hidx,hc⟩:=Sl.uB (E:=aU) hv (((i + j) / 2:Nat) : Int) hm
  have hc:=hc _ rfl
  rw[hidx,fH]
  refine⟨_,hc, ?_⟩
  refine hl ?_
  refine aH (fun h=>?_) (fun h=>?_)
  ·have h:xs[(i + j) / 2]<n:=by simpa using h
   rw[bG,dK (by omega)]
   refine hnext _ _ _ (by omega) ⟨rfl,(i + j) / 2 + 1,j,rfl,rfl,by omega,hj,fun k hk hki=>?_,h2⟩
   rcases Nat.lt_or_ge k ((i + j) / 2) with h3 | h3
   ·have:=ha.lt h3 hm; omega
   ·have:k=(i + j) / 2:=by omega
    subst this; exact h
  ·have h:n≤xs[(i + j) / 2]:=by simp at h; omega
   refine hnext _ _ _ (by omega) ⟨rfl,i,(i + j) / 2,rfl,rfl,by omega,by omega,h1,fun k hk hki=>?_⟩
   rcases Nat.lt_or_ge ((i + j) / 2) k with h3 | h3
   ·have:=ha.lt h3 hk; omega
   ·have:k=(i + j) / 2:=by omega
    subst this; exact h
 ·have hij:i=j:=by simp at hge; omega
  subst hij
  have hb:below n xs=i:=IE hj h1 (fun hi=>h2 i hi (Nat.le_refl _))
  rw[hb] at hQ
  rw[bN]
  by_cases hi:i<xs.length
  ·obtain⟨b,o,_,_,hidx,hc⟩:=Sl.uB (E:=aU) hv (i:Int) hi
   have hc:=hc _ rfl
   have hm:decide (n∈xs)=(xs[i] == n):=by
    have:=UE (n:=n) ha
    simp only[hb] at this
    by_cases h:xs[i]=n
    ·rw[decide_eq_true (this.2 ⟨hi,h⟩)]; simp[h]
    ·rw[decide_eq_false (fun hm=>h (this.1 hm).2)]; simp[h]
   rw[hm] at hQ
   rw[show decide ((i:Int)<(xs.length:Int))=true by simpa using hi,bK,hidx,fH]
   refine⟨_,hc, ?_⟩
   rw[bU,show(((xs[i] : Nat) : Int) == (n:Int))=(xs[i] == n) by
    by_cases h:xs[i]=n
    ·simp[h]
    ·have:((xs[i] : Int) == (n:Int))=false:=by simp; omega
     rw[this]; simp[h]]
   dsimp only
   cases he:xs[i] == n with
   | true =>
     rw[he] at hQ
     simp only[qF,bK,di,bM,aT,bO,bz]
     exact hQ
   | false =>
     rw[he] at hQ
     rw[aT,hidx,fH]
     refine⟨_,hc, ?_⟩
     refine hn ?_
     simp only[qF,bK,di,bM,aT,bO,bz]
     exact hQ
  ·have hm:decide (n∈xs)=false:=by
    refine decide_eq_false fun h=>?_
    have:=(UE (n:=n) ha).1 h
    simp only[hb] at this
    exact hi this.1
   rw[hm] at hQ
   rw[show decide ((i:Int)<(xs.length:Int))=false by simp; omega]
   simp only[qF,bK,di,bM,aT,bO,bz]
   exact hQ
theorem AP {M:RM} {b bx o ox dn sn k e:Nat} {l vs:List AV} {p:Bool} {cap aoH:Cap} {K:ak} (hd:M.heap b=some (.row l p e 0)) (hk:Nat.min sn dn=k) (hk0:k≠0) (hl:M.loads bx ox k=some vs) (ho:o + k≤l.length) (hall:vs.all oneCell=true) :
  Dw 1 (.slc b o dn cap) (.slc bx ox sn aoH) M K=K (N .i64 (k:Int)) (M.put b (.row (l.take o++vs++l.drop (o + k)) p e 0)):=by
 have hvs:=Jt hl
 have hst:M.stores b o vs=some (M.put b (.row (l.take o++vs++l.drop (o + k)) p e 0)):=by
  rw[RM.zG hd,sV (by omega) (Nat.zero_le _) hall,hvs]; rfl
 have:RF 1 (.slc b o dn cap) (.slc bx ox sn aoH) M=some (N .i64 (k:Int),M.put b (.row (l.take o++vs++l.drop (o + k)) p e 0)):=by
  unfold RF
  simp only[EK,hk,if_neg hk0,firstM,Nat.mul_one,hl,hst]
 unfold Dw
 rw[this]
 apply propext
 constructor
 ·rintro⟨v,M',h,hK⟩; cases h; exact hK
 ·intro hK; exact⟨_,_,rfl,hK⟩
theorem xx {size b o n c at' : Nat} (h:at'≤n) (hc:n≤c) (hne:at'≠c) : bB size (.slc b o n (.ex c)) (some (N .i64 (at' : Int))) none none=some (.slc b (o + at' * size) (n - at') (.ex (c - at'))):=by
 simp only[bB,bnd]
 simp[h,hc,Ne.symm hne]
theorem H8 {size b o n c at' : Nat} (h:at'≤c) (hc:c≠0) : bB size (.slc b o n (.ex c)) none (some (N .i64 (at' : Int))) none=some (.slc b o at' (.ex c)):=by
 simp only[bB,bnd]
 simp[h,hc]
theorem sG {size b o n at' : Nat} (h:at'<n) : bB size (.slc b o n (.op size)) (some (N .i64 (at' : Int))) none none=some (.slc b (o + at' * size) (n - at') (.op size)):=by
 simp only[bB,bnd]
 simp[Nat.le_of_lt h]
 omega
theorem av2 {A B D:List AV} {X:AV} {k m:Nat} (hA:A.length=k) (hB:B.length=m) : (A++X :: B).take (k + 1)++D++(A++X :: B).drop (k + 1 + m)=A++X :: D:=by
 subst hA; subst hB
 have e:A++X :: B=(A++[X])++B:=by simp
 rw[e,List.take_left' (by simp),List.drop_of_length_le (by simp; omega)]
 simp
def jO:AV→Prop
 | .slc _ _ n (.ex c)=>n≤c
 | .slc _ _ _ (.op e)=>e=1
 | _=>True
def iN (k x:Nat) (xs:List Nat) : List Nat:=xs.take k++x :: xs.drop k
theorem Gr {k x:Nat} {xs:List Nat} (h:k≤xs.length) : (iN k x xs).length=xs.length + 1:=by
 simp[iN]; omega
def ajE (c:au) : Prop:=∀ {M:RM} {ba oa na bb ob nb ea eb:Nat} {ca cb:Cap} {la lb:List AV} {opb:Bool} {Q:ak},ba≠bb→M.heap ba=some (.row la false ea 0)→M.heap bb=some (.row lb opb eb 0)→oa + 1≤la.length→1≤lb.length→Q (Bo false) M→c [.slc ba oa na ca,.slc bb ob nb cb] M Q
theorem wG {i:Nat} (h:i<9223372036854775807) : IntKind.wrap .i64 ((i:Int) + ((1:Nat) : Int))=((i + 1:Nat) : Int):=dK h
theorem rQ (k:Nat) : (bW [N .u64 0] k).length=k∧(bW [N .u64 0] k).all oneCell=true:=by
 induction k with
 | zero=>exact⟨rfl,rfl⟩
 | succ k ih=>exact⟨by simp[bW,ih.1],by simp[bW,ih.2,Xh]⟩
theorem aes {M:RM} {b bx T n c k x ex:Nat} {xs:List Nat} {co cr:au} {Q:ak} (hov:ajE co) (hn:n=xs.length) (hnl:n≤1000000) (hc:n≤c) (hk:k<n)
  (hb:M.heap b=some (.row (aU.row xs++List.replicate (c - n) .top) true T 0)) (hbl:b<M.next) (hx:M.heap bx=some (.row [N .u64 (x:Int)] false ex 0)) (hxl:bx<M.next) (hne:bx≠b)
  (hQ:∀ v' M',Sl aU M' v' (iN k x xs)→jO v'→(∀ c∈aD v',c=b∨M.next≤c)→ag [b] M M'→Q v' M') : oD T co cr (.slc b 0 n (.ex c)) (N .i64 (k:Int)) (.slc bx 0 1 (.ex 1)) M Q:=by
 have hrow:(aU.row xs).length=n:=by rw[Enc.fo,hn]; simp[aU]
 have ajB:(aU.row xs++List.replicate (c - n) AV.top).length=c:=by simp[hrow]; omega
 unfold oD
 rw[xx (by omega) hc (by omega),cB,oN,bU,show((((1:Nat) : Int)) == 0)=false from rfl,bI,oN,bU,
  show(((k:Int)) == (n:Int))=false by simp; omega,bI,bG,wG (by omega),alb,eF]
 have hxo:M.loads bx 0 1=some [N .u64 (x:Int)]:=by rw[RM.dx hx (by simp)]; rfl
 have hold:M.loads b k (n - k)=some ((aU.row xs).drop k):=by
  rw[RM.dx hb (by omega),List.drop_append_of_le_length (by omega),List.take_append_of_le_length (by simp[hrow]),List.take_of_length_le (by simp[hrow])]
 have hall:=aU.qX xs
 have hins:aU.row (iN k x xs)=(aU.row xs).take k++N .u64 (x:Int) :: (aU.row xs).drop k:=by
  have h1:=aU.vI xs k
  have h2:=aU.vE xs k
  simp only[show aU.size=1 from rfl,Nat.mul_one] at h1 h2
  rw[h1,h2,iN,Enc.xQ,Enc.jF]; rfl
 have hinl:(iN k x xs).length=n + 1:=by rw[Gr (by omega),hn]
 have htl:((aU.row xs).take k).length=k:=by simp[hrow]; omega
 have hdl:((aU.row xs).drop k).length=n - k:=by simp[hrow]
 refine aH (fun hg=>?_) (fun hg=>?_)
 ·have hcn:c=n:=by simp at hg; omega
  subst hcn
  rw[Nat.sub_self,List.replicate_zero,List.append_nil] at hb
  rw[H8 (by omega) (by omega),cB,bG,wG (by omega),iQ,
   show IntKind.wrap .i64 (((c + 1:Nat) : Int) - (k:Int))=((c + 1 - k:Nat) : Int) by rw[bE (by omega) (by omega)]; omega]
  have hr0:=rQ (c + 1 - k)
  refine⟨c + 1 - k,bW [N .u64 0] (c + 1 - k),by simp[nQ],by omega,by omega,.slc M.next 0 (c + 1) (.op 1),M.push (.row ((aU.row xs).take k++bW [N .u64 0] (c + 1 - k)) true T 0), ?_, ?_⟩
  ·have hl0:M.loads b 0 (k * 1)=some ((aU.row xs).take k):=by rw[RM.dx hb (by omega)]; simp
   simp only[qK,if_neg (show ¬ c + 1 - k=0 by omega),if_neg (show ¬ k + (c + 1 - k)≤c by omega),hl0]
   have h1:(((aU.row xs).take k)++bW [N .u64 0] (c + 1 - k)).all oneCell=true:=by
    rw[List.all_append,hr0.2,Bool.and_true,List.all_eq_true]
    exact fun y hy=>List.all_eq_true.1 hall y (List.mem_of_mem_take hy)
   rw[if_pos ⟨by omega,by omega,h1⟩,show k + (c + 1 - k)=c + 1 by omega]
  ·have hnew:(M.push (.row ((aU.row xs).take k++bW [N .u64 0] (c + 1 - k)) true T 0)).heap M.next=some (.row ((aU.row xs).take k++bW [N .u64 0] (c + 1 - k)) true T 0):=RM.aQ _
   have kp:ag [] M (M.push (.row ((aU.row xs).take k++bW [N .u64 0] (c + 1 - k)) true T 0)):=(ag.refl _ _).push _
   have hb1:=kp.aN hb hbl (by simp)
   have hx1:=kp.loads hxl (by simp) (o:=0) (k:=1)
   rw[hxo] at hx1
   have hn1:(M.push (.row ((aU.row xs).take k++bW [N .u64 0] (c + 1 - k)) true T 0)).next=M.next + 1:=rfl
   generalize M.push (.row ((aU.row xs).take k++bW [N .u64 0] (c + 1 - k)) true T 0)=M1 at *
   have ayl:((aU.row xs).take k++bW [N .u64 0] (c + 1 - k)).length=c + 1:=by rw[List.length_append,htl,hr0.1]; omega
   dsimp only
   rw[sG (by omega),cB,AP (k:=1) hnew (by simp[Nat.min_def]; omega) (by omega) hx1 (by rw[ayl]; omega) rfl,bG,wG (by omega),
    sG (by omega),cB,cB]
   simp only[Nat.mul_one,Nat.zero_add]
   have avO:((aU.row xs).take k++bW [N .u64 0] (c + 1 - k)).take k++[N .u64 (x:Int)]++((aU.row xs).take k++bW [N .u64 0] (c + 1 - k)).drop (k + 1)=(aU.row xs).take k++N .u64 (x:Int) :: bW [N .u64 0] (c - k):=by
    rw[List.take_append_of_le_length (by omega),List.take_of_length_le (by omega),← List.drop_drop,List.drop_left' htl,show c + 1 - k=(c - k) + 1 by omega,bW]
    simp
   rw[avO]
   have awt:(M1.put M.next (.row ((aU.row xs).take k++N .u64 (x:Int) :: bW [N .u64 0] (c - k)) true T 0)).heap M.next=some (.row ((aU.row xs).take k++N .u64 (x:Int) :: bW [N .u64 0] (c - k)) true T 0):=aR _
   have hb2:=EW (z:=.row ((aU.row xs).take k++N .u64 (x:Int) :: bW [N .u64 0] (c - k)) true T 0) hb1 (show b≠M.next by omega)
   have kp2:ag [] M (M1.put M.next (.row ((aU.row xs).take k++N .u64 (x:Int) :: bW [N .u64 0] (c - k)) true T 0)):=kp.new _ (Nat.le_refl _)
   have hn2:(M1.put M.next (.row ((aU.row xs).take k++N .u64 (x:Int) :: bW [N .u64 0] (c - k)) true T 0)).next=M.next + 1:=hn1
   generalize M1.put M.next (.row ((aU.row xs).take k++N .u64 (x:Int) :: bW [N .u64 0] (c - k)) true T 0)=M2 at *
   have hr1:=rQ (c - k)
   have awu:M2.loads b k (c - k)=some ((aU.row xs).drop k):=by
    rw[RM.dx hb2 (by omega),List.take_of_length_le (by simp[hrow])]
   have azz:((aU.row xs).take k++N .u64 (x:Int) :: bW [N .u64 0] (c - k)).length=c + 1:=by rw[List.length_append,htl,List.length_cons,hr1.1]; omega
   have adV:((aU.row xs).drop k).all oneCell=true:=by
    rw[List.all_eq_true]; exact fun y hy=>List.all_eq_true.1 hall y (List.mem_of_mem_drop hy)
   rw[AP (k:=c - k) awt (by simp[Nat.min_def]) (by omega) awu (by rw[azz]; omega) adV]
   have hrow3:((aU.row xs).take k++N .u64 (x:Int) :: bW [N .u64 0] (c - k)).take (k + 1)++(aU.row xs).drop k++((aU.row xs).take k++N .u64 (x:Int) :: bW [N .u64 0] (c - k)).drop (k + 1 + (c - k))=aU.row (iN k x xs):=by
    rw[av2 htl hr1.1,hins]
   rw[hrow3]
   refine hQ _ _ ?_ rfl (fun d hd=>.inr (by simp[aD] at hd; omega)) ((kp2.new _ (Nat.le_refl _)).mono (by simp))
   have:Rw aU (M2.put M.next (.row (aU.row (iN k x xs)) true T 0)) M.next true T (iN k x xs):=⟨aR _,by rw[ny]; omega⟩
   have h4:=this.sl (cap:=.op 1)
   rw[hinl] at h4
   exact h4
 ·have hcn:n + 1≤c:=by simp at hg; omega
  rw[bG,wG (by omega),H8 (by omega) (by omega),cB,bG,wG (by omega),xx (by omega) (by omega) (by omega),cB]
  simp only[Nat.zero_add,Nat.mul_one]
  refine hov hne hx hb (by simp) (by rw[ajB]; omega) ?_
  rw[bR,Bool.not_false,dC,bG,wG (by omega),xx (by omega) (by omega) (by omega),cB,xx (by omega) (by omega) (by omega),cB]
  simp only[Nat.zero_add,Nat.mul_one]
  have adV:((aU.row xs).drop k).all oneCell=true:=by
   rw[List.all_eq_true]; exact fun y hy=>List.all_eq_true.1 hall y (List.mem_of_mem_drop hy)
  rw[AP (k:=n - k) hb (by simp[Nat.min_def]; omega) (by omega) hold (by rw[ajB]; omega) adV]
  have hsplit:aU.row xs=(aU.row xs).take k++(aU.row xs).drop k:=(List.take_append_drop _ _).symm
  obtain⟨y,D,hD⟩ : ∃ y D,(aU.row xs).drop k=y :: D:=by
   cases h:(aU.row xs).drop k with
   | nil=>rw[h] at hdl; simp at hdl; omega
   | cons y D=>exact⟨y,D,rfl⟩
  obtain⟨R,hR⟩ : ∃ R,List.replicate (c - n) AV.top=.top :: R∧R.length=c - n - 1:=⟨List.replicate (c - n - 1) AV.top,by rw[show c - n=(c - n - 1) + 1 by omega,List.replicate_succ]; simp,by simp⟩
  generalize hA:(aU.row xs).take k=A at *
  have hDl:D.length + 1=n - k:=by rw[hD] at hdl; simpa using hdl
  have avz:(aU.row xs++List.replicate (c - n) AV.top).take (k + 1)++(aU.row xs).drop k++(aU.row xs++List.replicate (c - n) AV.top).drop (k + 1 + (n - k))=A++y :: (y :: D++R):=by
   have hX:aU.row xs=A++y :: D:=by rw[hsplit,hD]
   rw[hD,hX,hR.1]
   have e1:A++y :: D++AV.top :: R=(A++[y])++(D++AV.top :: R):=by simp
   have e2:A++y :: D++AV.top :: R=(A++y :: D++[AV.top])++R:=by simp
   have d1:(A++y :: D++AV.top :: R).drop (k + 1 + (n - k))=R:=by rw[e2,List.drop_left' (by simp; omega)]
   have d2:(A++y :: D++AV.top :: R).take (k + 1)=A++[y]:=by rw[e1,List.take_left' (by simp[htl])]
   rw[d1,d2]
   simp
  rw[avz]
  have hb2:(M.put b (.row (A++y :: (y :: D++R)) true T 0)).heap b=some (.row (A++y :: (y :: D++R)) true T 0):=aR _
  have kp:ag [b] M (M.put b (.row (A++y :: (y :: D++R)) true T 0)):=(ag.refl _ _).put _ (.inr (by simp))
  have hx2:=kp.loads hxl (by simp[hne]) (o:=0) (k:=1)
  rw[hxo] at hx2
  have hn2:(M.put b (.row (A++y :: (y :: D++R)) true T 0)).next=M.next:=rfl
  generalize M.put b (.row (A++y :: (y :: D++R)) true T 0)=M2 at *
  have hl2:(A++y :: (y :: D++R)).length=c:=by simp[htl,hR.2]; omega
  rw[cB,AP (k:=1) hb2 (by simp[Nat.min_def]; omega) (by omega) hx2 (by rw[hl2]; omega) rfl]
  have hrow2:(A++y :: (y :: D++R)).take k++[N .u64 (x:Int)]++(A++y :: (y :: D++R)).drop (k + 1)=aU.row (iN k x xs)++R:=by
   rw[hins,hD,List.take_left' htl,show(A++y :: (y :: D++R)).drop (k + 1)=y :: D++R by
    rw[show A++y :: (y :: D++R)=(A++[y])++(y :: D++R) by simp,List.drop_left' (by simp[htl])]]
   simp
  rw[hrow2]
  refine hQ _ _ ?_ (show n + 1≤c from hcn) (fun d hd=>.inl (by simpa [aD] using hd)) (kp.put _ (.inr (by simp)))
  rw[← hinl]
  refine .slc _ _ _ _ _ (by rw[ny,hn2]; exact hbl) ?_
  have hil:(aU.row (iN k x xs)).length=n + 1:=by rw[Enc.fo,hinl]; simp[aU]
  show RM.loads _ b 0 ((iN k x xs).length * 1)=_
  rw[Nat.mul_one,hinl,RM.dx (aR _) (by rw[List.length_append,hil]; omega),List.drop_zero,List.take_append_of_le_length (by omega),List.take_of_length_le (by omega)]
theorem Own.jO {M:RM} {n el n0:Nat} {v:AV} {cs:List AV} (h:Own M n0 el 1 v cs n) : jO v:=by
 cases h with
 | nil=>trivial
 | ex0=>exact Nat.le_refl _
 | op=>rfl
theorem agb {M:RM} {v:AV} {xs:List Nat} {k:Nat} (h:Sl aU M v xs) (hc:jO v) (hk:k≤xs.length) :
  ∃ v',bB 1 v (some (N .i64 (k:Int))) none none=some v'∧Sl aU M v' (xs.drop k)∧jO v'∧∀ b∈aD v',b∈aD v:=by
 generalize hcs:aU.row xs=cs at *
 have h' : aM M 1 v cs xs.length:=by rw[← hcs]; exact h
 have hl:cs.length=xs.length:=by rw[← hcs,Enc.fo]; simp[aU]
 have hd:aU.row (xs.drop k)=cs.drop k:=by rw[← hcs,← aU.vE]; simp[aU]
 generalize hn:xs.length=n at *
 cases h' with
 | nil =>
   have:k=0:=by omega
   subst this
   exact⟨dV,by simp[bB,bnd],by simp only[Sl]; rw[hd]; simp[hn]; exact .nil,trivial,by simp⟩
 | emp b =>
   have:k=0:=by omega
   subst this
   exact⟨.emp b,by simp[bB,bnd],by simp only[Sl]; rw[hd]; simp[hn]; exact .emp b,trivial,by simp⟩
 | slc b o n cap cs hb hload =>
   rw[Nat.mul_one] at hload
   have Ba:M.loads b (o + k) (n - k)=some (cs.drop k):=by
    have:=qy hload k (n - k) (by omega)
    rw[List.take_of_length_le (by simp; omega)] at this
    exact this
   cases cap with
   | ex c =>
     have hcn:n≤c:=hc
     by_cases hck:c=k
     ·have hkn:k=n:=by omega
      refine⟨.slc b o 0 (.ex 0),by simp only[bB,bnd]; simp[hk,hcn,hck]; omega, ?_,Nat.le_refl _,by simp[aD]⟩
      simp only[Sl]
      rw[hd,List.length_drop,hn,hkn,Nat.sub_self,List.drop_of_length_le (by omega)]
      refine .slc b o 0 _ _ hb ?_
      have:=qy hload 0 0 (by omega)
      simpa using this
     ·refine⟨.slc b (o + k * 1) (n - k) (.ex (c - k)),by simp only[bB,bnd]; simp[hk,hcn,hck], ?_,by simp only[jO]; omega,by simp[aD]⟩
      simp only[Sl]
      rw[hd,List.length_drop,hn]
      refine .slc _ _ _ _ _ hb ?_
      show M.loads b (o + k * 1) ((n - k) * 1)=_
      rw[Nat.mul_one,Nat.mul_one]; exact Ba
   | op e =>
     have he:e=1:=hc
     subst he
     by_cases hkn:n≤k
     ·refine⟨.emp b,by simp only[bB,bnd]; simp[hk,hkn], ?_,trivial,by simp[aD]⟩
      simp only[Sl]
      rw[hd,List.length_drop,hn,show n - k=0 by omega,List.drop_of_length_le (by omega)]
      exact .emp b
     ·refine⟨.slc b (o + k * 1) (n - k) (.op 1),by simp only[bB,bnd]; simp[hk,hkn], ?_,rfl,by simp[aD]⟩
      simp only[Sl]
      rw[hd,List.length_drop,hn]
      refine .slc _ _ _ _ _ hb ?_
      show M.loads b (o + k * 1) ((n - k) * 1)=_
      rw[Nat.mul_one,Nat.mul_one]; exact Ba
def fq:Nat→List Nat→Nat × Nat
 | u,[]=>(u,0)
 | u,x :: xs=>if x≤u + 1 then((fq (max u x) xs).1,(fq (max u x) xs).2 + 1) else(u,0)
def settle (u:Nat) (xs:List Nat) : Nat × List Nat:=((fq u xs).1,xs.drop (fq u xs).2)
theorem Yr {u:Nat} {xs:List Nat} {i u' : Nat} (hi:i<xs.length) (h:fq u xs=((fq u' (xs.drop i)).1,(fq u' (xs.drop i)).2 + i)) (hle:xs[i]≤u' + 1) :
  fq u xs=((fq (max u' xs[i]) (xs.drop (i + 1))).1,(fq (max u' xs[i]) (xs.drop (i + 1))).2 + (i + 1)):=by
 rw[h,List.drop_eq_getElem_cons hi,fq,if_pos hle]
 ext <;> simp; omega
theorem WK {u:Nat} {xs:List Nat} {i u' : Nat} (h:fq u xs=((fq u' (xs.drop i)).1,(fq u' (xs.drop i)).2 + i)) (hs:i=xs.length∨∃ hi:i<xs.length,¬ xs[i]≤u' + 1) : fq u xs=(u',i):=by
 rw[h]
 rcases hs with hs | ⟨hi,hs⟩
 ·rw[List.drop_of_length_le (by omega)]; simp[fq]
 ·rw[List.drop_eq_getElem_cons hi,fq,if_neg hs]; simp
theorem WT (a b:Nat) : (if (b:Int) > (a:Int) then(b:Int) else(a:Int))=((max a b:Nat) : Int):=by
 split <;> omega
theorem NZ {l:List AV} {o:Nat} {x:AV} (h:l[o]?=some x) : l.set o x=l:=by
 apply List.ext_getElem?
 intro j
 rw[List.getElem?_set]
 split
 ·rename_i e; subst e
  obtain⟨h1,h2⟩:=List.getElem?_eq_some_iff.1 h
  simp[h1,h2]
 ·rfl
def Iu (c:au) : Prop:=∀ {M:RM} {b o T u:Nat} {l:List AV} {v:AV} {xs:List Nat} {Q:ak},M.heap b=some (.row l false T 0)→l[o]?=some (N .u64 (u:Int))→l[o + 1]?=some v→Sl aU M v xs→b ∉ aD v→jO v →
 xs.length≤1000000→u≤4398046511104→(∀ x∈xs,x≤4398046511104) →
 (∀ v' M',M'.heap b=some (.row ((l.set o (N .u64 (((settle u xs).1:Nat) : Int))).set (o + 1) v') false T 0)→Sl aU M' v' (settle u xs).2→jO v'→(∀ d∈aD v',d∈aD v)→ag [b] M M'→M'.next=M.next→Q (.tup []) M')→c [.ptr b o] M Q
theorem WJ:Iu fun args M Q=>∃ a0,args=[a0]∧yn a0 M Q:=by
 intro M b o T u l v xs Q hb ho hv hs hbv hcap hxl hu hx hQ
 refine⟨_,rfl, ?_⟩
 unfold yn
 simp only[gU]
 have hol:o<l.length:=(List.getElem?_eq_some_iff.1 ho).1
 have azg:o + 1<l.length:=(List.getElem?_eq_some_iff.1 hv).1
 refine aK (fun m ys M3=>∃ (i u' : Nat),m=xs.length - i∧ys=[N .i64 (i:Int)]∧i≤xs.length∧u'≤4398046511104∧M3.heap b=some (.row (l.set o (N .u64 (u' : Int))) false T 0)∧ag [b] M M3∧M3.next=M.next ∧
   fq u xs=((fq u' (xs.drop i)).1,(fq u' (xs.drop i)).2 + i)) _
  ⟨0,u,rfl,rfl,Nat.zero_le _,hu, ?_,ag.refl _ _,rfl,by simp⟩ ?_
 ·rw[hb]
  rw[NZ ho]
 rintro next m ys M3 hnext ⟨i,u',rfl,rfl,hi,hu',h3,hK,hn3,hset⟩
 dsimp only[aa]
 have g0:(l.set o (N .u64 (u' : Int)))[o]?=some (N .u64 (u' : Int)):=by rw[List.getElem?_set_self hol]
 have g1:(l.set o (N .u64 (u' : Int)))[o + 1]?=some v:=by rw[List.getElem?_set_ne (by omega)]; exact hv
 have hs3:Sl aU M3 v xs:=aM.keep hs hK (fun d hd h=>by simp at h; subst h; exact hbv hd)
 rw[aG,aF,aj h3 g1,aM.len hs3,bN]
 have stop:(i=xs.length∨∃ hi:i<xs.length,¬ xs[i]≤u' + 1)→aZ (.ptr b o) fun t44=>aA t44 1 fun t45=>ai M3 t45 fun t46=>eT (bB 1 t46 (some (N .i64 (i:Int))) none none) fun t48=>aZ (.ptr b o) fun t49=>aA t49 1 fun t50=>aL M3 t50 t48 1 fun kL=>Q (.tup []) kL:=fun h=>by
  have he:=WK hset h
  rw[aG,aF,aj h3 g1]
  obtain⟨v',e1,e2,e3,e4⟩:=agb hs3 hcap hi
  rw[e1,cB,aG,aF,fU h3 (by simpa using azg) (aM.cells e2) (aM.one e2)]
  have kk:ag [b] M3 (M3.put b (.row ((l.set o (N .u64 (u' : Int))).set (o + 1) v') false T 0)):=(ag.refl _ _).put _ (.inr (by simp))
  refine hQ v' _ ?_ ?_ e3 e4 (hK.trans kk) hn3
  ·rw[aR,settle,he]
  ·rw[settle,he]
   exact aM.keep e2 kk (fun d hd h=>by simp at h; subst h; exact hbv (e4 _ hd))
 by_cases hlt:i<xs.length
 ·have hxi:=hx _ (List.getElem_mem hlt)
  obtain⟨b1,o1,_,_,hidx,hc⟩:=Sl.uB (E:=aU) hs3 (i:Int) hlt
  have hc:=hc _ rfl
  rw[show decide ((i:Int)<(xs.length:Int))=true by simpa using hlt,ic,aG,aF,aj h3 g1,hidx,fH]
  refine⟨_,hc, ?_⟩
  rw[aG,aF,Nat.add_zero,aj h3 g0,bG,mr]
  rw[show IntKind.u64.wrap ((u' : Int) + 1)=((u' + 1:Nat) : Int) by unfold IntKind.wrap; simp[IntKind.bits,IntKind.signed]; omega]
  dsimp only
  rw[bO]
  refine aH (fun h=>?_) (fun h=>?_)
  ·have hle:xs[i]≤u' + 1:=by
    have h2:((xs[i] : Nat) : Int)≤((u' + 1:Nat) : Int):=of_decide_eq_true h
    omega
   rw[aG,aF,Nat.add_zero,aj h3 g0,aG,aF,aj h3 g1,hidx,fH]
   refine⟨_,hc, ?_⟩
   rw[YX,if_pos rfl,WT,aG,aF,Nat.add_zero,rJ (l.set o (N .u64 ((max u' xs[i] : Nat) : Int))) h3 (by simpa using hol) rfl rfl (by rw[List.set_set]),bG,dK (by omega)]
   exact hnext _ _ _ (by omega) ⟨i + 1,max u' xs[i],rfl,rfl,by omega,by omega,aR _,hK.put _ (.inr (by simp)),hn3,Yr hlt hset hle⟩
  ·have hle:¬ xs[i]≤u' + 1:=by
    have h2:¬ ((xs[i] : Nat) : Int)≤((u' + 1:Nat) : Int):=of_decide_eq_false h
    omega
   exact stop (.inr ⟨hlt,hle⟩)
 ·rw[show decide ((i:Int)<(xs.length:Int))=false by simp; omega,iH]
  dsimp only
  rw[bz,bI]
  exact stop (.inl (by omega))
abbrev Pt:=Nat × List Nat
def iM (p:Pt) (n:Nat) : Bool × Pt :=
 if n∈p.2∨n≤p.1 then(true,p)
 else if (settle p.1 (iN (below n p.2) n p.2)).2.length≤4096 then(true,settle p.1 (iN (below n p.2) n p.2)) else(false,p)
def aa7 (T:Nat) (c:au) : Prop:=∀ {M:RM} {v:AV} {bx n0 k x ex:Nat} {xs:List Nat} {Q:ak},Ow aU M n0 T v xs→n0≤M.next→xs.length≤100000→k≤xs.length→M.heap bx=some (.row [N .u64 (x:Int)] false ex 0)→bx<M.next→bx ∉ aD v →
 (∀ v' M',Sl aU M' v' (iN k x xs)→jO v'→(∀ c∈aD v',n0≤c)→ag (aD v) M M'→Q v' M')→c [v,N .i64 (k:Int),.slc bx 0 1 (.ex 1)] M Q
theorem HZ (u:Nat) (xs:List Nat) : (settle u xs).2.length≤xs.length:=by simp[settle]
theorem Hr {k x:Nat} {xs:List Nat} {y:Nat} (h:y∈iN k x xs) : y=x∨y∈xs:=by
 unfold iN at h
 rcases List.mem_append.1 h with h | h
 ·exact .inr (List.mem_of_mem_take h)
 ·rcases List.mem_cons.1 h with h | h
  ·exact .inl h
  ·exact .inr (List.mem_of_mem_drop h)
def acX (c:au) : Prop:=∀ {M:RM} {b o T u n:Nat} {l:List AV} {v:AV} {xs:List Nat} {Q:ak},M.heap b=some (.row l false T 0)→b<M.next→l[o]?=some (N .u64 (u:Int))→l[o + 1]?=some v→Sl aU M v xs→b ∉ aD v→jO v →
 Asc xs→xs.length≤10000→u≤4398046511104→(∀ x∈xs,x≤4398046511104)→n≤4398046511104 →
 (∀ M',iM (u,xs) n=((iM (u,xs) n).1,(u,xs))→ag [] M M'→Q (Bo (iM (u,xs) n).1) M') →
 (∀ v' M',M'.heap b=some (.row (l.take o++[N .u64 (((iM (u,xs) n).2.1:Nat) : Int),v']++l.drop (o + 2)) false T 0)→Sl aU M' v' (iM (u,xs) n).2.2→jO v'→(∀ d∈aD v',M.next≤d)→ag [b] M M'→Q (Bo (iM (u,xs) n).1) M') →
 c [.ptr b o,N .u64 (n:Int)] M Q
theorem ae5 {TU TP:Nat} {cb cc ci cs:au} (hsr:LX cb) (hcl:FP TU 1 8 cc) (hin:aa7 TU ci) (hst:Iu cs) : acX fun args M Q=>∃ a0 a1,args=[a0,a1]∧H6 cb TU TP cc ci cs a0 a1 M Q:=by
 intro M b o T u n l v xs Q hb hbl ho hv hs hbv hcap hasc hxl hu hx hn hsame hnew
 refine⟨_,_,rfl, ?_⟩
 unfold H6
 simp only[gT]
 have hol:o + 1<l.length:=(List.getElem?_eq_some_iff.1 hv).1
 rw[aG,aF,aj hb hv]
 refine hsr hs (by omega) hasc ?_
 rw[kN,kP]
 have yes:n∈xs∨n≤u→Q (Bo true) M:=fun h=>by
  have e:iM (u,xs) n=(true,(u,xs)):=by unfold iM; rw[if_pos h]
  have:=hsame M (by rw[e]) (ag.refl _ _)
  rw[e] at this; exact this
 by_cases hm:n∈xs
 ·rw[decide_eq_true hm,di]
  dsimp only
  rw[bO,dC]
  exact yes (.inl hm)
 rw[decide_eq_false hm,aT,aG,aF,Nat.add_zero,aj hb ho,mr]
 dsimp only
 rw[bz]
 by_cases hnu:n≤u
 ·rw[show decide ((n:Int)≤(u:Int))=true by simpa using hnu,dC]
  exact yes (.inr hnu)
 rw[show decide ((n:Int)≤(u:Int))=false by simp; omega,bI]
 have e0:iM (u,xs) n=if (settle u (iN (below n xs) n xs)).2.length≤4096 then(true,settle u (iN (below n xs) n xs)) else(false,(u,xs)):=by
  unfold iM; rw[if_neg (by simp[hm]; omega)]
 rw[aG,aF,Nat.add_zero,aj hb ho,aG,aF,aj hb hv,lv (x:=N .u64 (n:Int)) (size:=1) rfl rfl rfl,ku,ku]
 have hx1:((M.push (.row [N .u64 (n:Int)] false TU 0)).push (.row [N .u64 0,dV] false TP 0)).heap M.next=some (.row [N .u64 (n:Int)] false TU 0):=lQ (RM.aQ _) (by simp[RM.push])
 have h7:((M.push (.row [N .u64 (n:Int)] false TU 0)).push (.row [N .u64 0,dV] false TP 0)).heap (M.next + 1)=some (.row [N .u64 0,dV] false TP 0):=RM.aQ _
 have kk:ag [] M ((M.push (.row [N .u64 (n:Int)] false TU 0)).push (.row [N .u64 0,dV] false TP 0)):=((ag.refl _ _).push _).push _
 have nn:((M.push (.row [N .u64 (n:Int)] false TU 0)).push (.row [N .u64 0,dV] false TP 0)).next=M.next + 2:=rfl
 rw[DF]
 change cc _ ((M.push (.row [N .u64 (n:Int)] false TU 0)).push (.row [N .u64 0,dV] false TP 0)) _
 generalize (M.push (.row [N .u64 (n:Int)] false TU 0)).push (.row [N .u64 0,dV] false TP 0)=M1 at *
 refine hcl (aM.keep hs kk (by simp)) (aU.qX xs) (by omega) (by omega) fun v1 M2 ow k2=>?_
 have n2:=k2.next
 have hb2:=(kk.trans k2).aN hb hbl (by simp)
 have hx2:=k2.aN hx1 (by omega) (by simp)
 have h72:=k2.aN h7 (by omega) (by simp)
 have hbi:=below_le n xs
 have hwb:∀ d∈aD v1,M1.next≤d:=fun d hd=>(ow.blk d hd).1
 rw[aj hb2 ho]
 refine⟨rfl, ?_⟩
 rw[lv (x:=N .u64 (n:Int)) (size:=1) rfl rfl rfl]
 refine⟨⟨hx2,rfl⟩,⟨h72,rfl⟩, ?_⟩
 refine hin (n0:=M1.next) ow n2 (by omega) hbi hx2 (by omega) (fun h=>by have:=hwb _ h; omega) fun v2 M3 s3 c3 b3 k3=>?_
 have n3:=k3.next
 have ke:ag [] M M3:=(kk.trans k2).aY k3 fun d hd=>.inl (by have:=hwb d hd; omega)
 have hb3:=ke.aN hb hbl (by simp)
 have h73:=k3.aN h72 (by omega) (fun h=>by have:=hwb _ h; omega)
 rw[aj hb3 ho]
 refine⟨rfl,⟨h73,rfl⟩, ?_⟩
 rw[jI]
 refine⟨[N .u64 (u:Int),v2],aey rfl rfl (aM.known s3) (aM.cells s3), ?_⟩
 rw[iK (n:=2) (x:=.agg [N .u64 (u:Int),v2]) (l:=[N .u64 0,dV]) h73 rfl rfl (by simp[AV.cells,Xh,aM.one s3])]
 change cs _ (M3.put (M.next + 1) (.row [N .u64 (u:Int),v2] false TP 0)) _
 have h74:(M3.put (M.next + 1) (.row [N .u64 (u:Int),v2] false TP 0)).heap (M.next + 1)=_:=aR _
 have ke4:ag [] M (M3.put (M.next + 1) (.row [N .u64 (u:Int),v2] false TP 0)):=ke.new _ (by omega)
 have n4:(M3.put (M.next + 1) (.row [N .u64 (u:Int),v2] false TP 0)).next=M3.next:=rfl
 have s4:Sl aU (M3.put (M.next + 1) (.row [N .u64 (u:Int),v2] false TP 0)) v2 (iN (below n xs) n xs):=aM.keep (bs:=[M.next + 1]) s3 ((ag.refl _ _).put _ (.inr (by simp))) (fun d hd h=>by have:=b3 d hd; simp at h; omega)
 have hb4:=EW (z:=.row [N .u64 (u:Int),v2] false TP 0) hb3 (show b≠M.next + 1 by omega)
 generalize M3.put (M.next + 1) (.row [N .u64 (u:Int),v2] false TP 0)=M4 at *
 have hil:=Gr (x:=n) hbi
 refine hst h74 rfl rfl s4 (fun h=>by have:=b3 _ h; omega) c3 (by omega) hu (fun y hy=>by rcases Hr hy with rfl | hy; exact hn; exact hx y hy) ?_
 intro v5 M5 h75 s5 c5 b5 k5 n5
 have hb5:=k5.aN hb4 (by omega) (by simp; omega)
 have ke5:ag [] M M5:=ke4.aY k5 fun d hd=>.inl (by simp at hd; omega)
 simp only[List.set_cons_zero,List.set_cons_succ,Nat.zero_add] at h75
 rw[aS,aj h75 rfl,aM.len s5,eF]
 refine aH (fun hg=>?_) (fun hg=>?_)
 ·have hg:¬ (settle u (iN (below n xs) n xs)).2.length≤4096:=by simp at hg; omega
  rw[if_neg hg] at e0
  have:=hsame M5 (by rw[e0]) ke5
  rw[e0] at this; exact this
 ·have hg:(settle u (iN (below n xs) n xs)).2.length≤4096:=by simp at hg; omega
  rw[if_pos hg] at e0
  rw[dF (n:=2) h75 rfl,aG,Aw]
  have hst:M5.stores b o [N .u64 (((settle u (iN (below n xs) n xs)).1:Nat) : Int),v5]=some (M5.put b (.row (l.take o++[N .u64 (((settle u (iN (below n xs) n xs)).1:Nat) : Int),v5]++l.drop (o + 2)) false T 0)):=by
   rw[RM.zG hb5,sV (by simp only[List.length_cons,List.length_nil]; omega) (Nat.zero_le _) (by simp[Xh,aM.one s5])]; rfl
  refine⟨rfl,_,hst, ?_⟩
  have kf:ag [b] M5 (M5.put b (.row (l.take o++[N .u64 (((settle u (iN (below n xs) n xs)).1:Nat) : Int),v5]++l.drop (o + 2)) false T 0)):=(ag.refl _ _).put _ (.inr (by simp))
  have:=hnew v5 _ (by rw[aR,e0]) (by rw[e0]; exact aM.keep s5 kf (fun d hd h=>by have:=b3 d (b5 d hd); simp at h; omega)) c5 (fun d hd=>by have:=b3 d (b5 d hd); omega) ((ke5.mono (by simp)).trans kf)
  rw[e0] at this; exact this
def kF (p:Pt) (n:Nat) : Bool:=(decide (1≤n) && decide (n≤p.1)) || decide (n∈p.2)
def VZ (c:au) : Prop:=∀ {M:RM} {b o T u n:Nat} {l:List AV} {v:AV} {xs:List Nat} {Q:ak},M.heap b=some (.row l false T 0)→l[o]?=some (N .u64 (u:Int))→l[o + 1]?=some v→Sl aU M v xs→Asc xs→xs.length≤1000000 →
 Q (Bo (kF (u,xs) n)) M→c [.ptr b o,N .u64 (n:Int)] M Q
theorem aeu {cb:au} (hsr:LX cb) : VZ fun args M Q=>∃ a0 a1,args=[a0,a1]∧Hd cb a0 a1 M Q:=by
 intro M b o T u n l v xs Q hb ho hv hs hasc hxl hQ
 refine⟨_,_,rfl, ?_⟩
 unfold Hd
 simp only[gT]
 unfold kF at hQ
 rw[aG,aF,aj hb hv]
 refine hsr hs hxl hasc ?_
 rw[kN,kP,jA]
 by_cases h1:1≤n
 ·rw[show decide ((n:Int) ≥ 1)=true by simp; omega,bK,aG,aF,Nat.add_zero,aj hb ho,mr]
  dsimp only
  rw[bO]
  by_cases h2:n≤u
  ·rw[show decide ((n:Int)≤(u:Int))=true by simpa using h2,di]
   dsimp only
   rw[bO]
   simpa [h1,h2] using hQ
  ·rw[show decide ((n:Int)≤(u:Int))=false by simp; omega,aT]
   dsimp only
   rw[bz]
   simpa [h1,h2] using hQ
 ·rw[show decide ((n:Int) ≥ 1)=false by simp; omega,bM]
  dsimp only
  rw[bz,aT]
  dsimp only
  rw[bz]
  simpa [h1] using hQ
abbrev aC:=Int × Nat
abbrev aO (d:aC) : List AV:=[N .i64 d.1,N .u64 (d.2:Int)]
def dM:Enc aC:=⟨2,aO,fun _=>rfl,fun _=>rfl⟩
def good (d:aC) : Bool:=decide (0≤d.1) && decide (d.1<16) && decide (1≤d.2) && decide (d.2≤1099511627776)
def Dm (c:au) : Prop:=∀ {M:RM} {d:aC} {Q:ak},(∀ M',ag [] M M'→Q (Bo (good d)) M')→c [.agg (aO d)] M Q
theorem UW {M1:RM} {K:ak} {d:aC} {T:Nat} {b:Nat} (h:M1.heap b=some (.row (aO d) false T 0)) (hQ:K (Bo (good d)) M1) :
  aA (.ptr b 0) 0 fun t3=>ai M1 t3 fun t4=>af .geq t4 (N .i64 0) fun t5 =>
   ah t5 true (fun k'=>aA (.ptr b 0) 0 fun t7=>ai M1 t7 fun t8=>af .lss t8 (N .i64 16) fun t9=>k' t9 M1) (fun k=>k .undef M1) fun t9 M2=>aJ t5 t9 (Bo false) fun bH =>
   ah bH true (fun k'=>aA (.ptr b 0) 1 fun t12=>ai M2 t12 fun bf=>af .geq bf (N .u64 1) fun t14=>k' t14 M2) (fun k=>k .undef M2) fun t14 M3=>aJ bH t14 (Bo false) fun t15 =>
   ah t15 true (fun k'=>aA (.ptr b 0) 1 fun t17=>ai M3 t17 fun t18=>af .leq t18 (N .u64 1099511627776) fun t19=>k' t19 M3) (fun k=>k .undef M3) fun t19 M4=>aJ t15 t19 (Bo false) fun t20=>K t20 M4:=by
 unfold good at hQ
 obtain⟨dv,n⟩:=d
 simp only at hQ
 rw[aS,aj h rfl,jA]
 by_cases h1:0≤dv
 ·rw[show decide (dv ≥ 0)=true by simpa using h1,bK,aS,aj h rfl,bN]
  dsimp only
  rw[bO]
  by_cases h2:dv<16
  ·rw[show decide (dv<16)=true by simpa using h2,bK,aS,aj h rfl,jA]
   dsimp only
   rw[bO]
   by_cases h3:1≤n
   ·rw[show decide ((n:Int) ≥ 1)=true by simp; omega,bK,aS,aj h rfl,mr]
    dsimp only
    rw[bO,show decide ((n:Int)≤1099511627776)=decide (n≤1099511627776) by simp; omega]
    simpa [h1,h2,h3] using hQ
   ·rw[show decide ((n:Int) ≥ 1)=false by simp; omega,bM]
    dsimp only
    rw[bz]
    simpa [h1,h2,h3] using hQ
  ·rw[show decide (dv<16)=false by simpa using h2,bM]
   dsimp only
   rw[bz,bM]
   dsimp only
   rw[bz]
   simpa [h1,h2] using hQ
 ·rw[show decide (dv ≥ 0)=false by simpa using h1,bM]
  dsimp only
  rw[bz,bM]
  dsimp only
  rw[bz,bM]
  dsimp only
  rw[bz]
  simpa [h1] using hQ
theorem afB {T:Nat} : Dm fun args M Q=>∃ a0,args=[a0]∧Oj T a0 M Q:=by
 intro M d Q hQ
 refine⟨_,rfl, ?_⟩
 unfold Oj
 simp only[gT]
 rw[dL rfl (by simp),bn]
 exact UW (RM.aQ _) (hQ _ ((ag.refl _ _).push _))
theorem Ze {T:Nat} : Dm fun args M Q=>∃ a0,args=[a0]∧Ny T a0 M Q:=by
 intro M d Q hQ
 refine⟨_,rfl, ?_⟩
 unfold Ny
 simp only[gT]
 rw[dL rfl (by simp),bn]
 exact UW (RM.aQ _) (hQ _ ((ag.refl _ _).push _))
def jP (p:Pt) : Prop:=Asc p.2∧(∀ x∈p.2,p.1 + 1<x)∧p.1≤1099511627776∧(∀ x∈p.2,x≤1099511627776)∧p.2.length≤4096
theorem aiJ {n:Nat} {xs:List Nat} (h:Asc xs) (hn:n ∉ xs) : Asc (iN (below n xs) n xs):=by
 unfold iN Asc
 rw[List.pairwise_append]
 have ht:=List.Pairwise.sublist (List.take_sublist (below n xs) xs) h
 have hd:=List.Pairwise.sublist (List.drop_sublist (below n xs) xs) h
 have lt1:∀ a∈xs.take (below n xs),a<n:=fun a ha=>by
  obtain⟨i,hi,rfl⟩:=List.getElem_of_mem ha
  rw[List.getElem_take]
  exact Yv (by simp at hi; omega) (by simp at hi; omega)
 have gt1:∀ a∈xs.drop (below n xs),n<a:=fun a ha=>by
  obtain⟨i,hi,rfl⟩:=List.getElem_of_mem ha
  rw[List.getElem_drop]
  simp only[List.length_drop] at hi
  have h0:below n xs<xs.length:=by omega
  have h1:=V4 (n:=n) h0
  have h2:xs[below n xs]≠n:=fun e=>hn (by rw[← e]; exact List.getElem_mem h0)
  rcases Nat.eq_zero_or_pos i with rfl | hi0
  ·simp only[Nat.add_zero]; omega
  ·have:=h.lt (i:=below n xs) (j:=below n xs + i) (by omega) (by omega); omega
 refine⟨ht,List.pairwise_cons.2 ⟨gt1,hd⟩,fun a ha b hb=>?_⟩
 rcases List.mem_cons.1 hb with rfl | hb
 ·exact lt1 a ha
 ·have:=lt1 a ha; have:=gt1 b hb; omega
theorem De:∀ (xs:List Nat) (u N:Nat),Asc xs→u≤N→(∀ x∈xs,x≤N)→Asc (settle u xs).2∧(∀ x∈(settle u xs).2,(settle u xs).1 + 1<x)∧(settle u xs).1≤N∧u≤(settle u xs).1
 | [],u,N,_,hu,_=>⟨by simp[settle,fq,Asc],by simp[settle,fq],hu,Nat.le_refl _⟩
 | x :: xs,u,N,ha,hu,hx=>by
   have ha2:=(List.pairwise_cons.1 ha).2
   by_cases h:x≤u + 1
   ·have e:settle u (x :: xs)=settle (max u x) xs:=by
     unfold settle
     rw[fq,if_pos h]; rfl
    rw[e]
    have:=De xs (max u x) N ha2 (by have:=hx x (by simp); omega) (fun y hy=>hx y (by simp[hy]))
    exact⟨this.1,this.2.1,this.2.2.1,by have:=this.2.2.2; omega⟩
   ·have e:settle u (x :: xs)=(u,x :: xs):=by
     unfold settle
     rw[fq,if_neg h]; rfl
    rw[e]
    refine⟨ha,fun y hy=>?_,hu,Nat.le_refl _⟩
    simp only at hy ⊢
    rcases List.mem_cons.1 hy with rfl | hy
    ·omega
    ·have:=(List.pairwise_cons.1 ha).1 y hy; omega
theorem Rk {u:Nat} {xs:List Nat} {y:Nat} (h:y∈(settle u xs).2) : y∈xs:=List.mem_of_mem_drop h
theorem akJ {p:Pt} {n:Nat} (hp:jP p) (hn:n≤1099511627776) : jP (iM p n).2:=by
 unfold iM
 split
 ·exact hp
 ·rename_i h
  split
  ·rename_i h2
   have hm:n ∉ p.2:=fun hm=>h (.inl hm)
   have:=De (iN (below n p.2) n p.2) p.1 1099511627776 (aiJ hp.1 hm) hp.2.2.1 (fun x hx=>by rcases Hr hx with rfl | hx; exact hn; exact hp.2.2.2.1 x hx)
   exact⟨this.1,this.2.1,this.2.2.1,fun x hx=>by rcases Hr (Rk hx) with rfl | hx; exact hn; exact hp.2.2.2.1 x hx,h2⟩
  ·exact hp
structure iA (T:Nat) (S:Nat→Prop) (M:RM) (b:Nat) (ps:List Pt) : Prop where
 lt:b<M.next
 len:ps.length=16
 row:∃ l,M.heap b=some (.row l false T 0)∧l.length=32∧∀ (i:Nat) (hi:i<ps.length),∃ v,l[2 * i]?=some (N .u64 (ps[i].1:Int))∧l[2 * i + 1]?=some v∧Sl aU M v ps[i].2∧jO v∧∀ d∈aD v,S d
 nb:¬ S b
theorem iA.mono {T:Nat} {S S' : Nat→Prop} {M:RM} {b:Nat} {ps:List Pt} (h:iA T S M b ps) (hs:∀ d,S d→S' d) (hb:¬ S' b) : iA T S' M b ps:=by
 obtain⟨l,h1,h2,h3⟩:=h.row
 exact⟨h.lt,h.len,⟨l,h1,h2,fun i hi=>let ⟨v,a1,a2,a3,a4,a5⟩:=h3 i hi; ⟨v,a1,a2,a3,a4,fun d hd=>hs d (a5 d hd)⟩⟩,hb⟩
theorem iA.keep {T:Nat} {S:Nat→Prop} {M M' : RM} {b:Nat} {ps:List Pt} {bs:List Nat} (h:iA T S M b ps) (hk:ag bs M M') (hb:b ∉ bs) (hs:∀ d∈bs,¬ S d) : iA T S M' b ps:=by
 obtain⟨l,h1,h2,h3⟩:=h.row
 exact⟨Nat.lt_of_lt_of_le h.lt hk.next,h.len,⟨l,hk.aN h1 h.lt hb,h2,fun i hi=>let ⟨v,a1,a2,a3,a4,a5⟩:=h3 i hi; ⟨v,a1,a2,aM.keep a3 hk (fun d hd hm=>hs d hm (a5 d hd)),a4,a5⟩⟩,h.nb⟩
theorem iA.below {T:Nat} {S:Nat→Prop} {M:RM} {b:Nat} {ps:List Pt} (h:iA T S M b ps) : iA T (fun d=>S d∧d<M.next) M b ps:=by
 obtain⟨l,h1,h2,h3⟩:=h.row
 exact⟨h.lt,h.len,⟨l,h1,h2,fun i hi=>let ⟨v,a1,a2,a3,a4,a5⟩:=h3 i hi; ⟨v,a1,a2,a3,a4,fun d hd=>⟨a5 d hd,aM.lt a3 d hd⟩⟩⟩,fun hb=>h.nb hb.1⟩
def nY (ps:List Pt) (d:aC) : Int × List Pt :=
 if good d then(if (iM (ps.getD d.1.toNat (0,[])) d.2).1 then(0,ps.set d.1.toNat (iM (ps.getD d.1.toNat (0,[])) d.2).2) else(2,ps)) else(1,ps)
def acU (T:Nat) (c:au) : Prop:=∀ {M:RM} {b:Nat} {ps:List Pt} {d:aC} {S:Nat→Prop} {Q:ak},iA T S M b ps→(∀ p∈ps,jP p) →
 (∀ M',iA T (fun e=>S e∨M.next≤e) M' b (nY ps d).2→ag [b] M M'→Q (N .i64 (nY ps d).1) M')→c [.ptr b 0,.agg (aO d)] M Q
theorem acZ {p:Pt} {n:Nat} (h:(iM p n).1=false) : (iM p n).2=p:=by
 unfold iM at h ⊢
 split
 ·rfl
 ·split
  ·rename_i h1 h2
   rw[if_neg h1,if_pos h2] at h; cases h
  ·rfl
theorem aeH {T TD:Nat} {cg ca:au} (hg:Dm cg) (ha:acX ca) : acU T fun args M Q=>∃ a0 a1,args=[a0,a1]∧K4 TD cg ca a0 a1 M Q:=by
 intro M b ps d S Q hset hwf hQ
 refine⟨_,_,rfl, ?_⟩
 unfold K4
 rw[dL rfl (by simp),bn,dF (n:=2) (RM.aQ _) rfl]
 have k1:ag [] M (M.push (.row (aO d) false TD 0)):=(ag.refl _ _).push _
 have h3:(M.push (.row (aO d) false TD 0)).heap M.next=some (.row (aO d) false TD 0):=RM.aQ _
 have n1:(M.push (.row (aO d) false TD 0)).next=M.next + 1:=rfl
 generalize M.push (.row (aO d) false TD 0)=M1 at *
 refine hg fun M2 k2=>?_
 have kk:=k1.trans k2
 have h3:=k2.aN h3 (by omega) (by simp)
 have s2:=hset.keep kk (by simp) (by simp)
 have hbl:=hset.lt
 rw[bR]
 unfold nY at hQ
 have n2:=k2.next
 cases hgd:good d with
 | false =>
   simp only[hgd,Bool.false_eq_true,if_false] at hQ
   rw[Bool.not_false,dC]
   exact hQ M2 (s2.mono (fun e h=>.inl h) (fun h=>by rcases h with h | h; exact hset.nb h; omega)) (kk.mono (by simp))
 | true =>
   simp only[hgd,if_true] at hQ
   have hgd':=hgd
   simp[good] at hgd'
   obtain⟨i,hi⟩ : ∃ i:Nat,d.1=(i:Int):=⟨d.1.toNat,by omega⟩
   have XG:i<16:=by omega
   have hil:i<ps.length:=by rw[hset.len]; exact XG
   have awe:ps.getD d.1.toNat (0,[])=ps[i]:=by rw[hi,Int.toNat_natCast,List.getD_eq_getElem?_getD,List.getElem?_eq_getElem hil]; rfl
   rw[awe] at hQ
   rw[hi,Int.toNat_natCast] at hQ
   rw[Bool.not_true,bI,aS,aj h3 rfl,aG,aS,hi,yx]
   refine⟨by omega,by omega, ?_⟩
   rw[aS,aj h3 rfl,Int.toNat_natCast,Nat.zero_add,Nat.mul_comm i 2]
   obtain⟨l,hb,JY,hrow⟩:=s2.row
   obtain⟨v,a1,a2,a3,a4,a5⟩:=hrow i hil
   have hwp:=hwf _ (List.getElem_mem hil)
   have hk0:∀ b'∈([b] : List Nat),b'=b:=by simp
   refine ha hb s2.lt a1 a2 a3 (fun h=>hset.nb (a5 b h)) a4 hwp.1 (by have:=hwp.2.2.2.2; omega) (by have:=hwp.2.2.1; omega) (fun x hx=>by have:=hwp.2.2.2.1 x hx; omega) (by omega) ?_ ?_
   ·intro M3 he k3
    have s3:=s2.keep k3 (by simp) (by simp)
    rw[bR]
    cases hr:(iM (ps[i].1,ps[i].2) d.2).1 with
    | false =>
      have hr' : (iM ps[i] d.2).1=false:=hr
      simp only[hr',Bool.false_eq_true,if_false] at hQ
      rw[Bool.not_false,dC]
      exact hQ M3 (s3.mono (fun e h=>.inl h) (fun h=>by rcases h with h | h; exact hset.nb h; omega)) ((kk.trans k3).mono (by simp))
    | true =>
      have hr' : (iM ps[i] d.2).1=true:=hr
      have he2:(iM ps[i] d.2).2=ps[i]:=by
       have:=congrArg Prod.snd he
       exact this
      simp only[hr',if_true,he2,List.set_getElem_self] at hQ
      rw[Bool.not_true,bI]
      exact hQ M3 (s3.mono (fun e h=>.inl h) (fun h=>by rcases h with h | h; exact hset.nb h; omega)) ((kk.trans k3).mono (by simp))
   ·intro v' M3 hb3 hs3 hc3 hbk k3
    rw[bR]
    have hb2n:∀ b'∈aD v',b'≠b:=fun b' hb' e=>by have:=hbk b' hb'; omega
    have Xy:iA T (fun e=>S e∨M.next≤e) M3 b (ps.set i (iM ps[i] d.2).2):=by
     refine⟨Nat.lt_of_lt_of_le s2.lt k3.next,by rw[List.length_set]; exact hset.len,⟨_,hb3,by simp[JY]; omega,fun j hj=>?_⟩,fun h=>by rcases h with h | h; exact hset.nb h; omega⟩
     rw[List.length_set] at hj
     have htl:(l.take (2 * i)).length=2 * i:=by simp; omega
     by_cases hji:j=i
     ·subst hji
      refine⟨v', ?_, ?_, ?_,hc3,fun e he=>.inr (by have:=hbk e he; omega)⟩
      ·rw[List.append_assoc,List.getElem?_append_right (by omega),htl,Nat.sub_self]; simp
      ·rw[List.append_assoc,List.getElem?_append_right (by omega),htl,show 2 * j + 1 - 2 * j=1 by omega]; simp
      ·simp only[List.getElem_set_self]; exact hs3
     ·obtain⟨w,e1,e2,e3,e4,e5⟩:=hrow j hj
      have same:∀ k,(k=2 * j∨k=2 * j + 1)→(l.take (2 * i)++[N .u64 (((iM (ps[i].1,ps[i].2) d.2).2.1:Nat) : Int),v']++l.drop (2 * i + 2))[k]?=l[k]?:=fun k hk=>by
       rcases Nat.lt_or_ge k (2 * i) with h | h
       ·rw[List.append_assoc,List.getElem?_append_left (by omega),List.getElem?_take_of_lt h]
       ·rw[List.getElem?_append_right (by simp; omega),List.getElem?_drop]
        congr 1
        simp; omega
      refine⟨w, ?_, ?_, ?_,e4,fun e he=>.inl (e5 e he)⟩
      ·rw[same _ (.inl rfl),e1,List.getElem_set_ne (Ne.symm hji)]
      ·rw[same _ (.inr rfl),e2]
      ·rw[List.getElem_set_ne (Ne.symm hji)]
       exact aM.keep e3 k3 (fun e he hm=>by simp at hm; subst hm; exact hset.nb (e5 _ he))
    cases hr:(iM (ps[i].1,ps[i].2) d.2).1 with
    | false =>
      have hr' : (iM ps[i] d.2).1=false:=hr
      simp only[hr',Bool.false_eq_true,if_false] at hQ
      rw[Bool.not_false,dC]
      have e:=acZ hr'
      rw[e,List.set_getElem_self] at Xy
      exact hQ M3 Xy ((kk.mono (by simp)).trans k3)
    | true =>
      have hr' : (iM ps[i] d.2).1=true:=hr
      simp only[hr',if_true] at hQ
      rw[Bool.not_true,bI]
      exact hQ M3 Xy ((kk.mono (by simp)).trans k3)
def gu:List Pt:=List.replicate 16 (0,[])
def abw (T:Nat) (c:au) : Prop:=∀ {M:RM} {Q:ak},(∀ M',iA T (fun _=>False) M' M.next gu→ag [] M M'→M'.next=M.next + 1→Q (.ptr M.next 0) M')→c [] M Q
theorem ag2 {T:Nat} : abw T fun args M Q=>args=[]∧FT T M Q:=by
 intro M Q hQ
 refine⟨rfl, ?_⟩
 unfold FT
 rw[jI]
 refine⟨_,rfl, ?_⟩
 rw[dL rfl (by simp),bn]
 refine hQ _ ⟨by simp[RM.push],rfl,⟨_,RM.aQ _,rfl,fun i hi=>?_⟩,id⟩ ((ag.refl _ _).push _) rfl
 have hi:i<16:=hi
 refine⟨dV, ?_, ?_, ?_,trivial,by simp[aD]⟩
 ·obtain rfl | rfl | rfl | rfl | rfl | rfl | rfl | rfl | rfl | rfl | rfl | rfl | rfl | rfl | rfl | rfl:i=0∨i=1∨i=2∨i=3∨i=4∨i=5∨i=6∨i=7∨i=8∨i=9∨i=10∨i=11∨i=12∨i=13∨i=14∨i=15:=by omega
  all_goals rfl
 ·obtain rfl | rfl | rfl | rfl | rfl | rfl | rfl | rfl | rfl | rfl | rfl | rfl | rfl | rfl | rfl | rfl:i=0∨i=1∨i=2∨i=3∨i=4∨i=5∨i=6∨i=7∨i=8∨i=9∨i=10∨i=11∨i=12∨i=13∨i=14∨i=15:=by omega
  all_goals rfl
 ·simp only[gu,List.getElem_replicate]; exact .nil
section
variable {α:Type} {E:Enc α}
theorem YF {M:RM} {v:AV} {xs:List α} {k:Nat} (hE:E.size=1) (h:Sl E M v xs) (hc:jO v) (hk:k≤xs.length) :
  ∃ v',bB 1 v (some (N .i64 (k:Int))) none none=some v'∧Sl E M v' (xs.drop k)∧jO v'∧∀ b∈aD v',b∈aD v:=by
 generalize hcs:E.row xs=cs at *
 have h' : aM M 1 v cs xs.length:=by rw[← hcs,← hE]; exact h
 have hl:cs.length=xs.length:=by rw[← hcs,Enc.fo,hE,Nat.mul_one]
 have hd:E.row (xs.drop k)=cs.drop k:=by rw[← hcs,← E.vE,hE,Nat.mul_one]
 have goal:∀ v',Sl E M v' (xs.drop k)↔aM M 1 v' (cs.drop k) (xs.length - k):=fun v'=>by simp only[Sl]; rw[hd,List.length_drop,hE]
 generalize hn:xs.length=n at *
 cases h' with
 | nil =>
   have:k=0:=by omega
   subst this
   exact⟨dV,by simp[bB,bnd],(goal _).2 (by simp; exact .nil),trivial,by simp⟩
 | emp b =>
   have:k=0:=by omega
   subst this
   exact⟨.emp b,by simp[bB,bnd],(goal _).2 (by simp; exact .emp b),trivial,by simp⟩
 | slc b o n cap cs hb hload =>
   rw[Nat.mul_one] at hload
   have Ba:M.loads b (o + k) (n - k)=some (cs.drop k):=by
    have:=qy hload k (n - k) (by omega)
    rw[List.take_of_length_le (by simp; omega)] at this
    exact this
   cases cap with
   | ex c =>
     have hcn:n≤c:=hc
     by_cases hck:c=k
     ·have hkn:k=n:=by omega
      refine⟨.slc b o 0 (.ex 0),by simp only[bB,bnd]; simp[hk,hcn,hck]; omega, ?_,Nat.le_refl _,by simp[aD]⟩
      rw[goal,hkn,Nat.sub_self,List.drop_of_length_le (by omega)]
      refine .slc b o 0 _ _ hb ?_
      have:=qy hload 0 0 (by omega)
      simpa using this
     ·refine⟨.slc b (o + k * 1) (n - k) (.ex (c - k)),by simp only[bB,bnd]; simp[hk,hcn,hck], ?_,by simp only[jO]; omega,by simp[aD]⟩
      rw[goal]
      refine .slc _ _ _ _ _ hb ?_
      show M.loads b (o + k * 1) ((n - k) * 1)=_
      rw[Nat.mul_one,Nat.mul_one]; exact Ba
   | op e =>
     have he:e=1:=hc
     subst he
     by_cases hkn:n≤k
     ·refine⟨.emp b,by simp only[bB,bnd]; simp[hk,hkn], ?_,trivial,by simp[aD]⟩
      rw[goal,show n - k=0 by omega,List.drop_of_length_le (by omega)]
      exact .emp b
     ·refine⟨.slc b (o + k * 1) (n - k) (.op 1),by simp only[bB,bnd]; simp[hk,hkn], ?_,rfl,by simp[aD]⟩
      rw[goal]
      refine .slc _ _ _ _ _ hb ?_
      show M.loads b (o + k * 1) ((n - k) * 1)=_
      rw[Nat.mul_one,Nat.mul_one]; exact Ba
theorem aek {M:RM} {v:AV} {xs:List α} {k:Nat} (hE:E.size=1) (h:Sl E M v xs) (hc:jO v) (hk:k≤xs.length) :
  ∃ v',bB 1 v none (some (N .i64 (k:Int))) none=some v'∧Sl E M v' (xs.take k):=by
 generalize hcs:E.row xs=cs at *
 have h' : aM M 1 v cs xs.length:=by rw[← hcs,← hE]; exact h
 have hl:cs.length=xs.length:=by rw[← hcs,Enc.fo,hE,Nat.mul_one]
 have hd:E.row (xs.take k)=cs.take k:=by rw[← hcs,← E.vI,hE,Nat.mul_one]
 have goal:∀ v',Sl E M v' (xs.take k)↔aM M 1 v' (cs.take k) k:=fun v'=>by simp only[Sl]; rw[hd,List.length_take,hE,Nat.min_eq_left hk]
 generalize hn:xs.length=n at *
 cases h' with
 | nil =>
   have:k=0:=by omega
   subst this
   exact⟨dV,by simp[bB,bnd],(goal _).2 (by simp; exact .nil)⟩
 | emp b =>
   have:k=0:=by omega
   subst this
   exact⟨.emp b,by simp[bB,bnd],(goal _).2 (by simp; exact .emp b)⟩
 | slc b o n cap cs hb hload =>
   rw[Nat.mul_one] at hload
   have Ba:M.loads b o k=some (cs.take k):=by
    have:=qy hload 0 k (by omega)
    simpa using this
   cases cap with
   | ex c =>
     have hcn:n≤c:=hc
     by_cases hc0:c=0
     ·have hk0:k=0:=by omega
      subst hk0
      refine⟨.slc b o 0 (.ex 0),by simp only[bB,bnd]; simp[hc0], ?_⟩
      rw[goal]
      refine .slc b o 0 _ _ hb ?_
      simpa using Ba
     ·refine⟨.slc b o k (.ex c),by simp only[bB,bnd]; simp[hc0]; omega, ?_⟩
      rw[goal]
      refine .slc _ _ _ _ _ hb ?_
      rw[Nat.mul_one]; exact Ba
   | op e =>
     have he:e=1:=hc
     subst he
     by_cases hn0:n=0
     ·have hk0:k=0:=by omega
      subst hk0
      refine⟨.emp b,by simp only[bB,bnd]; simp[hn0], ?_⟩
      rw[goal]; simp; exact .emp b
     ·refine⟨.slc b o k (.op 1),by simp only[bB,bnd]; simp[hk,hn0], ?_⟩
      rw[goal]
      refine .slc _ _ _ _ _ hb ?_
      rw[Nat.mul_one]; exact Ba
end
def Aj:Nat→Nat→List UInt8→Option (Nat × Nat)
 | _,_,[]=>none
 | i,v,x :: xs =>
   if x.toNat ≥ 128 then Aj (i + 1) ((v ||| (x.toNat % 128 * 2 ^ (7 * i) % 2 ^ 64)) % 2 ^ 64) xs
   else if x.toNat=0∧i > 0∨i=9∧x.toNat > 1 then none else some ((v ||| (x.toNat % 128 * 2 ^ (7 * i) % 2 ^ 64)) % 2 ^ 64,i + 1)
def Ki (bs:List UInt8) : Option (Nat × Nat):=Aj 0 0 (bs.take 10)
theorem aaU:∀ (bs:List UInt8) (i v:Nat) {w n:Nat},Aj i v bs=some (w,n)→w<2 ^ 64∧i<n∧n≤i + bs.length
 | [],_,_,_,_,h=>by simp[Aj] at h
 | x :: xs,i,v,w,n,h=>by
   rw[Aj] at h
   split at h
   ·have:=aaU xs _ _ h
    simp only[List.length_cons]; omega
   ·split at h
    ·cases h
    ·simp only[Option.some.injEq,Prod.mk.injEq] at h
     obtain⟨rfl,rfl⟩:=h
     refine⟨Nat.mod_lt _ (by decide),by omega,by simp⟩
theorem LJ {bs:List UInt8} {w n:Nat} (h:Ki bs=some (w,n)) : w<2 ^ 64∧0<n∧n≤bs.length∧n≤10:=by
 have:=aaU _ _ _ h
 rw[List.length_take] at this
 omega
structure uT (T:Nat) (S:Nat→Prop) (M:RM) (r:Nat) (bs:List UInt8) (f:Bool) : Prop where
 lt:r<M.next
 row:∃ v,M.heap r=some (.row [v,Bo f] false T 0)∧Sl BY M v bs∧jO v∧∀ d∈aD v,S d
 nb:¬ S r
theorem uT.keep {T:Nat} {S:Nat→Prop} {M M' : RM} {r:Nat} {bs:List UInt8} {f:Bool} {ks:List Nat} (h:uT T S M r bs f) (hk:ag ks M M') (hr:r ∉ ks) (hs:∀ d∈ks,¬ S d) : uT T S M' r bs f:=by
 obtain⟨v,h1,h2,h3,h4⟩:=h.row
 exact⟨Nat.lt_of_lt_of_le h.lt hk.next,⟨v,hk.aN h1 h.lt hr,aM.keep h2 hk (fun d hd hm=>hs d hm (h4 d hd)),h3,h4⟩,h.nb⟩
def adP (bs:List UInt8) : List AV:=match Ki bs with
 | some (v,n)=>[N .u64 (v:Int),N .i64 (n:Int),Bo true]
 | none=>[N .u64 0,N .i64 0,Bo false]
def aca (T:Nat) (c:au) : Prop:=∀ {M:RM} {r:Nat} {S:Nat→Prop} {bs:List UInt8} {f:Bool} {Q:ak},uT T S M r bs f→Q (.tup (adP bs)) M→c [.ptr r 0] M Q
theorem aoZ (x:UInt8) : N .u8 (JU .u8 (x.toNat:Int) 127)=N .u8 ((x.toNat % 128:Nat) : Int):=by
 rw[show(127:Int)=((127:Nat) : Int) from rfl,Na rfl]
 have:x.toNat &&& 127=x.toNat % 128:=Nat.and_two_pow_sub_one_eq_mod x.toNat 7
 rw[this]
 simp only[vz]
 congr 2
 have:=akw x
 omega
theorem aly (a b:Nat) : (if ((b:Nat) : Int)<(a:Int) then(b:Int) else(a:Int))=((min a b:Nat) : Int):=by
 split <;> omega
theorem afY {T:Nat} : aca T fun args M Q=>∃ a0,args=[a0]∧xR a0 M Q:=by
 intro M r S bs f Q h hQ
 refine⟨_,rfl, ?_⟩
 obtain⟨v,hr,hs,hc,hS⟩:=h.row
 unfold xR
 rw[vD,aG,aS,aj hr rfl,aG,aS,aj hr rfl,aM.len hs,YX,if_neg (by decide),show(10:Int)=((10:Nat) : Int) from rfl,aly]
 obtain⟨c,e1,e2⟩:=aek (k:=min bs.length 10) rfl hs hc (Nat.min_le_left _ _)
 rw[e1,cB,aM.len e2]
 have hlen:(bs.take (min bs.length 10)).length=min bs.length 10:=by rw[List.length_take]; omega
 have htk:bs.take (min bs.length 10)=bs.take 10:=by
  rcases Nat.le_total bs.length 10 with hh | hh
  ·rw[Nat.min_eq_left hh,List.take_length,List.take_of_length_le hh]
  ·rw[Nat.min_eq_right hh]
 rw[htk] at e2 hlen ⊢
 have hll:(bs.take 10).length≤10:=by omega
 unfold adP Ki at hQ
 generalize bs.take 10=ls at *
 refine aK (fun m ys M3=>∃ (i u:Nat),m=ls.length - i∧ys=[N .u64 (u:Int),N .i64 (i:Int)]∧i≤ls.length∧M3=M∧Aj 0 0 ls=Aj i u (ls.drop i)) _
  ⟨0,0,rfl,rfl,Nat.zero_le _,rfl,rfl⟩ ?_
 rintro next m ys M3 hnext ⟨i,u,rfl,rfl,hi,rfl,hset⟩
 dsimp only[aa]
 rw[bN]
 refine aH (fun hlt=>?_) (fun hge=>?_)
 ·have hlt:i<ls.length:=by simpa using hlt
  obtain⟨b1,o1,_,_,hidx,hcell⟩:=Sl.uB (E:=BY) e2 (i:Int) hlt
  rw[List.drop_eq_getElem_cons hlt,Aj] at hset
  rw[hidx,fH]
  refine⟨_,hcell _ rfl, ?_⟩
  generalize hx:ls[i]=x at *
  have hx256:=akw x
  rw[Gx,aoZ,gz,wrap_u64,Nat.mod_eq_of_lt (by omega:x.toNat % 128<18446744073709551616),yP,show(7:Int) * (i:Int)=((7 * i:Nat) : Int) by omega,bE (by omega) (by omega),Bj]
  refine⟨by omega, ?_⟩
  rw[OO rfl _ _ (by show 7 * i≤64; omega),alW,abf rfl,jA]
  simp only[vz]
  generalize hw:(u ||| (x.toNat % 128 * 2 ^ (7 * i) % 2 ^ 64)) % 2 ^ 64=w at *
  refine aH (fun hbig=>?_) (fun hsm=>?_)
  ·have hbig:x.toNat ≥ 128:=by
    have:(x.toNat:Int) ≥ 128:=of_decide_eq_true hbig
    omega
   rw[if_pos hbig] at hset
   rw[bG,dK (by omega)]
   exact hnext _ _ _ (by omega) ⟨i + 1,w,rfl,rfl,by omega,rfl,hset⟩
  ·have hsm:¬ x.toNat ≥ 128:=by
    have:¬ (x.toNat:Int) ≥ 128:=of_decide_eq_false hsm
    omega
   rw[if_neg hsm] at hset
   have bad:(x.toNat=0∧i > 0∨i=9∧x.toNat > 1)→Q (.tup [N .u64 0,N .i64 0,Bo false]) M3:=fun h=>by
    rw[if_pos h] at hset
    rw[hset] at hQ
    exact hQ
   have okk:¬ (x.toNat=0∧i > 0∨i=9∧x.toNat > 1)→Q (.tup [N .u64 (w:Int),N .i64 ((i + 1:Nat) : Int),Bo true]) M3:=fun h=>by
    rw[if_neg h] at hset
    rw[hset] at hQ
    exact hQ
   have aoo:¬ (x.toNat=0∧i > 0∨i=9∧x.toNat > 1)→af .add (N .i64 (i:Int)) (N .i64 1) fun t50=>Q (.tup [N .u64 (w:Int),t50,Bo true]) M3:=fun h=>by
    rw[bG,dK (by omega)]
    exact okk h
   rw[bU]
   -- the second half of the question
   have second:¬ (x.toNat=0∧i > 0)→af .eql (N .i64 (i:Int)) (N .i64 9) fun t42 =>
     ah t42 true (fun jG=>jG (N .u8 (x.toNat:Int)) M3) (fun k=>k .undef M3) fun t44 eO =>
     ah t42 true (fun nH=>af .gtr t44 (N .u8 1) fun t45=>nH t45 eO) (fun k=>k .undef eO) fun WQ fP =>
     ah (Bo false) false (fun qR=>aJ t42 WQ (Bo false) fun t46=>qR t46 fP) (fun k=>k .undef fP) fun YL bZ =>
     aJ (Bo false) (Bo true) YL fun t47=>ay t47 (Q (.tup [N .u64 0,N .i64 0,Bo false]) bZ) (af .add (N .i64 (i:Int)) (N .i64 1) fun t50=>Q (.tup [N .u64 (w:Int),t50,Bo true]) bZ):=fun hn=>by
    rw[bU]
    by_cases h9:i=9
    ·rw[show((i:Int) == 9)=true by simp; omega,bK]
     dsimp only
     rw[bK,eF]
     dsimp only
     rw[aT]
     dsimp only
     rw[bO,bz]
     refine aH (fun hg=>bad (.inr ⟨h9, ?_⟩)) (fun hg=>aoo ?_)
     ·have:(x.toNat:Int) > 1:=of_decide_eq_true hg
      omega
     ·have:¬ (x.toNat:Int) > 1:=of_decide_eq_false hg
      rintro(h | h)
      ·exact hn h
      ·omega
    ·rw[show((i:Int) == 9)=false by simp; omega,bM]
     dsimp only
     rw[bM]
     dsimp only
     rw[aT]
     dsimp only
     rw[bz,bz,bI]
     refine aoo ?_
     rintro(h | h)
     ·exact hn h
     ·omega
   by_cases h0:x.toNat=0
   ·rw[show((x.toNat:Int) == 0)=true by simp[h0],bK]
    dsimp only
    rw[bK,eF]
    dsimp only
    rw[bO]
    by_cases hi0:i > 0
    ·rw[show decide ((i:Int) > 0)=true by simpa using hi0,di]
     dsimp only
     rw[di]
     dsimp only
     rw[di]
     dsimp only
     rw[qF]
     dsimp only
     rw[qF]
     dsimp only
     rw[di]
     dsimp only
     rw[bO,dC]
     exact bad (.inl ⟨h0,hi0⟩)
    ·rw[show decide ((i:Int) > 0)=false by simp; omega,aT]
     have:=second (fun h=>hi0 h.2)
     dsimp only
     rw[aT]
     dsimp only at this ⊢
     rw[bU] at this ⊢
     rw[aT]
     dsimp only
     exact this
   ·rw[show((x.toNat:Int) == 0)=false by simp; omega,bM]
    dsimp only
    rw[bM]
    dsimp only
    rw[bz,aT]
    have:=second (fun h=>h0 h.1)
    dsimp only
    rw[aT]
    dsimp only at this ⊢
    rw[bU] at this ⊢
    rw[aT]
    dsimp only
    exact this
 ·have he:i=ls.length:=by simp at hge; omega
  rw[he,List.drop_length,Aj] at hset
  rw[hset] at hQ
  exact hQ
def bC (most:Nat) (bs:List UInt8) (f:Bool) : Nat × List UInt8 × Bool :=
 match Ki bs with
 | none=>(0,bs,true)
 | some (v,n)=>if f || decide (most<v) then(0,bs,true) else(v,bs.drop n,false)
theorem mH {most:Nat} {bs:List UInt8} {f:Bool} : (bC most bs f).1≤most∧(bC most bs f).2.1.length≤bs.length:=by
 unfold bC
 split
 ·simp
 ·split
  ·simp
  ·rename_i h
   simp at h ⊢
   omega
def Zo (T:Nat) (c:au) : Prop:=∀ {M:RM} {r most:Nat} {S:Nat→Prop} {bs:List UInt8} {f:Bool} {Q:ak},uT T S M r bs f→most<4294967296 →
 (∀ M',uT T S M' r (bC most bs f).2.1 (bC most bs f).2.2→ag [r] M M'→M'.next=M.next→Q (N .i64 (((bC most bs f).1:Nat) : Int)) M')→c [.ptr r 0,N .i64 (most:Int)] M Q
def QA (T:Nat) (c:au) : Prop:=∀ {M:RM} {r:Nat} {S:Nat→Prop} {bs:List UInt8} {f:Bool} {Q:ak},uT T S M r bs f →
 (∀ M',uT T S M' r (bC 18446744073709551615 bs f).2.1 (bC 18446744073709551615 bs f).2.2→ag [r] M M'→M'.next=M.next→Q (N .u64 (((bC 18446744073709551615 bs f).1:Nat) : Int)) M')→c [.ptr r 0] M Q
theorem Xv {M:RM} {f ok:Bool} {v most:Nat} {K:ak} (hm:most<4294967296) (hQ:K (Bo (f || (!ok || decide (most<v)))) M) :
  ah (Bo f) false (fun k'=>eG (Bo ok) fun t21=>k' t21 M) (fun k=>k .undef M) fun Rq M_3 =>
  aJ (Bo f) (Bo true) Rq fun t22 =>
  ah t22 false (fun k'=>af .lss (N .i64 (most:Int)) (N .i64 0) fun t25=>k' t25 M_3) (fun k=>k .undef M_3) fun Qt M_8 =>
  aJ t22 (Bo true) Qt fun t26 =>
  ah t26 false (fun k'=>iE .u64 (N .i64 (most:Int)) fun t30=>af .gtr (N .u64 (v:Int)) t30 fun t31=>k' t31 M_8) (fun k=>k .undef M_8) fun Jv bZ =>
  aJ t26 (Bo true) Jv fun t32=>K t32 bZ:=by
 have tail:K (Bo true) M→ah (Bo true) false (fun k'=>af .lss (N .i64 (most:Int)) (N .i64 0) fun t25=>k' t25 M) (fun k=>k .undef M) fun Qt M_8 =>
   aJ (Bo true) (Bo true) Qt fun t26 =>
   ah t26 false (fun k'=>iE .u64 (N .i64 (most:Int)) fun t30=>af .gtr (N .u64 (v:Int)) t30 fun t31=>k' t31 M_8) (fun k=>k .undef M_8) fun Jv bZ =>
   aJ t26 (Bo true) Jv fun t32=>K t32 bZ:=fun hK=>by
  rw[di]
  dsimp only
  rw[bO,di]
  dsimp only
  rw[bO]
  exact hK
 cases f with
 | true =>
   rw[di]
   dsimp only
   rw[bO]
   exact tail hQ
 | false =>
   rw[aT]
   dsimp only
   rw[bR]
   cases ok with
   | false =>
     rw[bz]
     exact tail hQ
   | true =>
     rw[bz]
     simp only[Bool.not_true]
     rw[aT]
     dsimp only
     rw[bN,show decide ((most:Int)<0)=false by simp]
     rw[bz,aT]
     dsimp only
     rw[gz,dB (by omega) (by omega),eF,bz]
     have:decide ((v:Int) > (most:Int))=decide (most<v):=by simp
     rw[this]
     exact hQ
theorem UZ {M:RM} {f ok:Bool} {K:ak} (hQ:K (Bo (f || !ok)) M) :
  ah (Bo f) false (fun k'=>eG (Bo ok) fun t21=>k' t21 M) (fun k=>k .undef M) fun Rq M_3 =>
  aJ (Bo f) (Bo true) Rq fun t22=>K t22 M_3:=by
 cases f with
 | true =>
   rw[di]
   dsimp only
   rw[bO]
   exact hQ
 | false =>
   rw[aT]
   dsimp only
   rw[bR,bz]
   exact hQ
theorem Ea {T:Nat} {M:RM} {r:Nat} {S:Nat→Prop} {bs:List UInt8} {f g:Bool} {n:Nat} {x:AV} {Z:ak} {K:RM→Prop} (h:uT T S M r bs f) (hn:n≤bs.length)
  (h1:g=true→∀ M',uT T S M' r bs true→ag [r] M M'→M'.next=M.next→Z x M')
  (h2:g=false→∀ M',uT T S M' r (bs.drop n) false→ag [r] M M'→M'.next=M.next→K M') :
  aZ (.ptr r 0) fun t33=>aA t33 1 fun t34=>aL M t34 (Bo g) 1 fun dE=>aZ (.ptr r 0) fun t36=>aA t36 1 fun t37=>ai dE t37 fun t38 =>
   ay t38 (Z x dE) (aZ (.ptr r 0) fun t41=>aA t41 0 fun t42=>ai dE t42 fun t43=>eT (bB 1 t43 (some (N .i64 (n:Int))) none none) fun t45 =>
    aZ (.ptr r 0) fun t46=>aA t46 0 fun t47=>aL dE t47 t45 1 fun j6=>K j6):=by
 obtain⟨v,hr,hs,hc,hS⟩:=h.row
 have hrl:=h.lt
 rw[aG,aS,rJ [v,Bo g] hr (by simp) rfl rfl rfl,aG,aS,aj (aR _) rfl]
 have kk:ag [r] M (M.put r (.row [v,Bo g] false T 0)):=(ag.refl _ _).put _ (.inr (by simp))
 have hh:(M.put r (.row [v,Bo g] false T 0)).heap r=some (.row [v,Bo g] false T 0):=aR _
 have nn:(M.put r (.row [v,Bo g] false T 0)).next=M.next:=rfl
 generalize M.put r (.row [v,Bo g] false T 0)=M1 at *
 have s1:Sl BY M1 v bs:=aM.keep hs kk (fun d hd hm=>by simp at hm; subst hm; exact h.nb (hS d hd))
 refine aH (fun hg=>?_) (fun hg=>?_)
 ·subst hg
  exact h1 rfl M1 ⟨by omega,⟨v,hh,s1,hc,hS⟩,h.nb⟩ kk nn
 ·subst hg
  rw[aG,aS,aj hh rfl]
  obtain⟨v',e1,e2,e3,e4⟩:=YF rfl s1 hc hn
  rw[e1,cB,aG,aS,rJ [v',Bo false] hh (by simp) (aM.cells e2) (aM.one e2) rfl]
  have k2:ag [r] M1 (M1.put r (.row [v',Bo false] false T 0)):=(ag.refl _ _).put _ (.inr (by simp))
  exact h2 rfl _ ⟨by rw[ny]; omega,⟨v',aR _,aM.keep e2 k2 (fun d hd hm=>by simp at hm; subst hm; exact h.nb (hS d (e4 d hd))),e3,fun d hd=>hS d (e4 d hd)⟩,h.nb⟩ (kk.trans k2) (by rw[ny]; exact nn)
theorem ag1 {T:Nat} {cn:au} (hn:aca T cn) : Zo T fun args M Q=>∃ a0 a1,args=[a0,a1]∧CL cn a0 a1 M Q:=by
 intro M r most S bs f Q h hm hQ
 refine⟨_,_,rfl, ?_⟩
 unfold CL
 simp only[gT]
 refine hn h ?_
 obtain⟨v,hr,hs,hc,hS⟩:=h.row
 unfold bC at hQ
 unfold adP
 cases hnb:Ki bs with
 | none =>
   simp only[hnb] at hQ
   dsimp only
   rw[kN,kP,VV,aG,aS,aj hr rfl]
   refine Xv (v:=0) (ok:=false) hm ?_
   refine Ea (n:=0) (Z:=Q) h (Nat.zero_le _) (fun _ M' q1 q2 q3=>hQ M' q1 q2 q3) (fun hg=>by simp at hg)
 | some p =>
   obtain⟨w,n⟩:=p
   simp only[hnb] at hQ
   dsimp only
   rw[kN,kP,VV,aG,aS,aj hr rfl]
   refine Xv (v:=w) (ok:=true) hm ?_
   refine Ea (n:=n) (Z:=Q) h (LJ hnb).2.2.1 (fun hg M' q1 q2 q3=>?_) (fun hg M' q1 q2 q3=>?_)
   ·have hg:(f || decide (most<w))=true:=by simpa using hg
    rw[if_pos hg] at hQ
    exact hQ M' q1 q2 q3
   ·have hg:(f || decide (most<w))=false:=by simpa using hg
    rw[if_neg (by simp[hg])] at hQ
    have hw:w≤most:=by simp at hg; omega
    rw[gz,bE (by omega) (by omega)]
    exact hQ M' q1 q2 q3
theorem acv {T:Nat} {cn:au} (hn:aca T cn) : QA T fun args M Q=>∃ a0,args=[a0]∧Ai cn a0 M Q:=by
 intro M r S bs f Q h hQ
 refine⟨_,rfl, ?_⟩
 unfold Ai
 simp only[gT]
 refine hn h ?_
 obtain⟨v,hr,hs,hc,hS⟩:=h.row
 unfold bC at hQ
 unfold adP
 cases hnb:Ki bs with
 | none =>
   simp only[hnb] at hQ
   dsimp only
   rw[kN,kP,VV,aG,aS,aj hr rfl]
   refine UZ (ok:=false) ?_
   refine Ea (n:=0) (Z:=Q) h (Nat.zero_le _) (fun _ M' q1 q2 q3=>hQ M' q1 q2 q3) (fun hg=>by simp at hg)
 | some p =>
   obtain⟨w,n⟩:=p
   simp only[hnb] at hQ
   dsimp only
   rw[kN,kP,VV,aG,aS,aj hr rfl]
   refine UZ (ok:=true) ?_
   have hw:decide (18446744073709551615<w)=false:=by
    have:=(LJ hnb).1
    simp; omega
   rw[hw,Bool.or_false] at hQ
   refine Ea (n:=n) (Z:=Q) h (LJ hnb).2.2.1 (fun hg M' q1 q2 q3=>?_) (fun hg M' q1 q2 q3=>?_)
   ·have hg:f=true:=by simpa using hg
    rw[if_pos hg] at hQ
    exact hQ M' q1 q2 q3
   ·have hg:f=false:=by simpa using hg
    rw[if_neg (by simp[hg])] at hQ
    exact hQ M' q1 q2 q3
def VO (T:Nat) (c:au) : Prop:=∀ {M:RM} {v:AV} {bs:List UInt8} {Q:ak},Sl BY M v bs→bs.length≤140737488355328 →
 (∀ r M',uT T (fun d=>M.next≤d∧d<r) M' r bs false→M.next≤r→ag [] M M'→Q (.ptr r 0) M')→c [v] M Q
theorem afp {T TB:Nat} {cc:au} (hcl:FP TB 1 1 cc) : VO T fun args M Q=>∃ a0,args=[a0]∧Xz cc T a0 M Q:=by
 intro M v bs Q h hl hQ
 refine⟨_,rfl, ?_⟩
 unfold Xz
 refine hcl h (Enc.qX _ _) (by omega) (by omega) fun b0 M1 ho hk=>?_
 rw[jI]
 refine⟨[b0,Bo false], ?_, ?_⟩
 ·have:=ho.cells
  have hkn:=ho.fu.known
  simp[sZ,hkn,this]
 rw[dL (by simp[ho.one]; rfl) (by simp),bn]
 have k2:ag [] M1 (M1.push (.row [b0,Bo false] false T 0)):=(ag.refl _ _).push _
 refine hQ M1.next _ ⟨by rw[DF]; omega,⟨b0,RM.aQ _,aM.keep ho.fu k2 (by simp),Own.jO ho,fun d hd=>ho.blk d hd⟩,fun h=>by omega⟩ hk.next (hk.trans k2)
def adE (T:Nat) (c:au) : Prop:=∀ {M:RM} {r:Nat} {S:Nat→Prop} {bs:List UInt8} {f:Bool} {Q:ak},uT T S M r bs f→Q (N .i64 (if f then 14 else 0)) M→c [.ptr r 0] M Q
theorem aip {T:Nat} : adE T fun args M Q=>∃ a0,args=[a0]∧BS a0 M Q:=by
 intro M r S bs f Q h hQ
 refine⟨_,rfl, ?_⟩
 unfold BS
 obtain⟨v,hr,hs,hc,hS⟩:=h.row
 rw[aG,aS,aj hr rfl]
 cases f with
 | true=>rw[dC]; exact hQ
 | false=>rw[bI]; exact hQ
def abD (T:Nat) (c:au) : Prop:=∀ {M:RM} {r:Nat} {S:Nat→Prop} {bs:List UInt8} {f:Bool} {Q:ak},uT T S M r bs f→Q (N .i64 (if f || !bs.isEmpty then 14 else 0)) M→c [.ptr r 0] M Q
theorem ajf {T:Nat} : abD T fun args M Q=>∃ a0,args=[a0]∧Cs a0 M Q:=by
 intro M r S bs f Q h hQ
 refine⟨_,rfl, ?_⟩
 unfold Cs
 simp only[gT]
 obtain⟨v,hr,hs,hc,hS⟩:=h.row
 rw[aG,aS,aj hr rfl]
 cases f with
 | true =>
   rw[di]
   dsimp only
   rw[bO,dC]; exact hQ
 | false =>
   rw[aT]
   dsimp only
   rw[aG,aS,aj hr rfl,aM.len hs,eF,bz]
   cases bs with
   | nil =>
     rw[show decide (((([] : List UInt8).length:Nat) : Int) > 0)=false by simp,bI]; exact hQ
   | cons b bs =>
     rw[show decide ((((b :: bs).length:Nat) : Int) > 0)=true by simp,dC]; exact hQ
def akD (f:(List AV→RM→Prop)→Prop) (g:List AV→RM→Prop) : Prop:=f g
theorem dG (f:(List AV→RM→Prop)→Prop) (g:List AV→RM→Prop) : ed f g=akD f g:=rfl
theorem bT {H:(List AV→RM→Prop)→Prop} {G:List AV→RM→Prop} (P:List AV→RM→Prop) (hT:∀ xs M,P xs M→G xs M)
  (hH:∀ J:List AV→RM→Prop,(∀ xs M,P xs M→J xs M)→H J) : akD H G:=hH G hT
def PRE:Enc (Nat × Nat):=⟨2,fun p=>[N .i64 (p.1:Int),N .u64 (p.2:Int)],fun _=>rfl,fun _=>rfl⟩
abbrev eQ:=(Nat × Nat) × List Nat
def Im:sJ eQ:=sJ.pre PRE (aU.Cf.slice)
theorem aeG {M:RM} {i u:Nat} {v:AV} {xs:List Nat} {S:Nat→Prop} (h:gD aU.Cf M v xs S) : Im.rel M [N .i64 (i:Int),N .u64 (u:Int),v] ((i,u),xs) S:=⟨[v],rfl,⟨v,rfl,h⟩⟩
theorem aqU {x y z a b c:AV} (h1:known x=true) (h2:x.cells=[x]) (h3:known y=true) (h4:y.cells=[y]) (h5:known z=true) (h6:z.cells=[z]) : sZ [a,b,c] [(0,1,x),(1,1,y),(2,1,z)]=some [x,y,z]:=by
 simp[sZ,h1,h2,h3,h4,h5,h6]
def jd (ps:List Pt) : Nat→List eQ
 | 0=>[]
 | i + 1=>jd ps i++(if 0<(ps.getD i (0,[])).1∨0<(ps.getD i (0,[])).2.length then[((i,(ps.getD i (0,[])).1),(ps.getD i (0,[])).2)] else[])
def parts (ps:List Pt) : List eQ:=jd ps 16
theorem uh (ps:List Pt) : ∀ i,(jd ps i).length≤i
 | 0=>Nat.le_refl _
 | i + 1=>by
   have:=uh ps i
   rw[jd,List.length_append]
   split <;> simp <;> omega
def XA (T TP:Nat) (c:au) : Prop:=∀ {M:RM} {b:Nat} {ps:List Pt} {S:Nat→Prop} {Q:ak},iA T S M b ps→(∀ p∈ps,p.2.length≤1000000) →
 (∀ v M',mE Im M' M.next TP v (parts ps) (fun d=>M.next≤d∧d<M'.next∧d ∉ aD v)→ag [] M M'→Q v M')→c [.ptr b 0] M Q
theorem adL {TS T TP TU:Nat} {cc:au} (hcl:FP TU 1 8 cc) : XA TS TP fun args M Q=>∃ a0,args=[a0]∧Fe T cc TP a0 M Q:=by
 intro M b ps S Q h hlen hQ
 refine⟨_,rfl, ?_⟩
 unfold Fe
 simp only[gT,dG]
 obtain⟨l,hb,JY,hrow⟩:=h.row
 rw[aG,aS,dF (n:=32) hb JY]
 refine aK (fun m ys M3=>∃ (i:Nat) (v:AV),m=16 - i∧ys=[v,N .i64 (i:Int)]∧i≤16∧ag [] M M3∧mE Im M3 M.next TP v (jd ps i) (fun d=>M.next≤d∧d<M3.next∧d ∉ aD v)) _
  ⟨0,dV,rfl,rfl,Nat.zero_le _,ag.refl _ _,.nil⟩ ?_
 rintro next m ys M3 hnext ⟨i,v,rfl,rfl,hi,hK,ho⟩
 dsimp only[aa]
 rw[bN]
 refine aH (fun hlt=>?_) (fun hge=>?_)
 ·have hlt:i<16:=by
   have:(i:Int)<16:=of_decide_eq_true hlt
   omega
  refine bT (fun zs M'=>∃ w,zs=[w]∧ag [] M M'∧mE Im M' M.next TP w (jd ps (i + 1)) (fun d=>M.next≤d∧d<M'.next∧d ∉ aD w)) ?_ ?_
  ·rintro zs M' ⟨w,rfl,hk',ho'⟩
   dsimp only[aa]
   rw[bG,dK (by omega)]
   exact hnext _ _ _ (by omega) ⟨i + 1,w,rfl,rfl,by omega,hk',ho'⟩
  intro J hJ
  have hil:i<ps.length:=by rw[h.len]; exact hlt
  obtain⟨w,a1,a2,a3,a4,a5⟩:=hrow i hil
  have hpD:ps.getD i (0,[])=ps[i]:=by rw[List.getD_eq_getElem?_getD,List.getElem?_eq_getElem hil]; rfl
  have hcut:(l.drop (2 * i)).take 2=[N .u64 (ps[i].1:Int),w]:=by
   have h1:=(List.getElem?_eq_some_iff.1 a1)
   have h2:=(List.getElem?_eq_some_iff.1 a2)
   obtain⟨q1,q2⟩:=h1
   obtain⟨r1,r2⟩:=h2
   rw[List.drop_eq_getElem_cons q1,List.drop_eq_getElem_cons r1,q2,r2]; rfl
  rw[Ke]
  refine⟨by omega,by omega,by simp only[Int.toNat_natCast]; omega, ?_⟩
  rw[Int.toNat_natCast,Nat.mul_comm i 2,hcut,bn]
  have hw1:=aM.one a3
  have hwc:=aM.cells a3
  rw[iK (n:=2) (x:=.agg [N .u64 (ps[i].1:Int),w]) (l:=[N .u64 0,.sc (.slice none 0 0)]) (RM.aQ _) rfl rfl (by simp[AV.cells,hw1]; rfl)]
  have kk:ag [] M3 ((M3.push (.row [N .u64 0,.sc (.slice none 0 0)] false T 0)).put M3.next (.row (AV.agg [N .u64 (ps[i].1:Int),w]).cells false T 0)):=((ag.refl _ _).push _).new _ (Nat.le_refl _)
  have hh:((M3.push (.row [N .u64 0,.sc (.slice none 0 0)] false T 0)).put M3.next (.row (AV.agg [N .u64 (ps[i].1:Int),w]).cells false T 0)).heap M3.next=some (.row [N .u64 (ps[i].1:Int),w] false T 0):=aR _
  have hnx:((M3.push (.row [N .u64 0,.sc (.slice none 0 0)] false T 0)).put M3.next (.row (AV.agg [N .u64 (ps[i].1:Int),w]).cells false T 0)).next=M3.next + 1:=rfl
  generalize (M3.push (.row [N .u64 0,.sc (.slice none 0 0)] false T 0)).put M3.next (.row (AV.agg [N .u64 (ps[i].1:Int),w]).cells false T 0)=M4 at *
  have hvl:=ho.blk
  have n3:=hK.next
  have ho4:=(ho.keep kk (by simp) (by simp)).mono (S':=fun d=>M.next≤d∧d<M4.next∧d ∉ aD v) fun d hd=>⟨hd.1,by omega,hd.2.2⟩
  have s4:Sl aU M4 w ps[i].2:=aM.keep (aM.keep a3 hK (by simp)) kk (by simp)
  rw[aS,aj hh rfl,eF]
  have skip:¬ (0<ps[i].1∨0<ps[i].2.length)→J [v] M4:=fun hn=>hJ _ _ ⟨v,rfl,hK.trans kk,by
   rw[jd,hpD,if_neg hn,List.append_nil]; exact ho4⟩
  have take:(0<ps[i].1∨0<ps[i].2.length)→aA (.ptr M3.next 0) 0 fun t25=>ai M4 t25 fun t26=>aA (.ptr M3.next 0) 1 fun t27=>ai M4 t27 fun t28=>cc [t28] M4 fun t29 eu=>ai eu t25 fun YW =>
    (YW=t26∧lX [(N .i64 0),(N .u64 0),(.sc (.slice none 0 0))] [(0,1,N .i64 (i:Int)),(1,1,t26),(2,1,t29)] fun t30 =>
    dH TP 1 [(N .i64 0),(N .u64 0),(.sc (.slice none 0 0))] [(0,3,t30)] fun r f=>mI r f eu fun t31 eP b=>appW TP 3 40 [(N .i64 0),(N .u64 0),(.sc (.slice none 0 0))] false v t31 eP fun t32 fP=>J [t32] fP):=fun hy=>by
   rw[aS,aj hh rfl,aS,aj hh rfl]
   have hm:=hlen _ (List.getElem_mem hil)
   refine hcl s4 (Enc.qX _ _) (by omega) (by omega) fun y M5 hy5 k5=>?_
   have n5:=k5.next
   rw[aj (k5.aN hh (by omega) (by simp)) rfl]
   refine⟨rfl, ?_⟩
   rw[jI]
   refine⟨_,aqU rfl rfl rfl rfl hy5.fu.known hy5.cells, ?_⟩
   have hall:([N .i64 (i:Int),N .u64 (ps[i].1:Int),y] : List AV).all oneCell=true:=by simp[hy5.one]; exact⟨rfl,rfl⟩
   rw[lv (x:=.agg [N .i64 (i:Int),N .u64 (ps[i].1:Int),y]) (size:=3) rfl hall rfl,ku]
   have ayT:=ho4.blk
   let S' : Nat→Prop:=fun d=>M.next≤d∧d<M5.next∧d ∉ aD v
   have ho5:=(ho4.keep k5 (by simp) (by simp)).mono (S':=S') fun d hd=>⟨hd.1,by omega,hd.2.2⟩
   have hel:Im.rel M5 [N .i64 (i:Int),N .u64 (ps[i].1:Int),y] ((i,ps[i].1),ps[i].2) S' :=
    aeG (gD.ajV hy5.fu fun d hd=>⟨by have:=(hy5.blk d hd).1; omega,(hy5.blk d hd).2,fun hb=>by have:=(ayT d hb).2; have:=(hy5.blk d hd).1; omega⟩)
   refine mE.app (R:=Im) ho5 hel (by omega) (by decide) (fun b hb h=>h.2.2 hb) (fun b h=>h.2.1) (by have:=uh ps i; omega) (by have:=uh ps i; omega) ?_
   intro w' M6 o6 k6 n6 _ hd6
   refine hJ _ _ ⟨w',rfl, ?_, ?_⟩
   ·exact((hK.trans kk).trans k5).aY k6 fun c hc=>.inl (hvl c hc).1
   ·rw[jd,hpD,if_pos hy]
    exact o6.mono fun d hd=>⟨hd.1,by have:=hd.2.1; omega,fun hb=>hd6 d hb hd⟩
  by_cases hu:0<ps[i].1
  ·rw[show decide ((ps[i].1:Int) > 0)=true by simpa using hu,di]
   dsimp only
   rw[bO,dC]
   exact take (.inl hu)
  ·rw[show decide ((ps[i].1:Int) > 0)=false by simp; omega,aT]
   dsimp only
   rw[aS,aj hh rfl,aM.len s4,eF,bz]
   refine aH (fun hg=>take (.inr ?_)) (fun hg=>?_)
   ·have:((ps[i].2.length:Nat) : Int) > 0:=of_decide_eq_true hg
    omega
   ·refine skip ?_
    have:¬ ((ps[i].2.length:Nat) : Int) > 0:=of_decide_eq_false hg
    omega
 ·have he:i=16:=by
   have:¬ (i:Int)<16:=of_decide_eq_false hge
   omega
  subst he
  exact hQ v M3 ho hK
@[irreducible] def Du (x a:Nat) : Nat:=(x + 18446744073709551616 - a) % 18446744073709551616
theorem aaM {x a:Nat} (h:a<18446744073709551616) : IntKind.wrap .u64 ((x:Int) - (a:Int))=((Du x a:Nat) : Int):=by
 simp only[IntKind.wrap,IntKind.bits,IntKind.signed,Du]
 simp
 omega
theorem NI (x a:Nat) : Du x a<2 ^ 64:=by unfold Du; exact Nat.mod_lt _ (by decide)
def kQ:Nat→List Nat→List UInt8
 | _,[]=>[]
 | a,x :: xs=>bi (Du x a)++kQ x xs
def iB (p:eQ) : List UInt8:=bi p.1.1++bi p.1.2++bi p.2.length++kQ p.1.2 p.2
def wQ (l:List eQ) : List UInt8:=bi l.length++l.flatMap iB
def encS (ps:List Pt) : List UInt8:=wQ (parts ps)
theorem dJ {v:Nat} (h:v<2 ^ 64) : (bi v).length≤10:=La 10 v (by omega) (by omega)
theorem zt:∀ (xs:List Nat) (a:Nat),(kQ a xs).length≤10 * xs.length
 | [],_=>Nat.le_refl _
 | x :: xs,a=>by
   rw[kQ,List.length_append,List.length_cons]
   have:=zt xs x
   have:=dJ (NI x a)
   omega
theorem xP {ps:List Pt} : ∀ {i:Nat} {x:eQ},x∈jd ps i→∃ j,j<i∧x=((j,(ps.getD j (0,[])).1),(ps.getD j (0,[])).2)
 | 0,x,h=>by simp[jd] at h
 | i + 1,x,h=>by
   rw[jd,List.mem_append] at h
   rcases h with h | h
   ·obtain⟨j,h1,h2⟩:=xP h
    exact⟨j,by omega,h2⟩
   ·split at h
    ·simp only[List.mem_singleton] at h
     exact⟨i,by omega,h⟩
    ·simp at h
def Bd (p:Pt) : Prop:=p.1<2 ^ 64∧p.2.length≤1000000∧∀ x∈p.2,x<2 ^ 64
theorem ajm {ps:List Pt} (h:∀ p∈ps,Bd p) {x:eQ} (hx:x∈parts ps) : x.1.1<16∧Bd (x.1.2,x.2):=by
 obtain⟨j,h1,rfl⟩:=xP hx
 refine⟨h1, ?_⟩
 rw[List.getD_eq_getElem?_getD]
 by_cases hj:j<ps.length
 ·rw[List.getElem?_eq_getElem hj]
  exact h _ (List.getElem_mem hj)
 ·rw[List.getElem?_eq_none (by omega)]
  exact⟨(by decide:0<2 ^ 64),Nat.zero_le _,fun x hx=>by simp at hx⟩
theorem jP.bd {p:Pt} (h:jP p) : Bd p:=⟨by have:=h.2.2.1; omega,by have:=h.2.2.2.2; omega,fun x hx=>by have:=h.2.2.2.1 x hx; omega⟩
theorem ag6 {p:eQ} (h1:p.1.1<16) (h:Bd (p.1.2,p.2)) : (iB p).length≤10000030:=by
 unfold iB
 simp only[List.length_append]
 have:=dJ (v:=p.1.1) (by omega)
 have:=dJ (v:=p.1.2) h.1
 have h2:p.2.length≤1000000:=h.2.1
 have:=dJ (v:=p.2.length) (by omega)
 have:=zt p.2 p.1.2
 omega
def Bb (TS T:Nat) (c:au) : Prop:=∀ {M:RM} {b:Nat} {ps:List Pt} {S:Nat→Prop} {Q:ak},iA TS S M b ps→(∀ p∈ps,Bd p) →
 (∀ v M',Own M' M.next T 1 v (ek (encS ps)) (encS ps).length→(encS ps).length≤200000000→ag [] M M'→Q v M')→c [.ptr b 0] M Q
theorem mD (a b:List UInt8) : ek (a++b)=ek a++ek b:=List.map_append
theorem JA:∀ {xs:List Nat} {i a q:Nat} (hi:i<xs.length) (hq:(a :: xs)[i]?=some q),kQ a (xs.take (i + 1))=kQ a (xs.take i)++bi (Du xs[i] q)
 | x :: xs,0,a,q,hi,hq=>by
   simp only[List.getElem?_cons_zero,Option.some.injEq] at hq
   subst hq
   rw[List.take_succ_cons,List.take_zero,List.take_zero,kQ,kQ,kQ,List.append_nil,List.nil_append]
   rfl
 | x :: xs,i + 1,a,q,hi,hq=>by
   rw[List.getElem?_cons_succ] at hq
   have:=JA (a:=x) (xs:=xs) (i:=i) (by simpa using hi) hq
   rw[List.take_succ_cons,List.take_succ_cons,kQ,kQ,this,List.append_assoc]
   rfl
theorem Gi.app {T:Nat} {c:au} (hc:Gi T c) {M:RM} {base v:Nat} {b:AV} {L:List UInt8} {Q:ak} (ho:Own M base T 1 b (ek L) L.length) (hb:base≤M.next) (hL:L.length + 10≤140737488355328) (hv:v<2 ^ 64)
  (hQ:∀ r M',Own M' base T 1 r (ek (L++bi v)) (L++bi v).length→ag [] M M'→Q r M') : c [b,N .u64 (v:Int)] M Q:=by
 refine hc ho.fu (mM _) hL hv fun r M' h1 h2=>hQ r M' ?_ h2
 rw[mD,List.length_append]
 exact h1.mono hb
theorem aan {TS TP T:Nat} {cp cu:au} (hp:XA TS TP cp) (hu:Gi T cu) : Bb TS T fun args M Q=>∃ a0,args=[a0]∧BK cp cu TP a0 M Q:=by
 intro M b ps S Q h hbd hQ
 refine⟨_,rfl, ?_⟩
 unfold BK
 refine hp h (fun p hp=>(hbd p hp).2.1) fun v M1 ho k1=>?_
 have hls:gD Im M1 v (parts ps) (fun d=>M.next≤d):=(ho.mono (fun d h=>h.1)).slD fun d h1 h2=>h1
 have hpl:(parts ps).length≤16:=uh ps 16
 have hpb:∀ x∈parts ps,x.1.1<16∧Bd (x.1.2,x.2):=fun x hx=>ajm hbd hx
 unfold encS wQ at hQ
 generalize parts ps=ls at *
 have u10:=dJ (v:=ls.length) (by omega)
 have n1:=k1.next
 rw[hls.len,gz,wrap_u64,Nat.mod_eq_of_lt (by omega)]
 refine hu.app (L:=[]) .nil n1 (by simp) (by omega) fun r0 M2 ho2 k2=>?_
 rw[List.nil_append] at ho2
 rw[hls.len]
 refine aK (fun m ys M3=>∃ (i:Nat) (v:AV),m=ls.length - i∧ys=[v,N .i64 (i:Int)]∧i≤ls.length∧ag [] M1 M3∧Own M3 M.next T 1 v (ek (bi ls.length++(ls.take i).flatMap iB)) (bi ls.length++(ls.take i).flatMap iB).length∧(bi ls.length++(ls.take i).flatMap iB).length≤10 + 10000030 * i) _
  ⟨0,r0,rfl,rfl,Nat.zero_le _,k2,by simpa using ho2,by simpa using u10⟩ ?_
 rintro next m ys M3 hnext ⟨i,w,rfl,rfl,hi,hK,ho3,hle3⟩
 dsimp only[aa]
 rw[bN]
 refine aH (fun hlt=>?_) (fun hge=>?_)
 ·have hlt:i<ls.length:=by simpa using hlt
  have hpb:=hpb _ (List.getElem_mem hlt)
  have hL:(bi ls.length++(ls.take (i + 1)).flatMap iB)=(bi ls.length++(ls.take i).flatMap iB)++iB ls[i]:=by
   rw[List.take_succ_eq_append_getElem hlt,List.flatMap_append,List.append_assoc]; simp
  have hLl:(bi ls.length++(ls.take (i + 1)).flatMap iB).length≤10 + 10000030 * (i + 1):=by
   rw[hL,List.length_append]
   have:=ag6 hpb.1 hpb.2
   omega
  rw[hL] at hLl
  have aAB:=hls.keep hK (by simp)
  obtain⟨b1,o1,cs,_,_,hidx,hld,hrel⟩:=aAB.at (i:=i) 3 (i:Int) hlt rfl rfl
  have hstep:∀ w M',ag [] M1 M'→Own M' M.next T 1 w (ek ((bi ls.length++(ls.take i).flatMap iB)++iB ls[i])) ((bi ls.length++(ls.take i).flatMap iB)++iB ls[i]).length→next [w,N .i64 ((i + 1:Nat) : Int)] M':=fun w M' k o=>by
   refine hnext _ _ _ (by omega) ⟨i + 1,w,rfl,rfl,by omega,k, ?_, ?_⟩
   ·rw[hL]; exact o
   ·rw[hL]; exact hLl
  generalize bi ls.length++(ls.take i).flatMap iB=L at *
  have hLb:L.length≤10 + 10000030 * 16:=by omega
  generalize ls[i]=pt at *
  obtain⟨⟨dv,u⟩,xs⟩:=pt
  obtain⟨ds,rfl,w',rfl,hxs⟩:=hrel
  simp only[PRE] at *
  have hxl:xs.length≤1000000:=hpb.2.2.1
  have hub:u<2 ^ 64:=hpb.2.1
  have hxb:∀ x∈xs,x<2 ^ 64:=hpb.2.2.2
  have hdv:dv<16:=hpb.1
  have n3:=hK.next
  rw[hidx,fZ]
  refine⟨_,hld, ?_⟩
  have hw1:=hxs.one
  rw[bn,iK (n:=3) (x:=.agg ([N .i64 (dv:Int),N .u64 (u:Int)]++[w'])) (l:=[(N .i64 0),(N .u64 0),(.sc (.slice none 0 0))]) (RM.aQ _) rfl rfl (by simp[AV.cells,hw1]; exact⟨rfl,rfl⟩)]
  have kk:ag [] M3 ((M3.push (.row [(N .i64 0),(N .u64 0),(.sc (.slice none 0 0))] false TP 0)).put M3.next (.row (AV.agg ([N .i64 (dv:Int),N .u64 (u:Int)]++[w'])).cells false TP 0)):=((ag.refl _ _).push _).new _ (Nat.le_refl _)
  have hh:((M3.push (.row [(N .i64 0),(N .u64 0),(.sc (.slice none 0 0))] false TP 0)).put M3.next (.row (AV.agg ([N .i64 (dv:Int),N .u64 (u:Int)]++[w'])).cells false TP 0)).heap M3.next=some (.row [N .i64 (dv:Int),N .u64 (u:Int),w'] false TP 0):=aR _
  have hnx:((M3.push (.row [(N .i64 0),(N .u64 0),(.sc (.slice none 0 0))] false TP 0)).put M3.next (.row (AV.agg ([N .i64 (dv:Int),N .u64 (u:Int)]++[w'])).cells false TP 0)).next=M3.next + 1:=rfl
  generalize (M3.push (.row [(N .i64 0),(N .u64 0),(.sc (.slice none 0 0))] false TP 0)).put M3.next (.row (AV.agg ([N .i64 (dv:Int),N .u64 (u:Int)]++[w'])).cells false TP 0)=M4 at *
  have hx4:=(hxs.keep kk (by simp)).sl
  have ho4:=ho3.keep kk (by simp)
  rw[aS,aj hh rfl,gz,dB (by omega) (by omega),aS,aj hh rfl,aS,aj hh rfl,aM.len hx4,gz,dB (by omega) (by omega)]
  refine hu.app ho4 (by omega) (by omega) (by omega) fun r5 M5 ho5 k5=>?_
  have e5:=dJ (v:=dv) (by omega)
  rw[aj (k5.aN hh (by omega) (by simp)) rfl]
  refine⟨rfl, ?_⟩
  rw[aj (k5.aN hh (by omega) (by simp)) rfl]
  refine⟨rfl, ?_⟩
  have n5:=k5.next
  refine hu.app ho5 (by omega) (by rw[List.length_append]; omega) hub fun r6 M6 ho6 k6=>?_
  have e6:=dJ hub
  have n6:=k6.next
  have k46:=k5.trans k6
  rw[aj (k46.aN hh (by omega) (by simp)) rfl]
  refine⟨rfl, ?_⟩
  refine hu.app ho6 (by omega) (by simp only[List.length_append]; omega) (by omega) fun r7 M7 ho7 k7=>?_
  have e7:=dJ (v:=xs.length) (by omega)
  have n7:=k7.next
  have k47:=k46.trans k7
  have hh7:=k47.aN hh (by omega) (by simp)
  have hx7:Sl aU M7 w' xs:=aM.keep hx4 k47 (by simp)
  rw[aS,aj hh7 rfl,aS,aj hh7 rfl,aM.len hx7]
  have abG:L++iB ((dv,u),xs)=L++bi dv++bi u++bi xs.length++kQ u xs:=by simp only[iB,List.append_assoc]
  rw[abG] at hstep
  have k37:=hK.trans (kk.trans k47)
  have hL7:(L++bi dv++bi u++bi xs.length).length≤L.length + 30:=by simp only[List.length_append]; omega
  generalize L++bi dv++bi u++bi xs.length=L7 at *
  refine aK (fun m ys M8=>∃ (j q:Nat) (w:AV),m=xs.length - j∧ys=[w,N .u64 (q:Int),N .i64 (j:Int)]∧j≤xs.length∧(u :: xs)[j]?=some q∧ag [] M7 M8∧Own M8 M.next T 1 w (ek (L7++kQ u (xs.take j))) (L7++kQ u (xs.take j)).length) _
   ⟨0,u,r7,rfl,rfl,Nat.zero_le _,rfl,ag.refl _ _,by simpa [kQ] using ho7⟩ ?_
  rintro jv m ys M8 dQ ⟨j,q,w8,rfl,rfl,hj,hq,hK8,ho8⟩
  dsimp only[aa]
  rw[bN]
  refine aH (fun hlt=>?_) (fun hge=>?_)
  ·have hlt:j<xs.length:=by simpa using hlt
   obtain⟨b2,o2,_,_,iq,hc2⟩:=Sl.uB (E:=aU) (aM.keep hx7 hK8 (by simp)) (j:Int) hlt
   have hxj:=hxb _ (List.getElem_mem hlt)
   have hqb:q<2 ^ 64:=by
    have:=List.mem_of_getElem? hq
    rcases List.mem_cons.1 this with rfl | h
    ·exact hub
    ·exact hxb _ h
   rw[iq,fH]
   refine⟨_,hc2 _ rfl, ?_⟩
   have n8:=hK8.next
   have hg:=zt (xs.take j) u
   rw[List.length_take] at hg
   rw[iQ,aaM (by omega)]
   refine hu.app ho8 (by omega) (by rw[List.length_append]; omega) (NI _ _) fun r9 M9 ho9 k9=>?_
   rw[bG,dK (by omega)]
   refine dQ _ _ _ (by omega) ⟨j + 1,xs[j],r9,rfl,rfl,by omega,by rw[List.getElem?_cons_succ,List.getElem?_eq_getElem hlt],hK8.trans k9, ?_⟩
   rw[JA hlt hq,← List.append_assoc]
   exact ho9
  ·have he:j=xs.length:=by simp at hge; omega
   subst he
   rw[bG,dK (by omega)]
   refine hstep _ _ (k37.trans hK8) ?_
   rw[List.take_length] at ho8
   exact ho8
 ·have he:i=ls.length:=by simp at hge; omega
  subst he
  rw[List.take_length] at ho3 hle3
  exact hQ w M3 ho3 (by omega) (k1.trans hK)
structure vM (T TU base:Nat) (M:RM) (b:Nat) (ps:List Pt) : Prop where
 lt:b<M.next
 len:ps.length=16
 row:∃ (l:List AV) (vs:Nat→AV),M.heap b=some (.row l false T 0)∧l.length=32∧(∀ (i:Nat) (hi:i<ps.length),l[2 * i]?=some (N .u64 (ps[i].1:Int))∧l[2 * i + 1]?=some (vs i)∧Ow aU M base TU (vs i) ps[i].2) ∧
  ∀ i j,i<16→j<16→i≠j→∀ d∈aD (vs i),d ∉ aD (vs j)
 nb:b<base
theorem vM.setH {T TU base:Nat} {M:RM} {b:Nat} {ps:List Pt} (h:vM T TU base M b ps) : iA T (fun d=>base≤d) M b ps:=by
 obtain⟨l,vs,h1,h2,h3,h4⟩:=h.row
 refine⟨h.lt,h.len,⟨l,h1,h2,fun i hi=>⟨vs i,(h3 i hi).1,(h3 i hi).2.1,(h3 i hi).2.2.fu,Own.jO (h3 i hi).2.2,fun d hd=>((h3 i hi).2.2.blk d hd).1⟩⟩,by have:=h.nb; omega⟩
def ab3 (T TU:Nat) (c:au) : Prop:=∀ {M:RM} {Q:ak},(∀ M',vM T TU (M.next + 1) M' M.next gu→ag [] M M'→M'.next=M.next + 1→Q (.ptr M.next 0) M')→c [] M Q
theorem ae9 {T TU:Nat} : ab3 T TU fun args M Q=>args=[]∧FT T M Q:=by
 intro M Q hQ
 refine⟨rfl, ?_⟩
 unfold FT
 rw[jI]
 refine⟨_,rfl, ?_⟩
 rw[dL rfl (by simp),bn]
 refine hQ _ ⟨by simp[RM.push],rfl,⟨_,fun _=>dV,RM.aQ _,rfl,fun i hi=>?_,fun i j _ _ _ d hd=>by simp[aD] at hd⟩,by omega⟩ ((ag.refl _ _).push _) rfl
 have hi:i<16:=hi
 refine⟨?_, ?_, ?_⟩
 ·obtain rfl | rfl | rfl | rfl | rfl | rfl | rfl | rfl | rfl | rfl | rfl | rfl | rfl | rfl | rfl | rfl:i=0∨i=1∨i=2∨i=3∨i=4∨i=5∨i=6∨i=7∨i=8∨i=9∨i=10∨i=11∨i=12∨i=13∨i=14∨i=15:=by omega
  all_goals rfl
 ·obtain rfl | rfl | rfl | rfl | rfl | rfl | rfl | rfl | rfl | rfl | rfl | rfl | rfl | rfl | rfl | rfl:i=0∨i=1∨i=2∨i=3∨i=4∨i=5∨i=6∨i=7∨i=8∨i=9∨i=10∨i=11∨i=12∨i=13∨i=14∨i=15:=by omega
  all_goals rfl
 ·simp only[gu,List.getElem_replicate]; exact .nil
theorem vM.keep {T TU base:Nat} {M M' : RM} {b:Nat} {ps:List Pt} {bs:List Nat} (h:vM T TU base M b ps) (hk:ag bs M M') (hb:b ∉ bs) (hs:∀ d∈bs,d<base) : vM T TU base M' b ps:=by
 obtain⟨l,vs,h1,h2,h3,h4⟩:=h.row
 refine⟨Nat.lt_of_lt_of_le h.lt hk.next,h.len,⟨l,vs,hk.aN h1 h.lt hb,h2,fun i hi=>⟨(h3 i hi).1,(h3 i hi).2.1,(h3 i hi).2.2.keep hk fun d hd hm=>?_⟩,h4⟩,h.nb⟩
 have:=((h3 i hi).2.2.blk d hd).1
 have:=hs d hm
 omega
theorem vM.upto {T TU base:Nat} {M:RM} {b i u:Nat} {ps:List Pt} (h:vM T TU base M b ps) (hi:i<16) {K:RM→Prop}
  (hK:∀ M',vM T TU base M' b (ps.set i (u,(ps.getD i (0,[])).2))→ag [b] M M'→M'.next=M.next→(M'.heap b).isSome→K M') : aL M (.ptr b (2 * i)) (N .u64 (u:Int)) 1 K:=by
 obtain⟨l,vs,h1,h2,h3,h4⟩:=h.row
 have hnb:=h.nb
 rw[fU h1 (by omega) rfl rfl]
 have kk:ag [b] M (M.put b (.row (l.set (2 * i) (N .u64 (u:Int))) false T 0)):=(ag.refl _ _).put _ (.inr (by simp))
 have hil:i<ps.length:=by rw[h.len]; exact hi
 have hpD:ps.getD i (0,[])=ps[i]:=by rw[List.getD_eq_getElem?_getD,List.getElem?_eq_getElem hil]; rfl
 refine hK _ ⟨h.lt,by rw[List.length_set]; exact h.len,⟨_,vs,aR _,by rw[List.length_set]; exact h2,fun j hj=>?_,h4⟩,h.nb⟩ kk rfl (by rw[aR]; rfl)
 have hj' : j<ps.length:=by rw[List.length_set] at hj; exact hj
 have ow:=(h3 j hj').2.2.keep kk fun d hd hm=>by
  have:=((h3 j hj').2.2.blk d hd).1
  simp at hm; omega
 by_cases hji:j=i
 ·subst hji
  refine⟨?_, ?_, ?_⟩
  ·rw[List.getElem?_set_self (by omega),List.getElem_set_self]
  ·rw[List.getElem?_set_ne (by omega)]; exact(h3 j hj').2.1
  ·rw[List.getElem_set_self,hpD]; exact ow
 ·refine⟨?_, ?_, ?_⟩
  ·rw[List.getElem?_set_ne (by omega),List.getElem_set_ne (Ne.symm hji)]; exact(h3 j hj').1
  ·rw[List.getElem?_set_ne (by omega)]; exact(h3 j hj').2.1
  ·rw[List.getElem_set_ne (Ne.symm hji)]; exact ow
theorem vM.more {T TU base:Nat} {M:RM} {b i x:Nat} {ps:List Pt} (h:vM T TU base M b ps) (hi:i<16) (hlen:(ps.getD i (0,[])).2.length≤1000000) (hbase:base≤M.next) {K:RM→Prop}
  (hK:∀ M' ks,vM T TU base M' b (ps.set i ((ps.getD i (0,[])).1,(ps.getD i (0,[])).2++[x]))→ag ks M M'→(∀ d∈ks,d=b∨base≤d)→K M') :
  ai M (.ptr b (2 * i + 1)) fun t55=>dH TU 1 [(N .u64 0)] [(0,1,N .u64 (x:Int))] fun r f=>df r f M fun t57 dN=>appW TU 1 8 [(N .u64 0)] false t55 t57 dN fun t58 fJ =>
   aZ (.ptr b (2 * i)) fun t59=>aA t59 1 fun t60=>aL fJ t60 t58 1 K:=by
 obtain⟨l,vs,h1,h2,h3,h4⟩:=h.row
 have hnb:=h.nb
 have hblt:=h.lt
 have hil:i<ps.length:=by rw[h.len]; exact hi
 have hpD:ps.getD i (0,[])=ps[i]:=by rw[List.getD_eq_getElem?_getD,List.getElem?_eq_getElem hil]; rfl
 rw[hpD] at hlen hK
 rw[aj h1 (h3 i hil).2.1,lv (x:=N .u64 (x:Int)) (size:=1) rfl rfl rfl,bn]
 refine yU (E:=aU) (a:=x) (h3 i hil).2.2 hbase (Nat.le_refl _) (by omega) (by omega) ?_
 intro v' M' o1 k1 n1 hv
 have hbv:∀ j,b ∉ aD (vs j)∨¬ j<16:=fun j=>by
  by_cases hj:j<16
  ·refine .inl fun hm=>?_
   have:=((h3 j (by rw[h.len]; exact hj)).2.2.blk b hm).1
   omega
  ·exact .inr hj
 have hh:M'.heap b=some (.row l false T 0):=k1.aN h1 hblt (by rcases hbv i with h | h; exact h; exact absurd hi h)
 rw[aG,aF,fU hh (by omega) o1.cells o1.one]
 have kk:ag [b] M' (M'.put b (.row (l.set (2 * i + 1) v') false T 0)):=(ag.refl _ _).put _ (.inr (by simp))
 have nbv:b ∉ aD v':=fun hm=>by have:=(o1.blk b hm).1; omega
 refine hK _ (b :: aD (vs i)) ⟨Nat.lt_of_lt_of_le hblt n1,by rw[List.length_set]; exact h.len,⟨_,fun j=>if j=i then v' else vs j,aR _,by rw[List.length_set]; exact h2,fun j hj=>?_,fun j1 j2 q1 q2 hne d hd=>?_⟩,h.nb⟩ ?_ ?_
 ·have hj' : j<ps.length:=by rw[List.length_set] at hj; exact hj
  by_cases hji:j=i
  ·subst hji
   refine⟨?_, ?_, ?_⟩
   ·rw[List.getElem?_set_ne (by omega),List.getElem_set_self]; exact(h3 j hj').1
   ·rw[List.getElem?_set_self (by omega)]; simp
   ·rw[List.getElem_set_self]; simp only[if_true]
    exact o1.keep kk fun d hd hm=>by simp at hm; subst hm; exact nbv hd
  ·have ahc:j<16:=by rw[← h.len]; exact hj'
   refine⟨?_, ?_, ?_⟩
   ·rw[List.getElem?_set_ne (by omega),List.getElem_set_ne (Ne.symm hji)]; exact(h3 j hj').1
   ·rw[List.getElem?_set_ne (by omega)]; simp only[if_neg hji]; exact(h3 j hj').2.1
   ·rw[List.getElem_set_ne (Ne.symm hji)]; simp only[if_neg hji]
    refine((h3 j hj').2.2.keep k1 fun d hd hm=>h4 j i ahc hi hji d hd hm).keep kk fun d hd hm=>?_
    simp at hm; subst hm
    rcases hbv j with h | h
    ·exact h hd
    ·exact h ahc
 ·simp only at hd ⊢
  by_cases e1:j1=i
  ·rw[if_pos e1] at hd
   rw[if_neg (fun e=>hne (e1.trans e.symm))]
   rcases hv with rfl | hv
   ·exact h4 i j2 hi q2 (fun e=>hne (e1.trans e)) d hd
   ·intro hm
    have:=hv d hd
    have:=((h3 j2 (by rw[h.len]; exact q2)).2.2.blk d hm).2
    omega
  ·rw[if_neg e1] at hd
   by_cases e2:j2=i
   ·rw[if_pos e2]
    rcases hv with rfl | hv
    ·exact h4 j1 i q1 hi e1 d hd
    ·intro hm
     have:=hv d hm
     have:=((h3 j1 (by rw[h.len]; exact q1)).2.2.blk d hd).2
     omega
   ·rw[if_neg e2]
    exact h4 j1 j2 q1 q2 hne d hd
 ·exact(k1.mono (fun d hd=>List.mem_cons_of_mem _ hd)).trans (kk.mono (by simp))
 ·intro d hd
  rcases List.mem_cons.1 hd with rfl | hd
  ·exact .inl rfl
  ·exact .inr ((h3 i hil).2.2.blk d hd).1
def chain:Nat→List Nat→Bool
 | _,[]=>true
 | a,x :: xs=>decide (a<x) && chain x xs
def tC (p:Pt) : Bool:=chain (p.1 + 1) p.2
def Tk (T:Nat) (c:au) : Prop:=∀ {M:RM} {b:Nat} {ps:List Pt} {S:Nat→Prop} {Q:ak},iA T S M b ps→(∀ p∈ps,p.2.length≤1000000∧p.1≤1099511627776) →
 (∀ M',ag [] M M'→Q (Bo (ps.all tC)) M')→c [.ptr b 0] M Q
theorem aab {TS T:Nat} : Tk TS fun args M Q=>∃ a0,args=[a0]∧CU T a0 M Q:=by
 intro M b ps S Q h hbd hQ
 refine⟨_,rfl, ?_⟩
 unfold CU
 simp only[gT]
 obtain⟨l,hb,JY,hrow⟩:=h.row
 rw[aG,aS,dF (n:=32) hb JY]
 refine aK (fun m ys M3=>∃ (i:Nat),m=16 - i∧ys=[N .i64 (i:Int)]∧i≤16∧ag [] M M3∧ps.all tC=(ps.drop i).all tC) _
  ⟨0,rfl,rfl,Nat.zero_le _,ag.refl _ _,rfl⟩ ?_
 rintro next m ys M3 hnext ⟨i,rfl,rfl,hi,hK,hset⟩
 dsimp only[aa]
 rw[bN]
 refine aH (fun hlt=>?_) (fun hge=>?_)
 ·have hlt:i<16:=by
   have:(i:Int)<16:=of_decide_eq_true hlt
   omega
  have hil:i<ps.length:=by rw[h.len]; exact hlt
  obtain⟨w,a1,a2,a3,a4,a5⟩:=hrow i hil
  have hcut:(l.drop (2 * i)).take 2=[N .u64 (ps[i].1:Int),w]:=by
   have h1:=(List.getElem?_eq_some_iff.1 a1)
   have h2:=(List.getElem?_eq_some_iff.1 a2)
   obtain⟨q1,q2⟩:=h1
   obtain⟨r1,r2⟩:=h2
   rw[List.drop_eq_getElem_cons q1,List.drop_eq_getElem_cons r1,q2,r2]; rfl
  rw[Ke]
  refine⟨by omega,by omega,by simp only[Int.toNat_natCast]; omega, ?_⟩
  rw[Int.toNat_natCast,Nat.mul_comm i 2,hcut,bn]
  have hw1:=aM.one a3
  have hwc:=aM.cells a3
  rw[iK (n:=2) (x:=.agg [N .u64 (ps[i].1:Int),w]) (l:=[N .u64 0,.sc (.slice none 0 0)]) (RM.aQ _) rfl rfl (by simp[AV.cells,hw1]; rfl)]
  have kk:ag [] M3 ((M3.push (.row [N .u64 0,.sc (.slice none 0 0)] false T 0)).put M3.next (.row (AV.agg [N .u64 (ps[i].1:Int),w]).cells false T 0)):=((ag.refl _ _).push _).new _ (Nat.le_refl _)
  have hh:((M3.push (.row [N .u64 0,.sc (.slice none 0 0)] false T 0)).put M3.next (.row (AV.agg [N .u64 (ps[i].1:Int),w]).cells false T 0)).heap M3.next=some (.row [N .u64 (ps[i].1:Int),w] false T 0):=aR _
  generalize (M3.push (.row [N .u64 0,.sc (.slice none 0 0)] false T 0)).put M3.next (.row (AV.agg [N .u64 (ps[i].1:Int),w]).cells false T 0)=M4 at *
  have s4:Sl aU M4 w ps[i].2:=aM.keep (aM.keep a3 hK (by simp)) kk (by simp)
  obtain⟨hxl,hub⟩:=hbd _ (List.getElem_mem hil)
  rw[List.drop_eq_getElem_cons hil,List.all_cons] at hset
  have hk4:=hK.trans kk
  unfold tC at hset
  change ps.all tC=(chain (ps[i].1 + 1) ps[i].2 && (ps.drop (i + 1)).all tC) at hset
  generalize hu:ps[i].1=u at *
  generalize hxs:ps[i].2=xs at *
  rw[aS,aj hh rfl,aM.len s4]
  refine aK (fun m ys M5=>∃ (j q:Nat),m=xs.length - j∧ys=[N .i64 (j:Int)]∧j≤xs.length∧M5=M4∧((u + 1) :: xs)[j]?=some q∧chain (u + 1) xs=chain q (xs.drop j)) _
   ⟨0,u + 1,rfl,rfl,Nat.zero_le _,rfl,rfl,rfl⟩ ?_
  rintro jv m ys M5 dQ ⟨j,q,rfl,rfl,hj,rfl,hq,hch⟩
  dsimp only[aa]
  rw[bN]
  refine aH (fun hlt2=>?_) (fun pg=>?_)
  ·have hlt2:j<xs.length:=by simpa using hlt2
   obtain⟨b2,o2,_,_,iq,hc2⟩:=Sl.uB (E:=aU) s4 (j:Int) hlt2
   rw[List.drop_eq_getElem_cons hlt2,chain] at hch
   rw[iq,fH]
   refine⟨_,hc2 _ rfl, ?_⟩
   have bad:xs[j]≤q→Q (Bo false) M5:=fun hle=>by
    have:chain (u + 1) xs=false:=by rw[hch,show decide (q<xs[j])=false by simp; omega,Bool.false_and]
    rw[hset,this,Bool.false_and] at hQ
    exact hQ M5 hk4
   have ok:¬ xs[j]≤q→af .add (N .i64 (j:Int)) (N .i64 1) fun t45=>jv [t45] M5:=fun hle=>by
    rw[bG,dK (by omega)]
    refine dQ _ _ _ (by omega) ⟨j + 1,xs[j],rfl,rfl,by omega,rfl,by rw[List.getElem?_cons_succ,List.getElem?_eq_getElem hlt2], ?_⟩
    rw[hch,show decide (q<xs[j])=true by simp; omega,Bool.true_and]
   rw[bU]
   by_cases hj0:j=0
   ·subst hj0
    simp only[List.getElem?_cons_zero,Option.some.injEq] at hq
    subst hq
    rw[show((((0:Nat) : Int)) == 0)=true from rfl,bK]
    dsimp only
    rw[aS,aj hh rfl,bG,dB (by omega) (by omega),mr,bO]
    by_cases hle:xs[0]≤u + 1
    ·rw[show decide (((xs[0] : Nat) : Int)≤(u:Int) + 1)=true by simp; omega,di]
     dsimp only
     rw[qF]
     dsimp only
     rw[di]
     dsimp only
     rw[bO,dC]
     exact bad hle
    ·rw[show decide (((xs[0] : Nat) : Int)≤(u:Int) + 1)=false by simp; omega,aT]
     dsimp only
     rw[eF,show decide (((0:Nat) : Int) > 0)=false from rfl,bM]
     dsimp only
     rw[aT]
     dsimp only
     rw[bz,bz,bI]
     exact ok hle
   ·rw[show((j:Int) == 0)=false by simp; omega,bM]
    dsimp only
    rw[bz,aT]
    dsimp only
    rw[eF,show decide ((j:Int) > 0)=true by simp; omega,bK]
    dsimp only
    obtain⟨b3,o3,_,_,wX,hc3⟩:=Sl.uB (E:=aU) (i:=j - 1) s4 ((j - 1:Nat) : Int) (by omega)
    rw[aS,aj hh rfl,iQ,bE (by omega) (by omega),show(j:Int) - 1=((j - 1:Nat) : Int) by omega,wX,fH]
    refine⟨_,hc3 _ rfl, ?_⟩
    have hqe:xs[j - 1]=q:=by
     have e:j=(j - 1) + 1:=by omega
     rw[e,List.getElem?_cons_succ,List.getElem?_eq_getElem (by omega)] at hq
     exact Option.some.inj hq
    rw[hqe,mr,aT]
    dsimp only
    rw[bO,bz]
    refine aH (fun hg=>bad ?_) (fun hg=>ok ?_)
    ·have:((xs[j] : Nat) : Int)≤(q:Int):=of_decide_eq_true hg
     omega
    ·have:¬ ((xs[j] : Nat) : Int)≤(q:Int):=of_decide_eq_false hg
     omega
  ·have he:j=xs.length:=by simp at pg; omega
   subst he
   rw[List.drop_length,chain] at hch
   rw[bG,dK (by omega)]
   refine hnext _ _ _ (by omega) ⟨i + 1,rfl,rfl,by omega,hk4, ?_⟩
   rw[hset,hch,Bool.true_and]
 ·have he:i=16:=by
   have:¬ (i:Int)<16:=of_decide_eq_false hge
   omega
  subst he
  rw[List.drop_of_length_le (by rw[h.len]; exact Nat.le_refl _)] at hset
  rw[hset] at hQ
  exact hQ M3 hK
def Qc (c:au) : Prop:=∀ {M:RM} {v w:AV} {x y:List UInt8} {Q:ak},Sl BY M v x→Sl BY M w y→Q (Bo (x == y)) M→c [v,w] M Q
theorem abJ:Qc fun args M Q=>∃ a0 a1,args=[a0,a1]∧zT a0 a1 M Q:=by
 intro M v w x y Q h1 h2 hQ
 refine⟨_,_,rfl, ?_⟩
 unfold zT
 rw[Sl.str h1,Sl.str h2,qE]
 exact hQ
theorem Own.sl {M:RM} {base T:Nat} {v:AV} {L:List UInt8} (h:Own M base T 1 v (ek L) L.length) : Sl BY M v L:=by
 have:=h.fu
 show aM M 1 v (BY.row L) L.length
 rw[CR]; exact this
@[irreducible] def iP (bs:List UInt8) (f:Bool) : Nat × List UInt8 × Bool:=bC 18446744073709551615 bs f
theorem MW {bs:List UInt8} {f:Bool} : (iP bs f).1<2 ^ 64:=by
 unfold iP
 have:=(mH (most:=18446744073709551615) (bs:=bs) (f:=f)).1
 omega
def Ao:Nat→Nat→List UInt8→Bool→List Nat→Option (Nat × List UInt8 × Bool × List Nat)
 | 0,a,bs,f,acc=>some (a,bs,f,acc)
 | k + 1,a,bs,f,acc =>
   if (iP bs f).2.2=true∨1099511627776<(iP bs f).1∨1099511627776<a then none
   else Ao k (a + (iP bs f).1) (iP bs f).2.1 (iP bs f).2.2 (acc++[a + (iP bs f).1])
def uN:Nat→List UInt8→Bool→List Pt→Option (List UInt8 × Bool × List Pt)
 | 0,bs,f,ps=>some (bs,f,ps)
 | k + 1,bs,f,ps =>
   let d:=bC 15 bs f
   let u:=iP d.2.1 d.2.2
   let n:=bC 4096 u.2.1 u.2.2
   match Ao n.1 u.1 n.2.1 n.2.2 (ps.getD d.1 (0,[])).2 with
   | none=>none
   | some (a,bs',f',acc)=>if 1099511627776<u.1∨1099511627776<a then none else uN k bs' f' (ps.set d.1 (u.1,acc))
def decode (bs:List UInt8) : Option (List Pt) :=
 match uN (bC 16 bs false).1 (bC 16 bs false).2.1 (bC 16 bs false).2.2 gu with
 | none=>none
 | some (bs',f,ps)=>if f=true∨bs'≠[]∨ps.all tC=false∨encS ps≠bs then none else some ps
def RU (T:Nat) (c:au) : Prop:=∀ {M:RM} {r:Nat} {S:Nat→Prop} {bs:List UInt8} {f:Bool} {Q:ak},uT T S M r bs f →
 (∀ M',uT T S M' r (iP bs f).2.1 (iP bs f).2.2→ag [r] M M'→M'.next=M.next→Q (N .u64 (((iP bs f).1:Nat) : Int)) M')→c [.ptr r 0] M Q
theorem QA.ru {T:Nat} {c:au} (h:QA T c) : RU T c:=by
 intro M r S bs f Q hr hQ
 unfold iP at hQ
 exact h hr hQ
def Bi (k:Nat) (p:Pt) : Prop:=p.1≤1099511627776∧p.2.length≤k∧∀ x∈p.2,x≤4398046511104
theorem alX {k:Nat} {ps:List Pt} (h:∀ p∈ps,Bi k p) (i:Nat) : Bi k (ps.getD i (0,[])):=by
 rw[List.getD_eq_getElem?_getD]
 by_cases hj:i<ps.length
 ·rw[List.getElem?_eq_getElem hj]
  exact h _ (List.getElem_mem hj)
 ·rw[List.getElem?_eq_none (by omega)]
  exact⟨Nat.zero_le _,Nat.zero_le _,fun x hx=>by simp at hx⟩
theorem vo {ps:List Pt} {i:Nat} (h:i<ps.length) (p:Pt) : (ps.set i p).getD i (0,[])=p:=by
 rw[List.getD_eq_getElem?_getD,List.getElem?_set_self h]; rfl
def Ul (TS TU:Nat) (c:au) : Prop:=∀ {M:RM} {v:AV} {bs:List UInt8} {Q:ak},Sl BY M v bs→bs.length≤140737488355328 →
 (decode bs=none→∀ M',ag [] M M'→Q (.tup [.sc (.pointer none),N .i64 14]) M') →
 (∀ ps,decode bs=some ps→(∀ p∈ps,Bi 65536 p)→∀ s M',M.next≤s→vM TS TU (s + 1) M' s ps→ag [] M M'→Q (.tup [.ptr s 0,N .i64 0]) M')→c [v] M Q
theorem ZT {TR TS TU TB:Nat} {crd cn ci cu ce cE cf cen ceq:au} (hrd:VO TR crd) (hn:ab3 TS TU cn) (hi:Zo TR ci) (hu:RU TR cu) (he:adE TR ce) (hE:abD TR cE) (hf:Tk TS cf) (hen:Bb TS TB cen) (heq:Qc ceq) :
  Ul TS TU fun args M Q=>∃ a0,args=[a0]∧IK crd cn ci cu ce TU cE cf cen ceq a0 M Q:=by
 intro M0 v bs Q hv hlen hN hS
 refine⟨_,rfl, ?_⟩
 unfold IK
 simp only[gT]
 refine hrd hv hlen fun r M1 hr1 hr0 k1=>?_
 have aAM:=hr1.lt
 refine hn fun M2 hs2 k2 n2=>?_
 have k02:=k1.trans k2
 have hr2:=hr1.keep k2 (by simp) (by simp)
 generalize M1.next=s at *
 refine hi (most:=16) hr2 (by omega) fun M3 hr3 k3 n3=>?_
 have hrs:r<s:=aAM
 have hs3:=hs2.keep k3 (by simp; omega) (by simp; omega)
 have hle:=(mH (most:=16) (bs:=bs) (f:=false)).1
 unfold decode at hN hS
 generalize (bC 16 bs false).1=n at *
 generalize (bC 16 bs false).2.1=bs1 at *
 generalize (bC 16 bs false).2.2=f1 at *
 have k03:ag [] M0 M3:=k02.aY k3 (by simp; omega)
 refine aK (fun m ys M4=>∃ (i:Nat) (bs' : List UInt8) (f:Bool) (ps:List Pt),m=n - i∧ys=[N .i64 (i:Int)]∧i≤n∧ag [] M0 M4∧s<M4.next∧uT TR (fun d=>M0.next≤d∧d<r) M4 r bs' f∧vM TS TU (s + 1) M4 s ps∧(∀ p∈ps,Bi (4096 * i) p) ∧
   uN n bs1 f1 gu=uN (n - i) bs' f ps) _
  ⟨0,bs1,f1,gu,rfl,rfl,Nat.zero_le _,k03,by omega,hr3,hs3,fun p hp=>by simp only[gu,List.mem_replicate] at hp; rw[hp.2]; exact⟨Nat.zero_le _,Nat.zero_le _,fun x hx=>by simp at hx⟩,rfl⟩ ?_
 rintro next m ys M4 hnext ⟨i,bs',f,ps,rfl,rfl,hi4,hk4,n4,hr4,hs4,hb4,hdec⟩
 dsimp only[aa]
 rw[bN]
 refine aH (fun hlt=>?_) (fun hge=>?_)
 ·have hlt:i<n:=by simpa using hlt
  rw[show n - i=(n - i - 1) + 1 by omega,uN] at hdec
  rw[aG,aS]
  refine hi (most:=15) hr4 (by omega) fun M5 hr5 k5 n5=>?_
  have hd15:=(mH (most:=15) (bs:=bs') (f:=f)).1
  generalize (bC 15 bs' f).1=dv at *
  generalize (bC 15 bs' f).2.1=bsA at *
  generalize (bC 15 bs' f).2.2=fA at *
  have hs5:=hs4.keep k5 (by simp; omega) (by simp; omega)
  have hk5:ag [] M0 M5:=hk4.aY k5 (by simp; omega)
  rw[yx]
  refine⟨by omega,by omega, ?_⟩
  rw[Int.toNat_natCast,Nat.zero_add,Nat.mul_comm dv 2]
  refine hu hr5 fun M6 hr6 k6 n6=>?_
  have hult:=MW (bs:=bsA) (f:=fA)
  generalize (iP bsA fA).1=u at *
  generalize (iP bsA fA).2.1=bsB at *
  generalize (iP bsA fA).2.2=fB at *
  have hs6:=hs5.keep k6 (by simp; omega) (by simp; omega)
  have hk6:ag [] M0 M6:=hk5.aY k6 (by simp; omega)
  rw[aG,aF,Nat.add_zero]
  refine hs6.upto (by omega) fun M7 hs7 k7 n7 _=>?_
  have hpB:=alX hb4 dv
  have hdl:dv<ps.length:=by rw[hs4.len]; omega
  have hk7:ag [] M0 M7:=hk6.aY k7 (by simp; have:=k1.next; omega)
  have hr7:=hr6.keep k7 (by simp; omega) (by simp; omega)
  obtain⟨l7,vs7,hh7,_,awV,_⟩:=hs7.row
  have hu7:=(awV dv (by rw[List.length_set]; exact hdl)).1
  rw[List.getElem_set_self] at hu7
  rw[aG,aF,Nat.add_zero,aj hh7 hu7]
  refine hi (most:=4096) hr7 (by omega) fun M8 hr8 k8 n8=>?_
  have hn4096:=(mH (most:=4096) (bs:=bsB) (f:=fB)).1
  generalize (bC 4096 bsB fB).1=nn at *
  generalize (bC 4096 bsB fB).2.1=bsC at *
  generalize (bC 4096 bsB fB).2.2=fC at *
  have hs8:=hs7.keep k8 (by simp; omega) (by simp; omega)
  have hk8:ag [] M0 M8:=hk7.aY k8 (by simp; omega)
  have refuse:uN n bs1 f1 gu=none→∀ M',ag [] M0 M'→Q (.tup [.sc (.pointer none),N .i64 14]) M':=fun h=>hN (by rw[h])
  refine aK (fun m ys M9=>∃ (j a:Nat) (bs9:List UInt8) (f9:Bool) (acc:List Nat),m=nn - j∧ys=[N .u64 (a:Int),N .i64 (j:Int)]∧j≤nn∧ag [] M0 M9∧s<M9.next∧uT TR (fun d=>M0.next≤d∧d<r) M9 r bs9 f9∧vM TS TU (s + 1) M9 s (ps.set dv (u,acc))∧(acc.length≤4096 * i + j∧∀ x∈acc,x≤4398046511104) ∧
    Ao nn u bsC fC (ps.getD dv (0,[])).2=Ao (nn - j) a bs9 f9 acc) _
   ⟨0,u,bsC,fC,_,rfl,rfl,Nat.zero_le _,hk8,by omega,hr8,hs8,⟨by have:=hpB.2.1; omega,hpB.2.2⟩,rfl⟩ ?_
  rintro jv m ys M9 dQ ⟨j,a,bs9,f9,acc,rfl,rfl,hj,hk9,n9,hr9,hs9,hacc,hdi⟩
  dsimp only[aa]
  rw[bN]
  refine aH (fun hlt2=>?_) (fun pg=>?_)
  ·have hlt2:j<nn:=by simpa using hlt2
   rw[show nn - j=(nn - j - 1) + 1 by omega,Ao] at hdi
   refine hu hr9 fun M10 apb k10 n10=>?_
   have hdlt:=MW (bs:=bs9) (f:=f9)
   generalize (iP bs9 f9).1=d at *
   generalize (iP bs9 f9).2.1=bsD at *
   generalize (iP bs9 f9).2.2=fD at *
   have aAT:=hs9.keep k10 (by simp; omega) (by simp; omega)
   have hk10:ag [] M0 M10:=hk9.aY k10 (by simp; omega)
   refine he apb ?_
   have stop:(fD=true∨1099511627776<d∨1099511627776<a)→Q (.tup [.sc (.pointer none),N .i64 14]) M10:=fun h=>by
    rw[if_pos h] at hdi
    rw[hdi] at hdec
    exact refuse hdec M10 hk10
   rw[dY]
   cases fD with
   | true =>
     simp only[if_true]
     rw[show((14:Int) != 0)=true from rfl,di]
     dsimp only
     rw[bO,di]
     dsimp only
     rw[bO,dC]
     exact stop (.inl rfl)
   | false =>
     simp only[Bool.false_eq_true,if_false]
     rw[show((0:Int) != 0)=false from rfl,aT]
     dsimp only
     rw[eF,bz]
     by_cases hd:1099511627776<d
     ·rw[show decide ((d:Int) > 1099511627776)=true by simp; omega,di]
      dsimp only
      rw[bO,dC]
      exact stop (.inr (.inl hd))
     ·rw[show decide ((d:Int) > 1099511627776)=false by simp; omega,aT]
      dsimp only
      rw[eF,bz]
      refine aH (fun hg=>stop (.inr (.inr ?_))) (fun hg=>?_)
      ·have:(a:Int) > 1099511627776:=of_decide_eq_true hg
       omega
      ·have hal:¬ 1099511627776<a:=by
        have:¬ (a:Int) > 1099511627776:=of_decide_eq_false hg
        omega
       rw[if_neg (by simp; omega)] at hdi
       rw[bG,show(a:Int) + (d:Int)=((a + d:Nat) : Int) by omega,dB (by omega) (by omega),aG,aF]
       have hgs:=vo hdl (u,acc)
       refine aAT.more (i:=dv) (x:=a + d) (by omega) (by rw[hgs]; have:=hacc.1; simp only; omega) (by omega) fun M11 ks apA k11 hks=>?_
       rw[hgs,List.set_set] at apA
       have n11:=k11.next
       have axZ:=apb.keep k11 (fun h=>by rcases hks _ h with h | h <;> omega) (fun d hd h=>by rcases hks _ hd with h | h <;> omega)
       have ayw:ag [] M0 M11:=hk10.aY k11 (fun d hd=>.inl (by rcases hks _ hd with h | h <;> (have:=k1.next; omega)))
       rw[bG,dK (by omega)]
       refine dQ _ _ _ (by omega) ⟨j + 1,a + d,bsD,false,acc++[a + d],rfl,rfl,by omega,ayw,by omega,axZ,apA,⟨by simp; have:=hacc.1; omega,fun x hx=>?_⟩,hdi⟩
       rcases List.mem_append.1 hx with hx | hx
       ·exact hacc.2 x hx
       ·simp at hx; omega
  ·have he2:j=nn:=by simp at pg; omega
   subst he2
   rw[Nat.sub_self,Ao] at hdi
   rw[hdi] at hdec
   simp only at hdec
   obtain⟨l9,vs9,hh9,_,awl,_⟩:=hs9.row
   have hu9:=(awl dv (by rw[List.length_set]; exact hdl)).1
   rw[List.getElem_set_self] at hu9
   rw[aG,aF,Nat.add_zero,aj hh9 hu9,eF]
   have stop:(1099511627776<u∨1099511627776<a)→Q (.tup [.sc (.pointer none),N .i64 14]) M9:=fun h=>by
    rw[if_pos h] at hdec
    exact refuse hdec M9 hk9
   by_cases hub:1099511627776<u
   ·rw[show decide ((u:Int) > 1099511627776)=true by simp; omega,di]
    dsimp only
    rw[bO,dC]
    exact stop (.inl hub)
   ·rw[show decide ((u:Int) > 1099511627776)=false by simp; omega,aT]
    dsimp only
    rw[eF,bz]
    refine aH (fun hg=>stop (.inr ?_)) (fun hg=>?_)
    ·have:(a:Int) > 1099511627776:=of_decide_eq_true hg
     omega
    ·have hal:¬ 1099511627776<a:=by
      have:¬ (a:Int) > 1099511627776:=of_decide_eq_false hg
      omega
     rw[if_neg (by omega)] at hdec
     rw[bG,dK (by omega)]
     refine hnext _ _ _ (by omega) ⟨i + 1,bs9,f9,ps.set dv (u,acc),rfl,rfl,by omega,hk9,n9,hr9,hs9,fun p hp=>?_,hdec⟩
     rcases List.mem_or_eq_of_mem_set hp with hp | rfl
     ·have:=hb4 p hp
      exact⟨this.1,by have:=this.2.1; omega,this.2.2⟩
     ·exact⟨by simp only; omega,by have:=hacc.1; simp only; omega,hacc.2⟩
 ·have he4:i=n:=by simp at hge; omega
  subst he4
  rw[Nat.sub_self,uN] at hdec
  rw[hdec] at hN hS
  simp only at hN hS
  have hH:=hs4.setH
  refine hE hr4 ?_
  have refuse:∀ M',(f=true∨bs'≠[]∨ps.all tC=false∨encS ps≠bs)→ag [] M0 M'→Q (.tup [.sc (.pointer none),N .i64 14]) M':=fun M' h k=>hN (by rw[if_pos h]) M' k
  rw[dY]
  by_cases hfb:f=true∨bs'≠[]
  ·have:(f || !bs'.isEmpty)=true:=by
    rcases hfb with h | h
    ·rw[h]; rfl
    ·cases bs' with
     | nil=>exact absurd rfl h
     | cons x y=>simp
   rw[this]
   simp only[if_true]
   rw[show((14:Int) != 0)=true from rfl,di]
   dsimp only
   rw[bO,di]
   dsimp only
   rw[bO,dC]
   exact refuse M4 (hfb.elim .inl fun h=>.inr (.inl h)) hk4
  ·have hf0:f=false:=by cases f; rfl; exact absurd (.inl rfl) hfb
   have hb0:bs'=[]:=Classical.byContradiction fun h=>hfb (.inr h)
   subst hf0 hb0
   simp only[List.isEmpty_nil,Bool.not_true,Bool.or_false,Bool.false_eq_true,if_false]
   rw[show((0:Int) != 0)=false from rfl,aT]
   dsimp only
   have hbi:∀ p∈ps,Bi 65536 p:=fun p hp=>by
    have:=hb4 p hp
    exact⟨this.1,by have:=this.2.1; omega,this.2.2⟩
   refine hf hH (fun p hp=>⟨by have:=(hbi p hp).2.1; omega,(hbi p hp).1⟩) fun M5 k5=>?_
   have hk5:=hk4.trans k5
   have hs5:=hs4.keep k5 (by simp) (by simp)
   rw[bR,bz]
   cases hfo:ps.all tC with
   | false =>
     rw[Bool.not_false,di]
     dsimp only
     rw[bO,dC]
     exact refuse M5 (.inr (.inr (.inl hfo))) hk5
   | true =>
     rw[Bool.not_true,aT]
     dsimp only
     refine hen hs5.setH (fun p hp=>⟨by have:=(hbi p hp).1; omega,by have:=(hbi p hp).2.1; omega,fun x hx=>by have:=(hbi p hp).2.2 x hx; omega⟩) fun w M6 ho6 hl6 k6=>?_
     have hk6:=hk5.trans k6
     have hv6:Sl BY M6 v bs:=aM.keep hv hk6 (by simp)
     refine heq (Own.sl ho6) hv6 ?_
     rw[bR,bz]
     by_cases hbe:encS ps=bs
     ·rw[show(encS ps == bs)=true by simpa using hbe,Bool.not_true,bI]
      refine hS ps ?_ hbi s M6 (by omega) (hs5.keep k6 (by simp) (by simp)) hk6
      rw[if_neg]
      rintro(h | h | h | h)
      ·cases h
      ·exact h rfl
      ·rw[hfo] at h; cases h
      ·exact h hbe
     ·rw[show(encS ps == bs)=false by simpa using hbe,Bool.not_false,dC]
      exact refuse M6 (.inr (.inr (.inr hbe))) hk6
end Go.Ab.aC
