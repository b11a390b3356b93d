/- Part 3 of the ground of the proofs of this seat (texts R5 to R10). By an AI agent. -/
import Derived.Test.YtmilkhdicmkmbaaDoorVlp2
import Derived.Lib.UnsafeStr
import Derived.Scope
set_option linter.unusedVariables false
set_option linter.unusedSimpArgs false
namespace Go.Ab
open Go Go.RowKit
abbrev ai:=AV→RM→Prop
def DV (P:Program) (f:FuncId) : Prop:=∃ fn c,P.funcs[f]?=some fn∧fn.body=some c
def eP (P:Program) (f:FuncId) (args:List AV) (M:RM) (Q:ai) : Prop :=
 DV P f∧∀ (ρ:Ren) (w:World) (us:List Value),aD ρ args us→bP P ρ M w →
  Calls P f ⟨us⟩ w fun e w'=>∃ v' v M' ρ',e=.returned v'∧After P M ρ w M' ρ' w'∧af ρ' v v'∧Q v M'
theorem eP.mono {P:Program} {f:FuncId} {args:List AV} {M:RM} {Q Q' : ai} (h:eP P f args M Q) (hq:∀ v M',Q v M'→Q' v M') : eP P f args M Q' :=
 ⟨h.1,fun ρ w us a b=>(h.2 ρ w us a b).mono fun e w' ⟨v',v,M',ρ',c,d,f,g⟩=>⟨v',v,M',ρ',c,d,f,hq _ _ g⟩⟩
def jT (P:Program) (o:Oper) (e:Operand→AV) (M:RM) (K:ai) : Prop :=
 ∀ (ρ:Ren) (w:World) (c:Operand→Value),bP P ρ M w→(∀ x∈o.op.operands,af ρ (e x) (c x))→∃ M' ρ' w',After P M ρ w M' ρ' w' ∧
   ((∃ v' v,(execOp c o).run P w=.ok (.value v') w'∧af ρ' v v'∧K v M')∨((execOp c o).run P w=.ok .skip w'∧K .undef M') ∨
     ∃ f args us,(execOp c o).run P w=.ok (.enter f ⟨us⟩) w'∧aD ρ' args us∧eP P f args M' K)
def aO (M:RM) (a x:AV) (n:Nat) (K:RM→Prop) : Prop:=∃ b p M',a=.ptr b p∧x.cells.length=n∧M.stores b p x.cells=some M'∧K M'
def lL (M:RM) (size:Nat) (zs:List AV) (zeros:Bool) (x:AV) : Option (Nat × List AV) :=
 match zeros with
 | true=>match x with
   | .sc (.int _ n)=>if 0≤n then some (n.toNat,mg zs n.toNat) else none
   | _=>none
 | false=>match x with
   | .slc b o len _=>match M.loads b o (len * size) with
     | some vs=>some (len,vs)
     | none=>none
   | .emp _=>some (0,[])
   | .sc (.slice none 0 0)=>some (0,[])
   | .sc (.string s)=>if size=1 then some (s.data.toList.length,s.data.toList.map fun b=>N .u8 b.toNat) else none
   | _=>none
def ru (elem size bytes n:Nat) (new:List AV) (s:AV) (M:RM) : Option (AV × RM) :=
 match s with
 | .sc (.slice none 0 0)=>if n=0 then some (s,M) else if new.all oneCell=true then some (.slc M.next 0 n (.op size),M.push (.row new true elem 0)) else none
 | .emp _=>if n=0 then some (s,M) else none
 | .slc b o len (.ex c)=>if n=0 then(if len≤c then some (s,M) else none) else if len + n≤c then(match M.stores b (o + len * size) new with
   | some M'=>some (.slc b o (len + n) (.ex c),M')
   | none=>none)
   else match M.loads b o (len * size) with
    | some old=>if (len + n) * bytes≤140737488355328∧len + n≤140737488355328∧(old++new).all oneCell=true then some (.slc M.next 0 (len + n) (.op size),M.push (.row (old++new) true elem 0)) else none
    | none=>none
 | .slc b o len (.op esz)=>if n=0 then some (s,M) else match M.heap b with
   | some (.row l opn el fz)=>if opn=true∧esz=size then
     (if o + (len + n) * size≤l.length then(match M.stores b (o + len * size) new with
      | some M'=>some (.slc b o (len + n) (.op esz),M')
      | none=>none)
     else if el=elem∧(len + n) * bytes≤140737488355328∧len + n≤140737488355328∧o=0∧l.length=len * size∧fz≤len * size∧new.all oneCell=true then
      some (.slc M.next 0 (len + n) (.op size),(M.del b).push (.row (l++new) true elem fz)) else none) else none
   | _=>none
 | _=>none
def appW (elem size bytes:Nat) (zs:List AV) (zeros:Bool) (s x:AV) (M:RM) (K:ai) : Prop :=
 ∃ n new,lL M size zs zeros x=some (n,new)∧n * bytes≤140737488355328∧n≤140737488355328∧∃ v M',ru elem size bytes n new s M=some (v,M')∧K v M'
def firstM (M:RM) (size k:Nat) : AV→Option (List AV)
 | .slc b o _ _=>M.loads b o (k * size)
 | .sc (.string s)=>if size=1 then some ((s.data.toList.take k).map fun b=>N .u8 b.toNat) else none
 | _=>none
def KF (size:Nat) (d x:AV) (M:RM) : Option (AV × RM) :=
 match d with
 | .slc b o dn _=>match wS x with
   | some sn=>if Nat.min sn dn=0 then some (N .i64 0,M) else match firstM M size (Nat.min sn dn) x with
     | some vs=>match M.stores b o vs with
       | some M'=>some (N .i64 (Nat.min sn dn:Nat),M')
       | none=>none
     | none=>none
   | none=>none
 | .emp _ | .sc (.slice none 0 0)=>match wS x with
   | some _=>some (N .i64 0,M)
   | none=>none
 | _=>none
def RV (size:Nat) (d x:AV) (M:RM) (K:ai) : Prop:=∃ v M',KF size d x M=some (v,M')∧K v M'
def Nh (zs:List AV) (x:AV) (M:RM) (K:ai) : Prop :=
 (∃ b p n cap M',x=.slc b p n cap∧M.stores b p (mg zs n)=some M'∧K .undef M')∨(∃ b,x=.emp b∧K .undef M)∨(x=.sc (.slice none 0 0)∧K .undef M)
def FW (C:FuncId→List AV→RM→ai→Prop) (f:AV) (args:List AV) (M:RM) (K:ai) : Prop:=∃ g first cap,f=.fn (.func g) first cap∧C g (first++args++cap) M K
def JM (P:Program) (g:FuncId) (args:List AV) (M:RM) (v:AV) : Prop :=
 ∀ (ρ:Ren) (w:World) (us:List Value),aD ρ args us→bP P ρ M w→∃ u,(callFunc g ⟨us⟩).run P w=.ok (.value u) w∧af ρ v u
def Qe (P:Program) (g:FuncId) (args:List AV) (M:RM) (v:AV) (M' : RM) : Prop :=
 ∀ (ρ:Ren) (w:World) (us:List Value),aD ρ args us→bP P ρ M w→∃ ρ' w' u,(callFunc g ⟨us⟩).run P w=.ok (.value u) w'∧After P M ρ w M' ρ' w'∧af ρ' v u
def vB (P:Program) (g:FuncId) (args:List AV) (M:RM) (K:ai) : Prop :=
 (∃ v,CJ P g args=some (.value v)∧K v M) ∨
 ((∃ fn t elem size tr,P.funcs[g]?=some fn∧fn.body=none∧Extern.findNext fn=none∧Extern.find fn=some (Extern.SlicesOverlaps.overlaps #[t,t] #[tr])∧P.underlying t=some (.slice elem)∧aM P elem=some size) ∧
   (∃ ba oa na ca bb ob nb cb la ea fa lb opb eb fb,args=[.slc ba oa na ca,.slc bb ob nb cb]∧ba≠bb∧M.heap ba=some (.row la false ea fa)∧M.heap bb=some (.row lb opb eb fb)∧fa=0∧oa + 1≤la.length∧1≤lb.length)∧K (Bo false) M) ∨
 ((∃ fn,P.funcs[g]?=some fn∧fn.body=none∧Extern.findNext fn=none∧Extern.find fn=some Extern.AbiNoEscape.same)∧∃ v,args=[v]∧K v M) ∨
 (∃ v,JM P g args M v∧K v M) ∨
 ∃ v M',Qe P g args M v M'∧K v M'
def GU (x:AV) (M:RM) (K:ai) : Prop:=∃ b s pos,x=.ptr b 0∧M.heap b=some (.gX s pos) ∧
 if pos<s.length then K (.tup [Bo true,N .i64 pos,N .i32 (Utf8.decode ⟨⟨s⟩⟩ pos).1]) (M.put b (.gX s (pos + (Utf8.decode ⟨⟨s⟩⟩ pos).2))) else K (.tup [Bo false]) M
def Jj (x:AV) (M:RM) (K:ai) : Prop:=∃ m es cl,x=.map m∧M.heap m=some (.map es cl)∧K (.ptr M.next 0) (M.push (.iter (some m) cl [] cl))
def MQ (x:AV) (M:RM) (K:ai) : Prop:=∃ b m since seen stepped es cl,x=.ptr b 0∧M.heap b=some (.iter (some m) since seen stepped)∧M.heap m=some (.map es cl) ∧
 (seen=[]∨es=[]∨∃ n∈es,n.2.2<stepped)∧(∀ n∈es,n.2.2 ∉ seen→K (.tup [Bo true,n.1,n.2.1]) (M.put b (.iter (some m) since (seen++[n.2.2]) cl)))∧((∀ n∈es,n.2.2 ∉ seen→since≤n.2.2)→K (.tup [Bo false]) M)
def RY (x:AV) (M:RM) (K:ai) : Prop:=∃ b p n c l el,x=.slc b p n (.ex c)∧M.heap b=some (.row l false el 0)∧K x (M.put b (.row l false el (l.length + 1)))
def Px (el:Nat) (x n:AV) (M:RM) (K:ai) : Prop :=
 (∃ b k l opn fz s,x=.ptr b 0∧n=N .i64 ((k + 1:Nat) : Int)∧k≤4611686018427387904∧M.heap b=some (.row l opn el fz)∧k + 1≤l.length∧bS byteOf (l.take (k + 1))=some s∧K (St s) (M.del b)) ∨
 (x=.sc (.pointer none)∧n=N .i64 0∧K (St []) M)
def Gf (k v:AV) : List (AV × AV × Nat)→Nat→List (AV × AV × Nat)
 | [],_=>[]
 | (_,_,n) :: es,0=>(k,v,n) :: es
 | x :: es,i + 1=>x :: Gf k v es i
def TN (es:List (AV × AV × Nat)) (c:Nat) (k v:AV) : Option (Nat × AV)→RB
 | some (i,_)=>.map (Gf k v es i) c
 | none=>.map (es++[(k,v,c)]) (c + 1)
def Jl (a:Bool) (ks:List Nat) (M:RM) (m k v:AV) (K:RM→Prop) : Prop :=
 ∃ b es c kc r,m=.map b∧M.heap b=some (.map es c)∧fE a k=some kc∧kc.length=ks.length∧nz a ks kc es 0=some r∧K (M.put b (TN es c k v r))
def TJ (es:List (AV × AV × Nat)) (c:Nat) : Option (Nat × AV)→RB
 | some (i,_)=>.map (es.eraseIdx i) c
 | none=>.map es c
def Jr (a:Bool) (ks:List Nat) (M:RM) (m k:AV) (K:ai) : Prop :=
 ∃ b es c kc r,m=.map b∧M.heap b=some (.map es c)∧fE a k=some kc∧kc.length=ks.length∧nz a ks kc es 0=some r∧K (.tup []) (M.put b (TJ es c r))
def gy (P:Program) (o:Oper) (e:Operand→AV) (M:RM) (K:ai) : Prop :=
 match o.op with
 | .store t a x=>match aM P t with
   | some n=>aO M (e a) (e x) n (K .undef)
   | none=>False
 | .call { callee:=.builtin .append,args,argTypes } => match argTypes[0]?,args with
   | some t,⟨[s,x]⟩=>match P.underlying t,jW P argTypes with
     | some (.slice elem),some zeros=>match aM P elem,qL P elem,gH P elem with
       | some size,some bytes,some zs=>match Nat.ble 1 size,Nat.beq zs.length size with
         | true,true=>appW elem size bytes zs zeros (e s) (e x) M K
         | _,_=>False
       | _,_,_=>False
     | _,_=>False
   | _,_=>False
 | .call { callee:=.builtin .copy,args,argTypes } => match argTypes[0]?,args with
   | some t,⟨[s,x]⟩=>match P.underlying t with
     | some (.slice elem)=>match aM P elem with
       | some size=>RV size (e s) (e x) M K
       | none=>False
     | _=>False
   | _,_=>False
 | .call { callee:=.builtin .clear,args,argTypes } => match argTypes[0]?,args with
   | some t,⟨[x]⟩=>match P.underlying t with
     | some (.slice elem)=>match aM P elem,gH P elem with
       | some size,some zs=>match Nat.ble 1 size,Nat.beq zs.length size with
         | true,true=>Nh zs (e x) M K
         | _,_=>False
       | _,_=>False
     | _=>False
   | _,_=>False
 | .call { callee:=.builtin .unsafeString,args,argTypes } => match argTypes[0]?,args with
   | some t,⟨[x,n]⟩=>match P.underlying t with
     | some (.pointer el)=>match P.underlying el,Nat.beq (P.cellsOf el) 1 with
       | some (.int .u8),true=>Px el (e x) (e n) M K
       | _,_=>False
     | _=>False
   | _,_=>False
 | .call { callee:=.value (.func g),args,.. } => match P.funcs[g]? with
   | some fn=>match fn.body with
     | some _=>eP P g (args.toList.map e) M K
     | none=>vB P g (args.toList.map e) M K
   | none=>False
 | .call { callee:=.value f,args,.. } => FW (eP P) (e f) (args.toList.map e) M K
 | .next it true=>GU (e it) M K
 | .next it false=>MQ (e it) M K
 | .range t x=>match P.underlying t with
   | some (.map _ _)=>Jj (e x) M K
   | _=>False
 | .mapUpdate t m k x=>match P.underlying t with
   | some (.map kt _)=>match gZ P 10 kt,bV P kt with
     | some ks,some a=>Jl a ks M (e m) (e k) (e x) (K .undef)
     | _,_=>False
   | _=>False
 | .call { callee:=.builtin .delete,args,argTypes } => match argTypes[0]?,args with
   | some t,⟨[m,k]⟩=>match P.underlying t with
     | some (.map kt _)=>match gZ P 10 kt,bV P kt with
       | some ks,some a=>Jr a ks M (e m) (e k) K
       | _,_=>False
     | _=>False
   | _,_=>False
 | .convert src dst x=>match Nat.beq src dst,P.underlying src with
   | true,some (.slice el)=>match P.underlying el with
     | some (.int .u8)=>RY (e x) M K
     | _=>False
   | _,_=>False
 | _=>False
section
variable {P:Program} {ρ:Ren} {o:Oper} {e:Operand→AV} {c:Operand→Value} {M:RM} {w:World} {K:ai}
structure De (P:Program) : Prop where
 ng:∀ (f:FuncId) (fn:Func),P.funcs[f]?=some fn→fn.name ≠ "runtime.NumGoroutine"
 mixed:P.follows .mixedOrders=true
theorem OX (hw:bP P ρ M w) {elem size:Nat} {zs:List AV} {zeros:Bool} {x:AV} {u:Value} {n:Nat} {new:List AV} (hx:af ρ x u) (hzs:gH P elem=some zs) (h1:1≤size) (h2:zs.length=size)
  (h:lL M size zs zeros x=some (n,new)) : ∃ us,BJ P ρ w elem size zeros u n new us:=by
 unfold lL at h
 split at h
 ·split at h <;> first | (cases h; done) | skip
  rename_i k m
  split at h <;> first | (cases h; done) | skip
  rename_i hm
  cases h
  obtain⟨it,z,hi,hz,hr⟩:=gM (ρ:=ρ) hzs
  obtain⟨rfl,_⟩:=az hx
  have hl:=hr.length
  simp only[Array.length_toList] at hl
  refine⟨(Builtin.zeroCells z.cells m.toNat).toList,by rw[← Cq]; exact uK hr (by omega) _,by rw[Array.length_toList,size_zeroCells,← hl,h2],(by simp only[if_true]; exact⟨k,by congr 1; omega⟩),(fun e=>by cases e),fun _=>⟨it,z,hi,hz,rfl⟩⟩
 ·split at h <;> first | (cases h; done) | skip
  ·rename_i b o len cap
   split at h <;> first | (cases h; done) | skip
   rename_i xs hl
   cases h
   obtain⟨i,cp,hb,rfl⟩:=dX hx
   obtain⟨vs,hr,hlen,hcell⟩:=RM.fI hw hb hl
   refine⟨vs,hr,hlen,by simp[Builtin.lenOf],fun _ w' hw'=>?_,fun e=>by cases e⟩
   have:=run_loadCells_list (P:=P) w' ⟨i.cb,i.sh + o,none⟩ vs (fun j v hj=>by rw[← hcell j v hj]; simp[World.cell?,hw'])
   rw[hlen] at this
   simp[Builtin.firstCells,this]
  ·cases h
   cases hx with
   | emp b ad c =>
   exact⟨[],.nil,by simp,by simp[Builtin.lenOf],fun _ _ _=>by simp[Builtin.firstCells,loadCells,loadCellsFrom],fun e=>by cases e⟩
  ·cases h
   obtain⟨rfl,_⟩:=az hx
   exact⟨[],.nil,by simp,by simp[Builtin.lenOf],fun _ _ _=>by simp[Builtin.firstCells],fun e=>by cases e⟩
  ·rename_i s
   split at h <;> first | (cases h; done) | skip
   rename_i hsz
   cases h
   subst hsz
   obtain⟨rfl,_⟩:=az hx
   refine⟨_,Fq s,by simp,by simp[Builtin.lenOf],fun _ _ _=>?_,fun e=>by cases e⟩
   simp only[Builtin.firstCells,Sem.run_pure]
   congr 1
   have:(s.extract 0 s.data.toList.length)=s:=by
    have h:s.data.toList.length=s.size:=by rw[Array.length_toList]; rfl
    rw[h]; simp
   rw[this]
   apply Array.ext'
   simp
def DoesM (P:Program) (ρ:Ren) (M:RM) (w:World) (run:World→Result Value) (v:AV) (M' : RM) : Prop :=
 ∃ ρ' w' v',run w=.ok v' w'∧After P M ρ w M' ρ' w'∧af ρ' v v'
variable {A:AW} {M' : RM} {A' : AW}
theorem Hq (h:oG P ρ M w A) {run:World→Result Value} {v:AV} (hd:vV P M.base ρ A w run v A') (hlo:M'.base=M.base) (hn:A'.next=M'.next)
  (hb:∀ b x,M'.heap b=some x→(∃ y,A'.heap.get b=some y∧qB x y)∨∃ c,x=.ro c∧M.heap b=some x) : DoesM P ρ M w run v M':=by
 obtain⟨ρ',w',v',h1,h2,h3,h4,h5⟩:=hd
 exact⟨ρ',w',v',h1,iq h h2 h3 hlo hn h4 hb,h5⟩
theorem jm (h:oG P ρ M w A) : ∀ b x,M.heap b=some x→(∃ y,A.heap.get b=some y∧qB x y)∨∃ c,x=.ro c∧M.heap b=some x:=by
 intro b x hx
 rcases h.blk b x hx with h1 | ⟨c,rfl,_⟩
 ·exact .inl h1
 ·exact .inr ⟨c,rfl,hx⟩
theorem Bh {l:List AV} {t:Tree AV} (h:jd .leaf 0 l=some t) : qB (.row l true 0 0) (.row l.length t [] true 0 0)∧∀ (k:Nat) (v:AV),l[k]?=some v→cellAt t [] l.length k=some v:=by
 obtain⟨_,hget⟩:=eO _ _ _ h
 have:∀ (k:Nat) (v:AV),l[k]?=some v→cellAt t [] l.length k=some v:=fun k v hk=>by
  have hlt:=(List.getElem?_eq_some_iff.1 hk).1
  exact tH hlt (by rw[hget,if_pos (by omega)]; simpa using hk)
 exact⟨⟨rfl,rfl,rfl,rfl,this⟩,this⟩
theorem KN (h:oG P ρ M w A) {elem size bytes n:Nat} {zeros:Bool} {x:Value} {new:List AV} {us:List Value} (h1:1≤size) {s v:AV} {u:Value} (hs:af ρ s u) (hn:BJ P ρ w elem size zeros x n new us)
  {t:TypeId} {ts:Array TypeId} {ty:TypeId} (ht:ts[0]?=some t) (hu:P.underlying t=some (.slice elem)) (hzs:jW P ts=some zeros)
  {it:TypeInfo} {z:Value} (hi:P.info? elem=some it) (hz:it.zero=some z) (hsi:it.size=size) (hzc:z.cells.size=size) (hb:it.bytes=bytes) (hnb:n * bytes≤140737488355328) (hnl:n≤140737488355328)
  (ha:ru elem size bytes n new s M=some (v,M')) : DoesM P ρ M w (fun w=>(Builtin.append_ ts ty #[u,x]).run P w) v M':=by
 have key:∀ {A' : AW},jB elem size bytes n new s A=some (v,A')→M'.base=M.base→A'.next=M'.next →
   (∀ b x,M'.heap b=some x→(∃ y,A'.heap.get b=some y∧qB x y)∨∃ c,x=.ro c∧M.heap b=some x)→DoesM P ρ M w (fun w=>(Builtin.append_ ts ty #[u,x]).run P w) v M' :=
  fun hA a b c=>Hq h (xL h.rel h.size h1 hs hn ht hu hzs hi hz hsi hzc hb hnb hnl hA) a b c
 have hnw:new.length=n * size:=by rw[hn.rel.length,hn.len]
 unfold ru at ha
 split at ha
 ·split at ha
  ·rename_i h0
   cases ha
   exact key (by simp only[jB,h0]) rfl h.next (jm h)
  ·rename_i h0
   split at ha <;> first | (cases ha; done) | skip
   rename_i hall
   cases ha
   obtain⟨tr,htr⟩:=jO new .leaf 0 hall
   obtain⟨_,hcell⟩:=Bh htr
   cases n with
   | zero=>exact absurd rfl h0
   | succ n =>
   obtain⟨k1,k2,k3⟩:=RM.yP h (x:=.row new true elem 0) (y:=.row ((n + 1) * size) tr [] true elem 0) ⟨hnw,rfl,rfl,rfl,fun k v hk=>by rw[← hnw]; exact hcell k v hk⟩
   exact key (by simp only[jB,htr,h.next]) k1 k2 k3
 ·split at ha <;> first | (cases ha; done) | skip
  rename_i h0
  cases ha
  exact key (by simp only[jB,h0]) rfl h.next (jm h)
 ·rename_i b o len cc
  split at ha
  ·rename_i h0
   split at ha <;> first | (cases ha; done) | skip
   rename_i hle
   cases ha
   subst h0
   cases hs with
   | fP _ _ _ _ i hbi =>
   have hus:us=[]:=List.eq_nil_of_length_eq_zero (by simpa using hn.len)
   refine⟨ρ,w,_,qN hn ht hu hzs hi hsi hb hnb hnl (by omega) (w1:=w) (by simp[hus,storeCells]),After.refl ⟨A,h⟩, ?_⟩
   exact .fP _ _ _ _ i hbi
  rename_i hn0
  split at ha
  ·rename_i hle
   split at ha <;> first | (cases ha; done) | skip
   rename_i M1 hst
   cases ha
   obtain⟨A1,a1,a2,a3,a4,a5⟩:=RM.BL h hst
   exact key (by simp only[jB,aJ.2 hle,a1]) a2 a3 a5
  ·rename_i hle
   split at ha <;> first | (cases ha; done) | skip
   rename_i old hl
   split at ha <;> first | (cases ha; done) | skip
   rename_i hcond
   obtain⟨c1,c2,c3⟩:=hcond
   cases ha
   cases hs with
   | fP _ _ _ _ i hbi =>
   obtain⟨vs,hr,hlen,hcell⟩:=RM.fI ⟨A,h⟩ hbi hl
   obtain⟨tr,htr⟩:=jO (old++new) .leaf 0 c3
   obtain⟨_,hget⟩:=eO _ _ _ htr
   obtain⟨_,hrow⟩:=Bh htr
   have hol:old.length=len * size:=by rw[hr.length,hlen]
   have htot:(old++new).length=(len + n) * size:=by rw[List.length_append,hol,hnw,← Nat.add_mul]
   have hr2:=BO hn (ty:=ty) ht hu hzs hi hz hsi hb hnb hnl hle c1 c2 (ad:=some ⟨i.cb,i.sh + o,none⟩) (vs:=vs) (fun w' hw'=>by
    have:=run_loadCells_list (P:=P) w' ⟨i.cb,i.sh + o,none⟩ vs (fun j v hj=>by rw[← hcell j v hj]; simp[World.cell?,hw'])
    rw[hlen] at this
    simp[Builtin.firstCells,this])
   have hge:=grownCap_ge w (len + n) cc elem
   have mV:=hn.len
   obtain⟨k1,k2,k3⟩:=RM.yP h (x:=.row (old++new) true elem 0) (y:=.row ((len + n) * size) tr [] true elem 0) ⟨htot,rfl,rfl,rfl,fun k v hk=>by rw[← htot]; exact hrow k v hk⟩
   have hsz:aM P elem=some size:=by simp[aM,hi,hsi]
   have hd:=vY h.rel h.size h1 hsz (cap:=grownCap w (len + n) cc elem) (need:=len + n) (tree:=tr) (z:=[]) (fz:=0) (cs:=⟨vs⟩++⟨us⟩++Builtin.zeroCells z.cells (grownCap w (len + n) cc elem - (len + n)))
    (run:=fun w=>(Builtin.append_ ts ty #[.slice (some ⟨i.cb,i.sh + o,none⟩) len cc,x]).run P w) (by
     simp only[Array.size_append,List.size_toArray,size_zeroCells,hzc,hlen,mV,← Nat.add_mul]
     congr 1; omega) hge (fun k y hk=>by
     obtain⟨hk1,hk2⟩:=jC hk
     rw[hget,if_pos (by omega),Nat.sub_zero] at hk2
     rw[nZ]
     by_cases hlt:k<vs.length
     ·rw[if_pos hlt]
      rw[List.getElem?_append_left (by omega)] at hk2
      exact hr.get hk2
     ·rw[if_neg hlt,if_pos (by rw[hlen,mV,← Nat.add_mul]; omega)]
      rw[List.getElem?_append_right (by omega),hr.length] at hk2
      exact hn.rel.get hk2) hr2
   rw[h.next] at hd
   exact Hq h hd k1 k2 k3
 ·rename_i b o len esz
  split at ha
  ·rename_i h0
   cases ha
   exact key (by simp only[jB,h0]) rfl h.next (jm h)
  ·rename_i h0
   cases n with
   | zero=>exact absurd rfl h0
   | succ n =>
   split at ha <;> first | (cases ha; done) | skip
   rename_i l opn el fz hh
   split at ha <;> first | (cases ha; done) | skip
   rename_i hc
   obtain⟨rfl,rfl⟩:=hc
   rcases h.blk b _ hh with⟨y,hy,hle⟩ | ⟨c,e,_⟩
   ·cases y <;> first | exact hle.elim | skip
    rename_i kn tree zs Ca jb fz'
    obtain⟨q1,rfl,rfl,rfl,q5⟩:=hle
    have hbo:(true && Nat.beq esz esz)=true:=by simp
    split at ha
    ·rename_i hroom
     split at ha <;> first | (cases ha; done) | skip
     rename_i M1 hst
     cases ha
     obtain⟨A1,a1,a2,a3,a4,a5⟩:=RM.BL h hst
     exact key (by simp only[jB,hy,hbo,aJ.2 (show o + (len + (n + 1)) * esz≤kn by omega),a1]) a2 a3 a5
    ·rename_i hroom
     split at ha <;> first | (cases ha; done) | skip
     rename_i hcond
     obtain⟨rfl,c2,c3,rfl,c5,c6,c8⟩:=hcond
     cases ha
     obtain⟨tr,htr⟩:=jO new tree (len * esz) c8
     obtain⟨_,hget⟩:=eO _ _ _ htr
     have hl:A.loads b 0 (len * esz)=some ((l.drop 0).take (len * esz)):=by
      unfold AW.loads; rw[hy]; exact wH q5 _ _ (by omega)
     refine key (A' := { next:=A.next + 1,heap:=(A.heap.del b).set A.next (.row ((len + (n + 1)) * esz) tr zs true jb fz') }) ?_ rfl (by simp[RM.push,RM.del,h.next]) ?_
     ·simp only[jB,hy,hbo,MP (show ¬ 0 + (len + (n + 1)) * esz≤kn by omega),hl,htr,h.next]
      rw[lU rfl,aJ.2 c2,aJ.2 c3,lU rfl,lU (show kn=len * esz by omega),aJ.2 c6]
      rfl
     ·intro d y hd
      change (if d=M.next then some (RB.row (l++new) true jb fz') else if d=b then none else M.heap d)=some y at hd
      simp only[Tree.aU,Tree.nT,h.next]
      by_cases e1:d=M.next
      ·subst e1
       rw[if_pos rfl] at hd ⊢
       cases hd
       refine .inl ⟨_,rfl,by rw[List.length_append,c5,hnw,← Nat.add_mul],rfl,rfl,rfl,fun k v hk=>?_⟩
       rw[lC hget]
       by_cases hin:len * esz≤k∧k<len * esz + new.length
       ·rw[if_pos hin,if_pos (by rw[Nat.add_mul]; omega)]
        rw[List.getElem?_append_right (by omega),c5] at hk
        exact hk
       ·rw[if_neg hin]
        have hkl:k<l.length:=by
         have:=(List.getElem?_eq_some_iff.1 hk).1
         rw[List.length_append] at this; omega
        rw[List.getElem?_append_left hkl] at hk
        rw[← q5 k v hk]
        exact yQ (by rw[Nat.add_mul]; omega) (by omega)
      ·rw[if_neg e1] at hd ⊢
       by_cases e2:d=b
       ·subst e2; rw[if_pos rfl] at hd; cases hd
       ·rw[if_neg e2] at hd ⊢
        exact jm h d y hd
   ·cases e
 ·cases ha
theorem J7 {run:World→Result Value} {v:AV} (h:DoesM P ρ M w run v M') (hr:∀ v' w',run w=.ok v' w'→(execOp c o).run P w=.ok (.value v') w') (hk:K v M') :
  ∃ M' ρ' w',After P M ρ w M' ρ' w' ∧
  ((∃ v' v,(execOp c o).run P w=.ok (.value v') w'∧af ρ' v v'∧K v M')∨((execOp c o).run P w=.ok .skip w'∧K .undef M') ∨
    ∃ f args us,(execOp c o).run P w=.ok (.enter f ⟨us⟩) w'∧aD ρ' args us∧eP P f args M' K):=by
 obtain⟨ρ',w',v',h1,h2,h3⟩:=h
 exact⟨M',ρ',w',h2,.inl ⟨v',v,hr _ _ h1,h3,hk⟩⟩
theorem Ev (hw:bP P ρ M w) {b p:Nat} {i:eQ} {xs:List AV} {vs:List Value} (hb:ρ b=some i) (hv:aD ρ xs vs) (h:M.stores b p xs=some M') :
  ∃ w',(∀ off,off=i.sh + p→(storeCells ⟨i.cb,off,none⟩ vs).run P w=.ok () w')∧After P M ρ w M' ρ w':=by
 obtain⟨A,hA⟩:=hw
 obtain⟨A1,a1,a2,a3,a4,a5⟩:=RM.BL hA h
 obtain⟨w1,hrun,hw1,hstep,hnext⟩:=lF hA.rel hb hv a1
 exact⟨w1,hrun,iq hA hstep hw1 a2 a3 (by omega) a5⟩
theorem IY {x:AV} {M' : RM} {b p:Nat} (h:M.stores b p x.cells=some M') : ∀ (_:x=.top),False:=by
 intro e0
 unfold RM.stores at h
 split at h <;> first | (cases h; done) | skip
 split at h <;> first | (cases h; done) | skip
 rename_i hc
 rw[e0] at hc
 simp[AV.cells,oneCell] at hc
theorem Ke {t:TypeId} {a x:Operand} (hop:o.op=.store t a x) {n:Nat} (hs:aM P t=some n) {K:RM→Prop} (h:aO M (e a) (e x) n K) : jT P o e M (fun _ M'=>K M'):=by
 obtain⟨b,p,M',hea,hn,hst,hk⟩:=h
 intro ρ w c hw he
 have ha:af ρ (e a) (c a):=he a (by rw[hop]; simp[Op.operands])
 have hx:af ρ (e x) (c x):=he x (by rw[hop]; simp[Op.operands])
 rw[hea] at ha
 obtain⟨i,hb,hc⟩:=bZ ha
 have hcl:=hx.cells (IY hst)
 have hlen:=hcl.length
 simp only[Array.length_toList] at hlen
 obtain⟨w1,hrun,haft⟩:=Ev hw hb hcl hst
 refine⟨M',ρ,w1,haft,.inr (.inl ⟨?_,hk⟩)⟩
 simp only[execOp,hop,Instr.storeAt,Instr.sureAddr,hc,Sem.run_bind,Sem.run_pure,Result.andThen_ok,storeVar,bM hs]
 rw[if_neg (by omega)]
 rw[hrun _ rfl]
 rfl
theorem jT.mono (h:jT P o e M K) {K' : ai} (hk:∀ v M',K v M'→K' v M') : jT P o e M K':=by
 intro ρ w c hw he
 obtain⟨M',ρ',w',h1,h2⟩:=h ρ w c hw he
 refine⟨M',ρ',w',h1, ?_⟩
 rcases h2 with⟨v',v,a,b,d⟩ | ⟨a,b⟩ | ⟨f,args,us,a,b,d⟩
 ·exact .inl ⟨v',v,a,b,hk _ _ d⟩
 ·exact .inr (.inl ⟨a,hk _ _ b⟩)
 ·exact .inr (.inr ⟨f,args,us,a,b,d.mono hk⟩)
theorem Ko (hw:bP P ρ M w) {x:AV} {u:Value} {size k:Nat} {vs:List AV} (hx:af ρ x u) (h:firstM M size k x=some vs) : ∃ us,aD ρ vs us∧(Builtin.firstCells size k u).run P w=.ok ⟨us⟩ w:=by
 unfold firstM at h
 split at h <;> first | (cases h; done) | skip
 ·obtain⟨i,cp,hb,rfl⟩:=dX hx
  obtain⟨us,hr,hlen,_,hrun⟩:=RM.ja (P:=P) hw hb h
  exact⟨us,hr,by simp only[Builtin.firstCells]; exact hrun⟩
 ·rename_i s
  split at h <;> first | (cases h; done) | skip
  cases h
  obtain⟨rfl,_⟩:=az hx
  have hr:aD ρ ((s.data.toList.take k).map fun b=>AV.sc (.int .u8 b.toNat)) ((s.data.toList.take k).map fun b=>Value.int .u8 b.toNat):=by
   generalize s.data.toList.take k=l
   induction l with
   | nil=>exact .nil
   | cons b l ih=>exact .cons _ _ _ _ (.sc _ rfl) ih
  refine⟨_,hr, ?_⟩
  simp only[Builtin.firstCells,Sem.run_pure]
  congr 1
  apply Array.ext'
  simp[ByteArray.data_extract]
theorem LX {t elem:TypeId} {d x:Operand} {ts:Array TypeId} (hop:o.op=.call { callee:=.builtin .copy,args:=⟨[d,x]⟩,argTypes:=ts }) (ht:ts[0]?=some t) (hu:P.underlying t=some (.slice elem))
  {size:Nat} (hs:aM P elem=some size) {v:AV} (h:KF size (e d) (e x) M=some (v,M')) (hk:K v M') : jT P o e M K:=by
 intro ρ w c hw he
 have hd:af ρ (e d) (c d):=he d (by rw[hop]; simp[Op.operands,Call.operands])
 have hx:af ρ (e x) (c x):=he x (by rw[hop]; simp[Op.operands,Call.operands])
 have key:∀ {dA:Option Addr} {dl dc sn:Nat} {us:List Value} {w1:World},c d=.slice dA dl dc→(Builtin.lenOf (c x)).run P w=.ok sn w→(Builtin.firstCells size (Nat.min sn dl) (c x)).run P w=.ok ⟨us⟩ w →
   (match dA with | some a=>(storeCells a us).run P w=.ok () w1 | none=>w1=w)→(execOp c o).run P w=.ok (.value (.int .i64 (Nat.min sn dl:Nat))) w1:=by
  intro dA dl dc sn us w1 hcd hl hf hst
  have:(Builtin.copy_ ts o.type #[c d,c x]).run P w=.ok (.int .i64 (Nat.min sn dl:Nat)) w1:=by
   simp only[Builtin.copy_,ht,List.getElem?_toArray,List.getElem?_cons_zero,List.getElem?_cons_succ,Sem.run_bind,run_underlying hu,Result.andThen_ok,hcd,hl,bM hs,hf]
   cases dA with
   | none=>simp only at hst; subst hst; rfl
   | some a=>simp only at hst; simp only[Sem.run_bind,hst,Result.andThen_ok,Sem.run_pure,goInt]
  simp only[execOp,hop,resolve,invoke,builtin,Sem.run_bind,Sem.run_pure,Result.andThen_ok]
  rw[show(Array.map c ⟨[d,x]⟩) = #[c d,c x] by simp,this]
  rfl
 unfold KF at h
 split at h <;> first | (cases h; done) | skip
 ·rename_i b p dn cap hed
  rw[hed] at hd
  obtain⟨i,cp,hb,hcd⟩:=dX hd
  split at h <;> first | (cases h; done) | skip
  rename_i sn hsn
  have hl:=nY (P:=P) hx hsn w
  split at h
  ·rename_i hm
   cases h
   refine⟨M,ρ,w,After.refl hw,.inl ⟨_,_,key hcd hl (by rw[hm]; exact gY hx hsn w) (w1:=w) rfl, ?_,hk⟩⟩
   rw[hm]; exact .sc _ rfl
  ·split at h <;> first | (cases h; done) | skip
   rename_i vs hvs
   split at h <;> first | (cases h; done) | skip
   rename_i M1 hst
   cases h
   obtain⟨us,hr,hf⟩:=Ko hw hx hvs
   obtain⟨w1,hrun,haft⟩:=Ev hw hb hr hst
   exact⟨M',ρ,w1,haft,.inl ⟨_,_,key hcd hl hf (w1:=w1) (hrun _ rfl),.sc _ rfl,hk⟩⟩
 ·rename_i b hed
  rw[hed] at hd
  generalize hcd:c d=cd at hd
  cases hd with
  | emp _ ad cp =>
  split at h <;> first | (cases h; done) | skip
  rename_i sn hsn
  cases h
  have hl:=nY (P:=P) hx hsn w
  have hm:Nat.min sn 0=0:=Nat.min_zero _
  refine⟨M,ρ,w,After.refl hw,.inl ⟨_,_,key hcd hl (by rw[hm]; exact gY hx hsn w) (w1:=w) rfl, ?_,hk⟩⟩
  rw[hm]; exact .sc _ rfl
 ·rename_i hed
  rw[hed] at hd
  have hcd:=(az hd).1
  split at h <;> first | (cases h; done) | skip
  rename_i sn hsn
  cases h
  have hl:=nY (P:=P) hx hsn w
  have hm:Nat.min sn 0=0:=Nat.min_zero _
  refine⟨M,ρ,w,After.refl hw,.inl ⟨_,_,key hcd hl (by rw[hm]; exact gY hx hsn w) (w1:=w) rfl, ?_,hk⟩⟩
  rw[hm]; exact .sc _ rfl
theorem J6 {t elem:TypeId} {x:Operand} {ts:Array TypeId} (hop:o.op=.call { callee:=.builtin .clear,args:=⟨[x]⟩,argTypes:=ts }) (ht:ts[0]?=some t) (hu:P.underlying t=some (.slice elem))
  {size:Nat} {zs:List AV} (hs:aM P elem=some size) (hzs:gH P elem=some zs) (c1:1≤size) (c2:zs.length=size) (h:Nh zs (e x) M K) : jT P o e M K:=by
 intro ρ w c hw he
 have hx:af ρ (e x) (c x):=he x (by rw[hop]; simp[Op.operands,Call.operands])
 rcases h with⟨b,p,n,cap,M',hex,hst,hk⟩ | ⟨b,hex,hk⟩ | ⟨hex,hk⟩
 ·obtain⟨it,z,hi,hz,hr⟩:=gM (ρ:=ρ) hzs
  have hl:=hr.length
  simp only[Array.length_toList] at hl
  rw[hex] at hx
  obtain⟨i,cp,hb,hcx⟩:=dX hx
  have hrel:=uK hr (by omega) n
  rw[Cq] at hrel
  obtain⟨w1,hrun,haft⟩:=Ev hw hb hrel hst
  refine⟨M',ρ,w1,haft,.inl ⟨.tuple #[],.undef,oP (t:=t) hop ?_,.tup _ _ .nil,hk⟩⟩
  have hrun:=hrun _ rfl
  cases n with
  | zero =>
    have he:(Builtin.zeroCells z.cells 0).toList=[]:=by simp[Builtin.zeroCells]
    rw[he] at hrun
    simp only[storeCells,Sem.run_pure] at hrun
    cases hrun
    simp only[Builtin.clear_,ht,List.getElem?_toArray,List.getElem?_cons_zero,Sem.run_bind,run_underlying hu,Result.andThen_ok,hcx,Sem.run_pure]
  | succ n =>
    simp only[Builtin.clear_,ht,List.getElem?_toArray,List.getElem?_cons_zero,Sem.run_bind,run_underlying hu,Result.andThen_ok,hcx,zeroValue,typeInfo,run_program,hi,hz,Sem.run_pure,hrun]
 ·rw[hex] at hx
  generalize hcx:c x=cx at hx
  cases hx with
  | emp _ ad cp =>
  refine⟨M,ρ,w,After.refl hw,.inl ⟨.tuple #[],.undef,oP (t:=t) hop ?_,.tup _ _ .nil,hk⟩⟩
  simp only[Builtin.clear_,ht,List.getElem?_toArray,List.getElem?_cons_zero,Sem.run_bind,run_underlying hu,Result.andThen_ok,hcx,Sem.run_pure]
 ·rw[hex] at hx
  refine⟨M,ρ,w,After.refl hw,.inl ⟨.tuple #[],.undef,oP (t:=t) hop ?_,.tup _ _ .nil,hk⟩⟩
  simp only[Builtin.clear_,ht,List.getElem?_toArray,List.getElem?_cons_zero,Sem.run_bind,run_underlying hu,Result.andThen_ok,(az hx).1,Sem.run_pure]
theorem Pz:∀ {xs:List AV} {us vs:List Value},aD ρ xs vs→bS di xs=some us→vs=us
 | [],us,_,h,hu=>by simp[bS] at hu; subst hu; exact h.mH
 | x :: xs,us,_,.cons _ v _ vs a b,hu=>by
   simp only[bS] at hu
   split at hu
   ·rename_i y hy
    split at hu
    ·rename_i ys hys
     cases hu
     rw[jc a hy,Pz b hys]
    ·cases hu
   ·cases hu
theorem D7 {m:Nat} : ∀ {ks:List Nat} {cs ds:List AV} {us vs:List Value},aD ρ cs us→aD ρ ds vs→cs.length=ks.length→ds.length=ks.length→cK ks cs ds=some true→us.length=vs.length∧(vs.zip us).all (fun(x,y)=>Instr.sameBits m x y)=true
 | [],[],[],[],[],_,_,_,_,_=>⟨rfl,rfl⟩
 | [],_ :: _,_,_,_,_,_,h,_,_=>by simp at h
 | [],[],_ :: _,_,_,_,_,_,h,_=>by simp at h
 | _ :: _,[],_,_,_,_,_,h,_,_=>by simp at h
 | _ :: _,_ :: _,[],_,_,_,_,_,h,_=>by simp at h
 | k :: ks,x :: cs,y :: ds,_,_,.cons _ u _ us hx hc,.cons _ v _ vs hy hd,h1,h2,h=>by
   simp only[cK] at h
   split at h <;> first | (cases h; done) | skip
   rename_i hce
   obtain⟨i1,i2⟩:=D7 (m:=m) hc hd (by simpa using h1) (by simpa using h2) h
   refine⟨by simp[i1], ?_⟩
   rw[List.zip_cons_cons,List.all_cons,i2,Bool.and_true]
   unfold nD at hce
   split at hce <;> first | (cases hce; done) | skip
   ·split at hce <;> first | (cases hce; done) | skip
    rename_i e0
    subst e0
    rw[(az hx).1,(az hy).1]
    simp only[Option.some.injEq] at hce
    have hce:=eq_of_beq hce
    subst hce
    simp[Instr.sameBits]
   ·rw[(az hx).1,(az hy).1]
    simp only[Option.some.injEq] at hce
    simp only[Instr.sameBits]
    rw[bytes_beq,gK]
    have hce:=eq_of_beq hce
    rw[hce]; simp
   ·rw[(az hx).1,(az hy).1]
    simp only[Option.some.injEq] at hce
    have hce:=eq_of_beq hce
    subst hce
    simp[Instr.sameBits]
theorem NW {a:Bool} {ks:List Nat} {x y:AV} {xv yv:Value} {cs ds:List AV} (hx:fE a x=some cs) (hy:fE a y=some ds) (rx:af ρ x xv) (ry:af ρ y yv) (l1:cs.length=ks.length) (l2:ds.length=ks.length) (h:cK ks cs ds=some true) : Instr.sameBits 10000 yv xv=true:=by
 obtain⟨us,r1,h1,h1'⟩:=lc hx rx
 obtain⟨vs,r2,h2,h2'⟩:=lc hy ry
 cases a with
 | true =>
   rw[h1 rfl,h2 rfl]
   obtain⟨i1,i2⟩:=D7 (m:=9999) r1 r2 l1 l2 h
   show(_ && _)=true
   rw[Bool.and_eq_true]
   exact⟨by simp[i1],i2⟩
 | false =>
   have e1:=h1' rfl
   have e2:=h2' rfl
   subst e1 e2
   have:=(D7 (m:=10000) r1 r2 l1 l2 h).2
   simpa using this
theorem Cc {a:Bool} {ks:List Nat} {cs:List AV} : ∀ {es:List (AV × AV × Nat)} {fs:List MapEntry} {i j:Nat} {va:AV},bq ρ es fs→nz a ks cs es i=some (some (j,va))→∃ n f ka ds,j=i + n∧fs[n]?=some f∧af ρ ka f.key∧fE a ka=some ds∧ds.length=ks.length∧cK ks cs ds=some true
 | [],_,_,_,_,_,h=>by simp[nz] at h
 | _ :: _,[],_,_,_,h,_=>h.elim
 | (ka,v,n) :: es,f :: fs,i,j,va,⟨h1,h2,h3,h4⟩,h=>by
   simp only[nz] at h
   split at h <;> first | (cases h; done) | skip
   rename_i ds hds
   split at h <;> first | (cases h; done) | skip
   rename_i hdl
   split at h <;> first | (cases h; done) | skip
   ·rename_i hn
    simp only[Option.some.injEq,Prod.mk.injEq] at h
    obtain⟨rfl,rfl⟩:=h
    exact⟨0,f,ka,ds,rfl,rfl,h1,hds,hdl,hn⟩
   ·obtain⟨m,g,kb,d2,e1,e2,e3⟩:=Cc h4 h
    exact⟨m + 1,g,kb,d2,by omega,by simpa using e2,e3⟩
theorem Ic {k v:AV} {kv vv:Value} (hk:af ρ k kv) (hv:af ρ v vv) : ∀ {es:List (AV × AV × Nat)} {fs:List MapEntry} {i:Nat},bq ρ es fs→bq ρ (Gf k v es i) (fs.modify i fun e => { e with key:=kv,val:=vv })
 | [],[],_,_=>by simp[Gf]; trivial
 | [],_ :: _,_,h=>h.elim
 | _ :: _,[],_,h=>h.elim
 | (a,b,n) :: es,g :: fs,0,h=>⟨hk,hv,h.2.2.1,h.2.2.2⟩
 | (a,b,n) :: es,g :: fs,i + 1,h=>⟨h.1,h.2.1,h.2.2.1,Ic hk hv h.2.2.2⟩
theorem Fe:∀ {es:List (AV × AV × Nat)} {fs:List MapEntry} {i:Nat},bq ρ es fs→bq ρ (es.eraseIdx i) (fs.eraseIdx i)
 | [],[],_,_=>trivial
 | [],_ :: _,_,h=>h.elim
 | _ :: _,[],_,h=>h.elim
 | _ :: _,_ :: _,0,h=>h.2.2.2
 | (a,b,n) :: es,g :: fs,i + 1,h=>⟨h.1,h.2.1,h.2.2.1,Fe h.2.2.2⟩
theorem qc {r clock:Nat} {fs:Array MapEntry} (o:Obj) (h:w.heap[r]?=some (.map fs clock)) : (setObj r o).run P w=.ok () { w with heap:=w.heap.setIfInBounds r o } := by
 simp only[setObj,Sem.run,h]
theorem map_set (hA:oG P ρ M w A) {b:Nat} {i:eQ} {es es' : List (AV × AV × Nat)} {cl cl' : Nat} {fs fs' : Array MapEntry} (hb:ρ b=some i) (hg:M.heap b=some (.map es cl)) (hob:w.heap[i.cb]?=some (.map fs cl)) (he:bq ρ es' fs'.toList) :
  After P M ρ w (M.put b (.map es' cl')) ρ { w with heap:=w.heap.setIfInBounds i.cb (.map fs' cl') } := by
 rcases hA.blk b _ hg with⟨y,hy,hle⟩ | ⟨_,e0,_⟩
 ·obtain⟨q1,q2⟩:=jX hA.rel (x:=.map es' cl') hb hy (w' := { w with heap:=w.heap.setIfInBounds i.cb (.map fs' cl') }) rfl rfl rfl (by simp)
   (fun j hj=>by simp[Array.getElem?_setIfInBounds,Ne.symm hj]) (by
    have:=(Array.getElem?_eq_some_iff.1 hob).1
    simp[Array.getElem?_setIfInBounds,this]) ⟨fs',rfl,he⟩
  refine iq hA q2 q1 rfl hA.next (Nat.le_refl _) ?_
  intro d y hd
  simp only[RM.put] at hd
  simp only[Tree.aU]
  by_cases e2:d=b
  ·subst e2; rw[if_pos rfl] at hd ⊢; cases hd; exact .inl ⟨_,rfl,rfl,rfl⟩
  ·rw[if_neg e2] at hd ⊢; exact jm hA d y hd
 ·cases e0
theorem Cy (hA:oG P ρ M w A) {b:Nat} {i:eQ} {es:List (AV × AV × Nat)} {cl:Nat} (hb:ρ b=some i) (hg:M.heap b=some (.map es cl)) : ∃ fs:Array MapEntry,w.heap[i.cb]?=some (.map fs cl)∧bq ρ es fs.toList:=by
 rcases hA.blk b _ hg with⟨y,hy,hle⟩ | ⟨_,e0,_⟩
 ·cases y <;> first | exact hle.elim | skip
  obtain⟨rfl,rfl⟩:=hle
  obtain⟨ob,hob,fs,rfl,hfs⟩:=hA.rel.blk b i _ hb hy
  exact⟨fs,hob,hfs⟩
 ·cases e0
theorem I4 {t kt et:TypeId} {x:Operand} (hop:o.op=.range t x) (hu:P.underlying t=some (.map kt et)) (h:Jj (e x) M K) : jT P o e M K:=by
 obtain⟨m,es,cl,hx,hg,hk⟩:=h
 intro ρ w c hw he
 have hxr:af ρ (e x) (c x):=he x (by rw[hop]; simp[Op.operands])
 rw[hx] at hxr
 obtain⟨A,hA⟩:=hw
 generalize hcx:c x=cx at hxr
 cases hxr with
 | map _ i hb =>
 obtain⟨fs,hob,hfs⟩:=Cy hA hb hg
 have hnew:ρ A.next=none:=hA.rel.fresh (Nat.le_refl _)
 have hne:m≠A.next:=fun e=>by rw[e,hnew] at hb; cases hb
 obtain⟨q1,q2⟩:=zA hA.rel (Nat.le_trans (show M.base.n≤M.lo from Nat.le_refl _) hA.size) (x:=.iter (some m) cl [] cl) (ob:=.mapIter (some i.cb) cl #[] cl) (i:=⟨w.heap.size,0,0,0⟩) rfl
  ⟨rfl,some i.cb,rfl,i,by rw[Ren.add,if_neg hne]; exact hb,rfl⟩
 obtain⟨k1,k2,k3⟩:=RM.yP hA (x:=.iter (some m) cl [] cl) (y:=.iter (some m) cl [] cl) ⟨rfl,rfl,rfl,rfl⟩
 refine⟨M.push (.iter (some m) cl [] cl),ρ.add A.next ⟨w.heap.size,0,0,0⟩,_,iq hA q2 q1 k1 k2 (by simp[AW.push]) k3,.inl ⟨.pointer (some ⟨w.heap.size,0,none⟩),.ptr M.next 0, ?_, ?_,hk⟩⟩
 ·have hgo:=qf (P:=P) hob
  simp only[execOp,hop,hcx,Instr.range,Sem.run_bind,run_underlying hu,Result.andThen_ok,hgo]
  rfl
 ·have:=af.ptr (ρ:=ρ.add A.next ⟨w.heap.size,0,0,0⟩) M.next 0 ⟨w.heap.size,0,0,0⟩ (by rw[← hA.next]; simp[Ren.add])
  simpa using this
theorem CE {ρ:Ren} : ∀ {es:List (AV × AV × Nat)} {fs:List MapEntry},bq ρ es fs→∀ f∈fs,∃ n∈es,af ρ n.1 f.key∧af ρ n.2.1 f.val∧f.born=n.2.2
 | [],[],_,f,hf=>by cases hf
 | (k,v,n) :: es,g :: fs,⟨a,b,c,d⟩,f,hf=>by
   rcases List.mem_cons.1 hf with rfl | hf
   ·exact⟨_,List.mem_cons_self ..,a,b,c⟩
   ·obtain⟨n,h1,h2⟩:=CE d f hf
    exact⟨n,List.mem_cons_of_mem _ h1,h2⟩
 | _ :: _,[],h,_,_=>h.elim
 | [],_ :: _,h,_,_=>h.elim
theorem wZ {ρ:Ren} : ∀ {es:List (AV × AV × Nat)} {fs:List MapEntry},bq ρ es fs→∀ n∈es,∃ f∈fs,f.born=n.2.2
 | [],[],_,f,hf=>by cases hf
 | (k,v,m) :: es,g :: fs,⟨a,b,c,d⟩,n,hn=>by
   rcases List.mem_cons.1 hn with rfl | hn
   ·exact⟨_,List.mem_cons_self ..,c⟩
   ·obtain⟨f,h1,h2⟩:=wZ d n hn
    exact⟨f,List.mem_cons_of_mem _ h1,h2⟩
 | _ :: _,[],h,_,_=>h.elim
 | [],_ :: _,h,_,_=>h.elim
theorem Iy (n:Nat) (hn:1≤n) (w:World) : ∃ k w1,k<n∧(choose (.mapNext n)).run P w=.ok k w1∧(w1=w∨w1=w.drew):=by
 by_cases h:n≤1
 ·refine⟨0,w,by omega, ?_,.inl rfl⟩
  have hf:Question.forced (.mapNext n)=true:=by simp[Question.forced,h]
  simp[choose,Sem.run,hf]
 ·have hf:Question.forced (.mapNext n)=false:=by simp only[Question.forced,decide_eq_false_iff_not]; exact h
  refine⟨(Question.mapNext n).cut (w.tape w.drawn (.mapNext n)),w.drew, ?_, ?_,.inr rfl⟩
  ·simp only[Question.cut]; exact Nat.mod_lt _ (by omega)
  ·simp only[choose,Sem.run,hf]; rfl
theorem Lg {it:Operand} (hop:o.op=.next it false) (h:MQ (e it) M K) : jT P o e M K:=by
 obtain⟨b,m,since,seen,stepped,es,cl,hx,hgb,hgm,hst,hall,hend⟩:=h
 intro ρ w c hw he
 have hxr:af ρ (e it) (c it):=he it (by rw[hop]; simp[Op.operands])
 rw[hx] at hxr
 obtain⟨i,hb,hcx⟩:=bZ hxr
 obtain⟨A,hA⟩:=hw
 rcases hA.blk b _ hgb with⟨y,hy,hle⟩ | ⟨_,e0,_⟩
 rotate_left
 ·cases e0
 cases y <;> first | exact hle.elim | skip
 obtain⟨rfl,rfl,rfl,rfl⟩:=hle
 obtain⟨ob,hob,hsh,m',rfl,j,hj,rfl⟩:=hA.rel.blk b i _ hb hy
 obtain⟨fs,TZ,hfs⟩:=Cy hA hj hgm
 rename_i since' seen' Bz
 have wK:c it=.pointer (some ⟨i.cb,0,none⟩):=by rw[hcx,hsh]
 have hget:(getObj i.cb).run P w=.ok (.mapIter (some j.cb) since' ⟨seen'⟩ Bz) w:=by simp[getObj,Sem.run,hob]
 have Lu:(getObj j.cb).run P w=.ok (.map fs cl) w:=by simp[getObj,Sem.run,TZ]
 have hguard:(!(⟨seen'⟩ : Array Nat).isEmpty && !fs.isEmpty && fs.all fun f=>decide (f.born ≥ Bz))=false:=by
  rcases hst with rfl | rfl | ⟨n,hn,hlt⟩
  ·rfl
  ·have:fs = #[]:=by
    cases hfl:fs.toList with
    | nil=>exact Array.toList_eq_nil_iff.1 hfl
    | cons f r=>rw[hfl] at hfs; exact hfs.elim
   subst this; simp
  ·obtain⟨f,hf,hfb⟩:=wZ hfs n hn
   rw[Bool.and_eq_false_iff]
   right
   rw[Array.all_eq_false]
   obtain⟨q,hq,rfl⟩:=List.getElem_of_mem hf
   refine⟨q,by simpa using hq, ?_⟩
   simp only[Array.getElem_toList] at hfb
   simp only[decide_eq_true_eq]
   omega
 obtain⟨left,hleft⟩ : ∃ left,left=fs.filter fun f=>!(⟨seen'⟩ : Array Nat).contains f.born:=⟨_,rfl⟩
 obtain⟨old,hold⟩ : ∃ old,old=left.filter fun f=>decide (f.born<since'):=⟨_,rfl⟩
 obtain⟨new,hnew⟩ : ∃ new,new=left.filter fun f=>decide (f.born ≥ since'):=⟨_,rfl⟩
 obtain⟨qH,JX⟩ : ∃ qH:Array (Option MapEntry),qH=(if old.isEmpty then #[none] else #[])++(old++new).map some:=⟨_,rfl⟩
 have hsize:1≤qH.size:=by
  rw[JX]
  by_cases h0:old.isEmpty
  ·simp[h0]
  ·have:0<old.size:=by
    rcases Nat.eq_zero_or_pos old.size with h | h
    ·rw[Array.isEmpty_iff_size_eq_zero] at h0; exact absurd h h0
    ·exact h
   simp[h0]; omega
 obtain⟨k,w1,hk,hch,hw1⟩:=Iy (P:=P) qH.size hsize w
 have hA1:oG P ρ M w1 A:=by
  rcases hw1 with rfl | rfl
  ·exact hA
  ·exact⟨hA.next,hA.rel.drew,hA.size,hA.blk,hA.old⟩
 have hs1:Step M.lo M.next ρ w ρ w1:=by
  rcases hw1 with rfl | rfl
  ·exact Step.refl _ _ _
  ·exact Step.drew
 have hh1:w1.heap=w.heap:=by rcases hw1 with rfl | rfl <;> rfl
 have hrun:∀ {R:Value→Sem Value},(Instr.next (c it) false o.type).run P w=(match qH[k]? with
   | some (some f)=>(setObj i.cb (.mapIter (some j.cb) since' ((⟨seen'⟩ : Array Nat).push f.born) cl)).run P w1 |>.andThen fun _ w2=>(.ok (.tuple #[.bool true,f.key,f.val]) w2:Result Value)
   | some none=>.ok (.tuple #[.bool false]) w1
   | none=>(stuck "Next: no such candidate" : Sem Value).run P w1):=by
  intro _
  simp only[Instr.next,wK,Sem.run_bind,hget,Result.andThen_ok,Lu]
  rw[hguard]
  simp only[Bool.false_eq_true,if_false]
  rw[← hleft,← hold,← hnew,← JX]
  simp only[Sem.run_bind,hch,Result.andThen_ok]
  rcases hck:qH[k]? with _ | (_ | f)
  ·rfl
  ·rfl
  ·simp only[Sem.run_bind,Sem.run_pure]
 have SB:∃ x,qH[k]?=some x∧(x=none∧old = #[]∨∃ f,x=some f∧f∈left):=by
  refine⟨qH[k],Array.getElem?_eq_getElem hk, ?_⟩
  have hm:qH[k]∈qH:=Array.getElem_mem hk
  generalize qH[k]=x at hm
  rw[JX,Array.mem_append] at hm
  rcases hm with hm | hm
  ·by_cases h0:old.isEmpty
   ·simp only[h0,if_true] at hm
    exact .inl ⟨by simpa using hm,Array.isEmpty_iff.1 h0⟩
   ·simp[h0] at hm
  ·obtain⟨f,hf,rfl⟩:=Array.mem_map.1 hm
   refine .inr ⟨f,rfl, ?_⟩
   rcases Array.mem_append.1 hf with hf | hf
   ·rw[hold] at hf; exact(Array.mem_filter.1 hf).1
   ·rw[hnew] at hf; exact(Array.mem_filter.1 hf).1
 have Pp:∀ f∈fs.toList,f∈left↔f.born ∉ seen':=fun f hf=>by
  rw[hleft,Array.mem_filter]
  constructor
  ·rintro⟨_,h⟩ hm
   simp[hm] at h
  ·intro h
   exact⟨Array.mem_def.2 hf,by simpa using h⟩
 obtain⟨x,hx1,hx2⟩:=SB
 rcases hx2 with⟨rfl,RH⟩ | ⟨f,rfl,hfl⟩
 ·refine⟨M,ρ,w1,⟨hs1,⟨A,hA1⟩,rfl,Nat.le_refl _⟩,.inl ⟨.tuple #[.bool false],.tup [Bo false], ?_,.tup _ _ (.cons _ _ _ _ (.sc _ rfl) .nil),hend fun n hn hns=>?_⟩⟩
  ·have:=hrun (R:=fun _=>pure (.bool true))
   rw[hx1] at this
   simp only[execOp,hop,Sem.run_bind,this,Result.andThen_ok,Sem.run_pure]
  ·obtain⟨f,hf,hfb⟩:=wZ hfs n hn
   rw[← hfb] at hns
   have h1:=(Pp f hf).2 hns
   rcases Nat.lt_or_ge f.born since' with h | h
   ·have:f∈old:=by rw[hold,Array.mem_filter]; exact⟨h1,by simpa using h⟩
    rw[RH] at this; simp at this
   ·rw[← hfb]; exact h
 ·have hff:f∈fs.toList:=by
   rw[hleft,Array.mem_filter] at hfl
   exact Array.mem_def.1 hfl.1
  have hns:=(Pp f hff).1 hfl
  obtain⟨n,hn,hnk,hnv,hnb⟩:=CE hfs f hff
  rw[hnb] at hns
  have hlt:=(Array.getElem?_eq_some_iff.1 hob).1
  obtain⟨q1,q2⟩:=jX hA1.rel (x:=.iter (some m) since' (seen'++[n.2.2]) cl) (ob:=.mapIter (some j.cb) since' ⟨seen'++[n.2.2]⟩ cl) hb hy (w' := { w1 with heap:=w1.heap.setIfInBounds i.cb (.mapIter (some j.cb) since' ⟨seen'++[n.2.2]⟩ cl) }) rfl rfl rfl (by simp)
   (fun q hq=>by simp[Array.getElem?_setIfInBounds,Ne.symm hq]) (by simp[Array.getElem?_setIfInBounds,hh1,hlt]) ⟨hsh,some j.cb,rfl,j,hj,rfl⟩
  have haf:=iq (M':=M.put b (.iter (some m) since' (seen'++[n.2.2]) cl)) hA1 q2 q1 rfl hA1.next (Nat.le_refl _) (by
   intro d y hd
   simp only[RM.put] at hd
   simp only[Tree.aU]
   by_cases e2:d=b
   ·subst e2; rw[if_pos rfl] at hd ⊢; cases hd; exact .inl ⟨_,rfl,rfl,rfl,rfl,rfl⟩
   ·rw[if_neg e2] at hd ⊢; exact jm hA1 d y hd)
  refine⟨M.put b (.iter (some m) since' (seen'++[n.2.2]) cl),ρ,_,⟨hs1.trans haf.step (Nat.le_refl _),haf.rel,haf.base,haf.next⟩,.inl ⟨.tuple #[.bool true,f.key,f.val],.tup [Bo true,n.1,n.2.1], ?_,.tup _ _ (.cons _ _ _ _ (.sc _ rfl) (.cons _ _ _ _ hnk (.cons _ _ _ _ hnv .nil))),hall n hn hns⟩⟩
  have:=hrun (R:=fun _=>pure (.bool true))
  rw[hx1] at this
  have UD:w1.heap[i.cb]?=some (.mapIter (some j.cb) since' ⟨seen'⟩ Bz):=by rw[hh1]; exact hob
  simp only[execOp,hop,Sem.run_bind,this,setObj,Sem.run,UD,Result.andThen_ok,Sem.run_pure]
  rw[hnb]
  simp
theorem IP {t kt et:TypeId} {m k x:Operand} (hop:o.op=.mapUpdate t m k x) (hu:P.underlying t=some (.map kt et)) {ks:List Nat} {a:Bool} (hf:gZ P 10 kt=some ks) (ha:bV P kt=some a) (h:Jl a ks M (e m) (e k) (e x) (K .undef)) : jT P o e M K:=by
 obtain⟨b,es,cl,kc,r,hem,hg,hkc,hl,hr,hk⟩:=h
 intro ρ w c hw he
 have hm:af ρ (e m) (c m):=he m (by rw[hop]; simp[Op.operands])
 have hkr:af ρ (e k) (c k):=he k (by rw[hop]; simp[Op.operands])
 have hx:af ρ (e x) (c x):=he x (by rw[hop]; simp[Op.operands])
 rw[hem] at hm
 generalize hcm:c m=um at hm
 cases hm with
 | map _ i hb =>
 obtain⟨A,hA⟩:=hw
 obtain⟨fs,hob,hfs⟩:=Cy hA hb hg
 obtain⟨r',hr1,hr2⟩:=tZ (w:=w) hf ha hkc hl hkr hfs hr
 have hck:=rY (em:=false) (w:=w) hf ha hkc hl hkr
 have hgo:=qf (P:=P) hob
 cases r with
 | some p =>
   obtain⟨j,va⟩:=p
   cases r' with
   | none=>exact hr2.elim
   | some q =>
     obtain⟨j',vv⟩:=q
     obtain⟨rfl,_⟩:=hr2
     obtain⟨n,f,ka,ds,hj,hfn,hka,hds,hdl,hfe⟩:=Cc hfs hr
     rw[Nat.zero_add] at hj
     subst hj
     have hfj:fs[j']?=some f:=by rw[← Array.getElem?_toList]; exact hfn
     have hsame:=NW hkc hds hkr hka hl hdl hfe
     refine⟨_,ρ,_,map_set hA (es':=Gf (e k) (e x) es j') (cl':=cl) (fs':=fs.modify j' fun e => { e with key:=c k,val:=c x }) hb hg hob (by rw[Array.toList_modify]; exact Ic hkr hx hfs),.inr (.inl ⟨?_,hk⟩)⟩
     simp only[execOp,hop,hcm,Instr.mapUpdate,Sem.run_bind,run_underlying hu,Result.andThen_ok,hgo,hck,hr1,hfj,Option.map_some,Option.getD_some,Instr.keyThatStays,hsame,if_true,Sem.run_pure,qc _ hob]
 | none =>
   cases r' with
   | some q=>exact hr2.elim
   | none =>
     refine⟨_,ρ,_,map_set hA (es':=es++[(e k,e x,cl)]) (cl':=cl + 1) (fs':=fs.push { key:=c k,val:=c x,born:=cl }) hb hg hob (by rw[Array.toList_push]; exact BC (f := { key:=c k,val:=c x,born:=cl }) hkr hx hfs),.inr (.inl ⟨?_,hk⟩)⟩
     simp only[execOp,hop,hcm,Instr.mapUpdate,Sem.run_bind,run_underlying hu,Result.andThen_ok,hgo,hck,hr1,Sem.run_pure,qc _ hob]
theorem Iu {t kt et:TypeId} {m k:Operand} {ts:Array TypeId} (hop:o.op=.call { callee:=.builtin .delete,args:=⟨[m,k]⟩,argTypes:=ts }) (ht:ts[0]?=some t) (hu:P.underlying t=some (.map kt et)) {ks:List Nat} {a:Bool} (hf:gZ P 10 kt=some ks) (ha:bV P kt=some a) (h:Jr a ks M (e m) (e k) K) : jT P o e M K:=by
 obtain⟨b,es,cl,kc,r,hem,hg,hkc,hl,hr,hk⟩:=h
 intro ρ w c hw he
 have hm:af ρ (e m) (c m):=he m (by rw[hop]; simp[Op.operands,Call.operands])
 have hkr:af ρ (e k) (c k):=he k (by rw[hop]; simp[Op.operands,Call.operands])
 rw[hem] at hm
 generalize hcm:c m=um at hm
 cases hm with
 | map _ i hb =>
 obtain⟨A,hA⟩:=hw
 obtain⟨fs,hob,hfs⟩:=Cy hA hb hg
 obtain⟨r',hr1,hr2⟩:=tZ (w:=w) hf ha hkc hl hkr hfs hr
 have hck:=rY (em:=fs.isEmpty) (w:=w) hf ha hkc hl hkr
 have hgo:=qf (P:=P) hob
 have p9:∀ {w' : World},(Builtin.delete_ ts o.type #[.map (some i.cb),c k]).run P w=.ok (.tuple #[]) w'→(execOp c o).run P w=.ok (.value (.tuple #[])) w':=fun {w'} hrun=>by
  simp only[execOp,hop,resolve,invoke,builtin,Sem.run_bind,Sem.run_pure,Result.andThen_ok,List.map_toArray,List.map_cons,List.map_nil,hcm,hrun]
 cases r with
 | some p =>
   obtain⟨j,va⟩:=p
   cases r' with
   | none=>exact hr2.elim
   | some q =>
     obtain⟨j',vv⟩:=q
     obtain⟨rfl,_⟩:=hr2
     obtain⟨n,f,ka,ds,hj,hfn,hka,hds,hdl,hfe⟩:=Cc hfs hr
     rw[Nat.zero_add] at hj
     subst hj
     refine⟨_,ρ,_,map_set hA (es':=es.eraseIdx j') (cl':=cl) (fs':=fs.eraseIdxIfInBounds j') hb hg hob (by rw[show(fs.eraseIdxIfInBounds j').toList=fs.toList.eraseIdx j' by simp]; exact Fe hfs),.inl ⟨_,.tup [],p9 ?_,.tup _ _ .nil,hk⟩⟩
     simp only[Builtin.delete_,ht,Sem.run_bind,run_underlying hu,Result.andThen_ok,hgo,hck,hr1,Sem.run_pure,qc _ hob,List.getElem?_toArray,List.getElem?_cons_zero,List.getElem?_cons_succ]
 | none =>
   cases r' with
   | some q=>exact hr2.elim
   | none =>
     refine⟨_,ρ,_,map_set hA (es':=es) (cl':=cl) (fs':=fs) hb hg hob hfs,.inl ⟨_,.tup [],p9 ?_,.tup _ _ .nil,hk⟩⟩
     simp only[Builtin.delete_,ht,Sem.run_bind,run_underlying hu,Result.andThen_ok,hgo,hck,hr1,Sem.run_pure,qc _ hob,List.getElem?_toArray,List.getElem?_cons_zero,List.getElem?_cons_succ]
theorem Bi (hP:De P) (he0:∀ g,e (.func g)=.fn (.func g) [] []) (h:gy P o e M K) : jT P o e M K:=by
 cases hop:o.op
 case store t a x =>
  simp only[gy,hop] at h
  split at h <;> first | (cases h; done) | skip
  rename_i n hs
  intro ρ w c hw he
  obtain⟨M',ρ',w',h1,h2⟩:=Ke hop hs h ρ w c hw he
  obtain⟨b,p,M1,hea,hn,hst,hk⟩:=h
  refine⟨M',ρ',w',h1, ?_⟩
  rcases h2 with⟨v',v,a1,b1,d1⟩ | ⟨a1,b1⟩ | ⟨f,args,us,a1,b1,d1⟩
  ·exfalso
   have hz:=a1
   simp only[execOp,hop,Sem.run_bind] at hz
   revert hz
   generalize (Instr.storeAt t (c a) (c x)).run P w=r
   cases r <;> simp[Result.andThen]
  ·exact .inr (.inl ⟨a1,b1⟩)
  ·exfalso
   have hz:=a1
   simp only[execOp,hop,Sem.run_bind] at hz
   revert hz
   generalize (Instr.storeAt t (c a) (c x)).run P w=r
   cases r <;> simp[Result.andThen]
 case mapUpdate t m k x =>
  simp only[gy,hop] at h
  split at h <;> first | (cases h; done) | skip
  rename_i kt et hu
  split at h <;> first | (cases h; done) | skip
  rename_i ks a hf ha
  exact IP hop hu hf ha h
 case range t x =>
  simp only[gy,hop] at h
  split at h <;> first | (cases h; done) | skip
  rename_i kt et hu
  exact I4 hop hu h
 case next it str =>
  cases str
  ·simp only[gy,hop] at h
   exact Lg hop h
  simp only[gy,hop] at h
  obtain⟨b,s,pos,hex,hg,hk⟩:=h
  intro ρ w c hw he
  have hx:af ρ (e it) (c it):=he it (by rw[hop]; simp[Op.operands])
  rw[hex] at hx
  obtain⟨i,hb,hcx⟩:=bZ hx
  obtain⟨A,hA⟩:=hw
  rcases hA.blk b _ hg with⟨y,hy,hle⟩ | ⟨_,e0,_⟩
  ·cases y <;> first | exact hle.elim | skip
   obtain⟨rfl,rfl⟩:=hle
   rename_i pos
   obtain⟨ob,hob,hsh,rfl⟩:=hA.rel.blk b i _ hb hy
   have hget:(getObj i.cb).run P w=.ok (.stringIter ⟨⟨s⟩⟩ pos) w:=by simp[getObj,Sem.run,hob]
   have wK:c it=.pointer (some ⟨i.cb,0,none⟩):=by rw[hcx,hsh]
   by_cases hlt:pos<s.length
   ·rw[if_pos hlt] at hk
    have hlt' : pos<(⟨⟨s⟩⟩ : ByteArray).size:=hlt
    obtain⟨q1,q2⟩:=jX hA.rel (x:=.gX ⟨⟨s⟩⟩ (pos + (Utf8.decode ⟨⟨s⟩⟩ pos).2)) hb hy (w' := { w with heap:=w.heap.setIfInBounds i.cb (.stringIter ⟨⟨s⟩⟩ (pos + (Utf8.decode ⟨⟨s⟩⟩ pos).2)) }) rfl rfl rfl (by simp)
     (fun j hj=>by simp[Array.getElem?_setIfInBounds,Ne.symm hj]) (by
      have:=(Array.getElem?_eq_some_iff.1 hob).1
      simp[Array.getElem?_setIfInBounds,this]) ⟨hsh,rfl⟩
    refine⟨M.put b (.gX s (pos + (Utf8.decode ⟨⟨s⟩⟩ pos).2)),ρ,_,iq hA q2 q1 rfl hA.next (Nat.le_refl _) ?_,.inl ⟨.tuple #[.bool true,.int .i64 pos,.int .i32 (Utf8.decode ⟨⟨s⟩⟩ pos).1],_, ?_,.tup _ _ (.cons _ _ _ _ (.sc _ rfl) (.cons _ _ _ _ (.sc _ rfl) (.cons _ _ _ _ (.sc _ rfl) .nil))),hk⟩⟩
    ·intro d y hd
     simp only[RM.put] at hd
     simp only[Tree.aU]
     by_cases e2:d=b
     ·subst e2; rw[if_pos rfl] at hd ⊢; cases hd; exact .inl ⟨_,rfl,rfl,rfl⟩
     ·rw[if_neg e2] at hd ⊢; exact jm hA d y hd
    ·simp only[execOp,hop,Instr.next,wK,Sem.run_bind,hget,Result.andThen_ok]
     rw[if_pos hlt']
     simp only[Sem.run_bind,setObj,Sem.run,hob,Result.andThen_ok,Sem.run_pure,goInt]
   ·rw[if_neg hlt] at hk
    have hlt' : ¬ pos<(⟨⟨s⟩⟩ : ByteArray).size:=hlt
    refine⟨M,ρ,w,After.refl ⟨A,hA⟩,.inl ⟨.tuple #[.bool false],_, ?_,.tup _ _ (.cons _ _ _ _ (.sc _ rfl) .nil),hk⟩⟩
    simp only[execOp,hop,Instr.next,wK,Sem.run_bind,hget,Result.andThen_ok]
    rw[if_neg hlt']
    rfl
  ·cases e0
 case convert src dst x =>
  simp only[gy,hop] at h
  split at h <;> first | (cases h; done) | skip
  rename_i el hsd hu
  split at h <;> first | (cases h; done) | skip
  rename_i hel
  obtain⟨b,p,n,cp,l,elem,hex,hg,hk⟩:=h
  have hsd:=aN hsd
  subst hsd
  intro ρ w c hw he
  have hx:af ρ (e x) (c x):=he x (by rw[hop]; simp[Op.operands])
  obtain⟨A,hA⟩:=hw
  rcases hA.blk b _ hg with⟨y,hy,hle⟩ | ⟨_,e0,_⟩
  ·cases y <;> first | exact hle.elim | skip
   rename_i nn tree zs Ca jb fz'
   obtain⟨h1,rfl,rfl,rfl,h5⟩:=hle
   have hx':=hx
   rw[hex] at hx
   obtain⟨i,cp',hb,hcx⟩:=dX hx
   obtain⟨ob,hob,cc,fr,rfl,hrow⟩:=hA.rel.blk b i _ hb hy
   obtain⟨hf1,hf2⟩:=hrow.mark rfl rfl
   obtain⟨hq1,_⟩:=JH (P:=P) hob hf1 (e:=.slice (some ⟨i.cb,i.sh + p,none⟩) n cp') hu hel
   have hlt:=(Array.getElem?_eq_some_iff.1 hob).1
   obtain⟨q1,q2⟩:=jX hA.rel (x:=.row nn tree zs false jb (nn + 1)) (ob:=.cells cc jb (cc.size,cc.size + 1)) hb hy (w' := { w with heap:=w.heap.setIfInBounds i.cb (.cells cc jb (cc.size,cc.size + 1)) }) rfl rfl rfl (by simp)
    (fun j hj=>by simp[Array.getElem?_setIfInBounds,Ne.symm hj]) (by simp[Array.getElem?_setIfInBounds,hlt])
    ⟨cc,_,rfl,⟨hrow.size,hrow.val,fun k _ hk h2=>by omega,fun _ h0=>by omega,hrow.opn,hrow.sh0⟩⟩
   refine⟨M.put b (.row l false jb (l.length + 1)),ρ,_,iq hA q2 q1 rfl hA.next (Nat.le_refl _) ?_,.inl ⟨_,_,by simp only[execOp,hop,Sem.run_bind,hcx,hq1,Result.andThen_ok,Sem.run_pure],hcx▸hx',hk⟩⟩
   intro d y hd
   simp only[RM.put] at hd
   simp only[Tree.aU]
   by_cases e2:d=b
   ·subst e2; rw[if_pos rfl] at hd ⊢; cases hd; exact .inl ⟨_,rfl,h1,rfl,rfl,by rw[h1],h5⟩
   ·rw[if_neg e2] at hd ⊢; exact jm hA d y hd
  ·cases e0
 case call cl =>
  obtain⟨callee,args,ts⟩:=cl
  cases callee with
  | builtin b =>
    cases b
    case unsafeString =>
     simp only[gy,hop] at h
     split at h <;> first | (cases h; done) | skip
     rename_i t x n ht
     split at h <;> first | (cases h; done) | skip
     rename_i el hu
     split at h <;> first | (cases h; done) | skip
     rename_i hel hc1
     have hc1:=aN hc1
     intro ρ w c hw he
     obtain⟨A,hA⟩:=hw
     have hX:xB P ⟨[],[],[]⟩:=⟨hP.ng,fun f h=>(by cases h),fun f h=>(by cases h)⟩
     rcases h with⟨b,k,l,opn,fz,s,hex,hen,hk0,hg,hkl,hs,hk⟩ | ⟨hex,hen,hk⟩
     ·rcases hA.blk b _ hg with⟨y,hy,hle⟩ | ⟨_,e0,_⟩
      ·cases y <;> first | exact hle.elim | skip
       rename_i nn tree zs Ca jb fz'
       obtain⟨h1,rfl,rfl,rfl,h5⟩:=hle
       have hl:A.loads b 0 (k + 1)=some (l.take (k + 1)):=by
        unfold AW.loads
        rw[hy]
        simpa using wH h5 (k + 1) 0 (by omega)
       have hlies:liesAt P P.depth jb (nn / P.cellsOf jb) 0 jb (k + 1)=true:=Lib.liesAt_bytes hc1 _ _ (by rw[hc1,Nat.div_one]; omega)
       have heff:gW P ⟨[],[],[]⟩ o e A=some (.value (St s),{ A with heap:=A.heap.del b }):=by
        simp only[gW,hop,ht,hu,hel,hex,hen,eX,hy,hl,bytesOf,hs,hlies,aJ.2 hk0]
       obtain⟨ρ',w',q1,q2,q3,v',hrun,hv⟩:=iD hX hA.rel hA.size he heff
       refine⟨M.del b,ρ',w',iq hA q1 q2 rfl hA.next q3 fun d z hd=>?_,.inl ⟨v',_,hrun,hv,hk⟩⟩
       simp only[RM.del] at hd
       simp only[Tree.nT]
       by_cases e2:d=b
       ·rw[if_pos e2] at hd; cases hd
       ·rw[if_neg e2] at hd ⊢; exact jm hA d z hd
      ·cases e0
     ·have heff:gW P ⟨[],[],[]⟩ o e A=some (.value (St []),A):=by
       simp only[gW,hop,ht,hu,hel,hex,hen,eX]
      obtain⟨ρ',w',q1,q2,q3,v',hrun,hv⟩:=iD hX hA.rel hA.size he heff
      exact⟨M,ρ',w',iq hA q1 q2 rfl hA.next q3 fun d z hd=>jm hA d z hd,.inl ⟨v',_,hrun,hv,hk⟩⟩
    case append =>
     simp only[gy,hop] at h
     split at h <;> first | (cases h; done) | skip
     rename_i t s x ht
     split at h <;> first | (cases h; done) | skip
     rename_i elem zeros hu hz
     split at h <;> first | (cases h; done) | skip
     rename_i size bytes zs hs1 hb1 hz1
     split at h <;> first | (cases h; done) | skip
     rename_i c1 c2
     have c1:=aL c1; have c2:=aN c2
     obtain⟨n,new,hnew,c3,c4,v,M',hM,hk⟩:=h
     intro ρ w c hw he
     have hs:af ρ (e s) (c s):=he s (by rw[hop]; simp[Op.operands,Call.operands])
     have hx:af ρ (e x) (c x):=he x (by rw[hop]; simp[Op.operands,Call.operands])
     obtain⟨us,hn⟩:=OX (P:=P) hw hx hz1 c1 c2 hnew
     obtain⟨it,z,hi,hzz,hr⟩:=gM (ρ:=ρ) hz1
     have hl:=hr.length
     simp only[Array.length_toList] at hl
     obtain⟨A,hA⟩:=hw
     refine J7 (KN hA c1 hs hn (ty:=o.type) ht hu hz hi hzz (by simpa [aM,hi] using hs1) (by omega) (by simpa [qL,hi] using hb1) c3 c4 hM) (fun v' w' hr=>?_) hk
     simp only[execOp,hop,resolve,invoke,builtin,Sem.run_bind,Sem.run_pure,Result.andThen_ok]
     rw[show(Array.map c ⟨[s,x]⟩) = #[c s,c x] by simp,hr]
     rfl
    case copy =>
     simp only[gy,hop] at h
     split at h <;> first | (cases h; done) | skip
     rename_i t s x ht
     split at h <;> first | (cases h; done) | skip
     rename_i elem hu
     split at h <;> first | (cases h; done) | skip
     rename_i size hsz
     obtain⟨v,M',hM,hk⟩:=h
     exact LX hop ht hu hsz hM hk
    case delete =>
     simp only[gy,hop] at h
     split at h <;> first | (cases h; done) | skip
     rename_i t m k ht
     split at h <;> first | (cases h; done) | skip
     rename_i kt et hu
     split at h <;> first | (cases h; done) | skip
     rename_i ks a hf ha
     exact Iu hop ht hu hf ha h
    case clear =>
     simp only[gy,hop] at h
     split at h <;> first | (cases h; done) | skip
     rename_i t x ht
     split at h <;> first | (cases h; done) | skip
     rename_i elem hu
     split at h <;> first | (cases h; done) | skip
     rename_i size zs hs hzs
     split at h <;> first | (cases h; done) | skip
     rename_i c1 c2
     exact J6 hop ht hu hs hzs (aL c1) (aN c2) h
    all_goals (simp only[gy,hop] at h)
  | value f =>
    have hrun:∀ {c:Operand→Value} {w:World} {g:FuncId} {us vs:List Value},c f=.func (.func g) ⟨us⟩ ⟨vs⟩→(execOp c o).run P w=(callFunc g ⟨us++args.toList.map c++vs⟩).run P w:=by
     intro c w g us vs hcf
     simp only[execOp,hop,resolve,hcf,Deferred.ofValue,invoke,Sem.run_bind,Sem.run_pure,Result.andThen_ok]
     congr 2
     apply Array.ext'
     simp
    have ha:∀ {ρ:Ren} {c:Operand→Value},(∀ x∈o.op.operands,af ρ (e x) (c x))→∀ x∈args.toList,af ρ (e x) (c x):=fun he x hx=>he x (by rw[hop]; simp[Op.operands,Call.operands]; exact .inr (by simpa using hx))
    have gen:∀ (g:FuncId) (first cap:List AV),e f=.fn (.func g) first cap→eP P g (first++args.toList.map e++cap) M K→jT P o e M K:=by
     intro g first cap hef hcall ρ w c hw he
     have hf:af ρ (e f) (c f):=he f (by rw[hop]; simp[Op.operands,Call.operands])
     rw[hef] at hf
     generalize hcf:c f=cf at hf
     cases hf with
     | fn _ _ _ us vs hp hfi hca =>
     obtain⟨⟨fn,cd,hfn,hcd⟩,hall⟩:=hcall
     refine⟨M,ρ,w,After.refl hw,.inr (.inr ⟨g,_,us++args.toList.map c++vs, ?_,(hfi.append (aD.ou _ (ha he))).append hca,⟨⟨fn,cd,hfn,hcd⟩,hall⟩⟩)⟩
     rw[hrun hcf]
     exact Hr hfn (hP.ng _ _ hfn) hcd w
    cases f with
    | func g =>
      simp only[gy,hop] at h
      split at h <;> first | (cases h; done) | skip
      rename_i fn hfn
      split at h
      ·rename_i cd hcd
       exact gen g [] [] (he0 g) (by simpa using h)
      ·rename_i hcd
       have start:∀ {ρ:Ren} {w:World} {c:Operand→Value},(∀ x∈o.op.operands,af ρ (e x) (c x))→(execOp c o).run P w=(callFunc g ⟨args.toList.map c⟩).run P w:=by
        intro ρ w c he
        have hf:af ρ (e (.func g)) (c (.func g)):=he _ (by rw[hop]; simp[Op.operands,Call.operands])
        rw[he0] at hf
        generalize hcf:c (.func g)=cf at hf
        cases hf with
        | fn _ _ _ us vs hp hfi hca =>
        cases hfi.mH
        cases hca.mH
        rw[hrun hcf]
        simp only[List.nil_append,List.append_nil]
       rcases h with⟨v,hv,hk⟩ | ⟨⟨fn',t,elem,size,tr,g1,g2,g3,g4,g5,g6⟩,⟨ba,oa,na,ca,bb,ob,nb,cb,la,ea,fa,lb,opb,eb,fb,hargs,hne,hla,hlb,q1,q2,q3⟩,hk⟩ | ⟨⟨fn',g1,g2,g3,g4⟩,v,hargs,hk⟩ | ⟨v,NI,hk⟩ | ⟨v,M2,NI,hk⟩
       ·intro ρ w c hw he
        unfold CJ at hv
        rw[hfn] at hv
        simp only[hcd] at hv
        split at hv <;> first | (cases hv; done) | skip
        rename_i h1
        split at hv <;> first | (cases hv; done) | skip
        rename_i s ws h2 hws
        split at hv <;> first | (cases hv; done) | skip
        rename_i u hu
        split at hv <;> first | (cases hv; done) | skip
        rename_i y hy
        cases hv
        have hval:=Pz (aD.ou _ (ha he)) hws
        refine⟨M,ρ,w,After.refl hw,.inl ⟨u,v, ?_,fM hy,hk⟩⟩
        rw[start he,hval]
        exact wF hfn (hP.ng _ _ hfn) hcd h1 h2 (fun w=>dY hu w) w
       ·intro ρ w c hw he
        have hl:=aD.ou _ (ha he)
        rw[hargs] at hl
        obtain⟨A,hA⟩:=hw
        rcases hA.blk ba _ hla with⟨ya,hya,QD⟩ | ⟨_,e0,_⟩
        ·rcases hA.blk bb _ hlb with⟨yb,hyb,Q0⟩ | ⟨_,e0,_⟩
         ·cases ya <;> first | exact QD.elim | skip
          cases yb <;> first | exact Q0.elim | skip
          obtain⟨r1,rfl,rfl,rfl,r5⟩:=QD
          obtain⟨s1,rfl,rfl,rfl,s5⟩:=Q0
          have hov:oZ A [.slc ba oa na ca,.slc bb ob nb cb]=some (.sc (.bool false)):=by
           simp only[oZ,zw hne,hya,hyb]
           subst q1
           rw[aJ.2 (by omega),aJ.2 (by omega)]
           rfl
          obtain⟨_,hr⟩:=yD (tr:=tr) hA.rel hl hov g5 g6
          refine⟨M,ρ,w,After.refl ⟨A,hA⟩,.inl ⟨.bool false,Bo false, ?_,.sc _ rfl,hk⟩⟩
          rw[start he]
          exact nC g1 (hP.ng _ _ g1) g2 g3 g4 hr
         ·cases e0
        ·cases e0
       ·intro ρ w c hw he
        have hl:=aD.ou _ (ha he)
        rw[hargs] at hl
        generalize hal:args.toList.map c=al at hl
        cases hl with
        | cons _ u _ us2 h1 hr =>
        cases hr
        refine⟨M,ρ,w,After.refl hw,.inl ⟨u,v, ?_,h1,hk⟩⟩
        rw[start he,hal]
        exact nC g1 (hP.ng _ _ g1) g2 g3 g4 rfl
       ·intro ρ w c hw he
        obtain⟨u,hrun,hv⟩:=NI ρ w _ (aD.ou _ (ha he)) hw
        exact⟨M,ρ,w,After.refl hw,.inl ⟨u,v,by rw[start he]; exact hrun,hv,hk⟩⟩
       ·intro ρ w c hw he
        obtain⟨ρ',w',u,hrun,haf,hv⟩:=NI ρ w _ (aD.ou _ (ha he)) hw
        exact⟨M2,ρ',w',haf,.inl ⟨u,v,by rw[start he]; exact hrun,hv,hk⟩⟩
    | tmp t => 
      simp only[gy,hop] at h
      obtain⟨g,first,cap,hef,hcall⟩:=h
      exact gen g first cap hef hcall
    | const v =>
      simp only[gy,hop] at h
      obtain⟨g,first,cap,hef,hcall⟩:=h
      exact gen g first cap hef hcall
    | global v =>
      simp only[gy,hop] at h
      obtain⟨g,first,cap,hef,hcall⟩:=h
      exact gen g first cap hef hcall
  | invoke r m=>simp only[gy,hop] at h
 all_goals (simp only[gy,hop] at h)
end
def Ho (nt:Nat) (T:Tree AV) (d:Option Tmp) (v:AV) (K:Tree AV→Prop) : Prop :=
 match d with
 | none=>K T
 | some d=>match Nat.ble (d + 1) nt with
   | true=>K (T.set d v)
   | false=>False
def dm (x:RB) (mk:Nat→AV) (M:RM) (K:ai) : Prop:=K (mk M.next) (M.push x)
def LP (P:Program) (o:Oper) (e:Operand→AV) (M:RM) (K:ai) : Prop :=
 match kindOf P o with
 | .pure | .read=>dz P o e M (fun v=>K v M)
 | .alloc=>l6 P o e (fun x mk=>dm x mk M K)
 | .lX=>gy P o e M K
def jZ {α:Type} (x:AV) (want:Bool) (f g:α→Prop) (k:α) : Prop :=
 match x with
 | .sc (.bool b)=>if b=want then f k else g k
 | .tup []=>g k
 | _=>False
def DZ (P:Program) (nt:Nat) (ops:Array Oper) : List Oper→Tree AV→RM→(Tree AV→RM→Prop)→Prop
 | [],T,M,K=>K T M
 | o :: rest,T,M,K=>match o.guard with
   | none=>LP P o (jw T) M (fun v M'=>Ho nt T o.dst v (fun T'=>DZ P nt ops rest T' M' K))
   | some (j,want)=>match (ops[j]?).bind (·.dst) with
     | none=>False
     | some d=>jZ ((T.get d).getD .top) want (LP P o (jw T) M) (fun k=>k .undef M) (fun v M'=>Ho nt T o.dst v (fun T'=>DZ P nt ops rest T' M' K))
section
variable {P:Program} {ρ:Ren} {M:RM} {w:World} {nt:Nat} {T:Tree AV} {a:Act}
theorem Ga (h:dV ρ nt T a) {d:Option Tmp} {v:AV} {v' : Value} {K:Tree AV→Prop} (hv:af ρ v v') (hp:Ho nt T d v K) : ∃ T',dV ρ nt T' (a.put d v')∧K T'∧∀ t,d≠some t→T'.get t=T.get t:=by
 cases d with
 | none=>exact⟨T,AL h hv rfl,hp,fun _ _=>rfl⟩
 | some d =>
   simp only[Ho] at hp
   split at hp
   ·rename_i hb
    exact⟨T.set d v,AL h hv (by simp only[Eo,hb]),hp,fun t ht=>by rw[Tree.aU,if_neg (fun e=>ht (by rw[e]))]⟩
   ·cases hp
theorem OM (hP:De P) {o:Oper} {e:Operand→AV} {K:ai} (he0:∀ g,e (.func g)=.fn (.func g) [] []) (h:LP P o e M K) : jT P o e M K:=by
 unfold LP at h
 have val:dz P o e M (fun v=>K v M)→jT P o e M K:=by
  intro h ρ w c hw he
  obtain⟨v,hg,hk⟩:=sZ h
  have hg:jg P o e M v:=by rcases hg with hg | ⟨_,hg⟩ <;> first | exact hg M | exact hg
  obtain⟨v',h1,h2⟩:=hg ρ w c M (RM.Sub.refl M) hw he
  exact⟨M,ρ,w,After.refl hw,.inl ⟨v',v,h1,h2,hk⟩⟩
 split at h
 ·exact val h
 ·exact val h
 ·obtain⟨x,mk,hm,hk⟩:=tK h
  intro ρ w c hw he
  obtain⟨ρ',w',u,h1,h2,h3⟩:=IE hw he hm
  exact⟨_,ρ',w',h2,.inl ⟨u,_,h1,h3,hk⟩⟩
 ·exact Bi hP he0 h
theorem JF {o:Oper} {e:Operand→AV} {K:ai} (h:jT P o e M K) (hw:bP P ρ M w) (he:∀ x∈o.op.operands,af ρ (e x) (a.eval x)) {K' : Act→World→Prop} {Q:Exit→Act→World→Prop}
  (hK:∀ v v' M' ρ' w',After P M ρ w M' ρ' w'→af ρ' v v'→K v M'→K' (a.put o.dst v') w') : o.wp P a w K' Q:=by
 obtain⟨M',ρ',w',haft,h2⟩:=h ρ w a.eval hw he
 rcases h2 with⟨v',v,h1,h3,hk⟩ | ⟨h1,hk⟩ | ⟨f,args,us,h1,h3,hb,hc⟩
 ·exact iN o h1 (hK _ _ _ _ _ haft h3 hk)
 ·exact Cf o h1 (hK _ _ _ _ _ haft (.tup _ _ .nil) hk)
 ·refine yU o h1 (hc ρ' w' us h3 haft.rel) fun e w'' hR=>?_
  obtain⟨v',v,M2,ρ2,rfl,k1,k2,k3⟩:=hR
  exact⟨v',rfl,hK _ _ _ _ _ (haft.trans k1) k2 k3⟩
theorem KW {α:Type} {x:AV} {u:Value} {want:Bool} {f g:α→Prop} {k:α} (h:jZ x want f g k) (hx:af ρ x u) : (u=.bool want∧f k)∨((∀ b,u=.bool b→b≠want)∧g k):=by
 unfold jZ at h
 split at h <;> first | (cases h; done) | skip
 ·obtain⟨rfl,_⟩:=az hx
  split at h
  ·rename_i e; subst e; exact .inl ⟨rfl,h⟩
  ·rename_i e; exact .inr ⟨fun b hb=>by cases hb; exact e,h⟩
 ·obtain⟨vs,rfl,hr⟩:=uR hx
  exact .inr ⟨fun b hb=>(by cases hb),h⟩
theorem vG (hP:De P) {ops:Array Oper} {Q:Exit→Act→World→Prop} {K:Tree AV→RM→Prop} {M0:RM} {ρ0:Ren} {w0:World} {T0:Tree AV}
  (hQ:∀ T' M' ρ' a' w',After P M0 ρ0 w0 M' ρ' w'→dV ρ' nt T' a'→K T' M'→(∀ t,(∀ o∈ops.toList,o.dst≠some t)→T'.get t=T0.get t)→Q .normal a' w') :
  ∀ (l:List Oper) (i:Nat) {ρ:Ren} {M:RM} {w:World} {T:Tree AV} {a:Act},ops.toList.drop i=l→dV ρ nt T a→After P M0 ρ0 w0 M ρ w→(∀ t,(∀ o∈ops.toList,o.dst≠some t)→T.get t=T0.get t)→DZ P nt ops l T M K →
    wpOps P ops Q (List.range' i l.length) a w
 | [],i,ρ,M,w,T,a,_,hA,hw,hkp,h=>hQ T M ρ a w hw hA h hkp
 | o :: rest,i,ρ,M,w,T,a,hl,hA,hw,hkp,h=>by
   have ho:ops[i]?=some o:=by
    have:ops.toList[i]?=some o:=by
     have h0:(ops.toList.drop i)[0]?=some o:=by rw[hl]; rfl
     rw[List.getElem?_drop] at h0; exact h0
    rw[← Array.getElem?_toList]; exact this
   have hom:o∈ops.toList:=by
    have h1:ops.toList[i]?=some o:=by rw[Array.getElem?_toList]; exact ho
    exact List.mem_of_getElem? h1
   have hl' : ops.toList.drop (i + 1)=rest:=by
    rw[← List.drop_drop (i:=1) (j:=i)] <;> rw[hl]; rfl
   rw[List.length_cons,List.range'_succ,wpOps_cons]
   unfold wpOp
   simp only[ho]
   simp only[DZ] at h
   have he:∀ x∈o.op.operands,af ρ (jw T x) (a.eval x):=fun x _=>sP hA x
   have next:LP P o (jw T) M (fun v M'=>Ho nt T o.dst v (fun T'=>DZ P nt ops rest T' M' K))→o.wp P a w (wpOps P ops Q (List.range' (i + 1) rest.length)) Q:=by
    intro h
    refine JF (OM hP (fun _=>rfl) h) hw.rel he fun v v' M' ρ' w' haft hv hk=>?_
    obtain⟨T',hT,hk,hkt⟩:=Ga (hA.mono (haft.le hw.rel)) hv hk
    exact vG hP hQ rest (i + 1) hl' hT (hw.trans haft) (fun t ht=>by rw[hkt t (ht o hom),hkp t ht]) hk
   split at h
   ·rename_i hg
    have:Region.wanted o (yielded ops a.tmps)=true:=by simp[Region.wanted,hg]
    rw[this]
    exact .inl (next h)
   ·rename_i j want hg
    split at h <;> first | (cases h; done) | skip
    rename_i d hd
    have hyv:yielded ops a.tmps j=match a.tmps[d]? with | some (.bool b)=>some b | _=>none:=by
     unfold yielded; rw[hd]; rfl
    have hget:∀ t:Bool,a.tmps.getD d undef=.bool t↔a.tmps[d]?=some (.bool t):=by
     intro t
     rw[Array.getD_eq_getD_getElem?]
     cases hx:a.tmps[d]? with
     | none=>simp[undef]
     | some y=>simp
    rcases KW h (hA.val d) with⟨hu,hf⟩ | ⟨hn,hk⟩
    ·have:Region.wanted o (yielded ops a.tmps)=true:=by
      simp only[Region.wanted,hg,hyv,(hget want).1 hu]; simp
     rw[this]
     exact .inl (next hf)
    ·have:Region.wanted o (yielded ops a.tmps)=false:=by
      simp only[Region.wanted,hg,hyv]
      cases hx:a.tmps[d]? with
      | none=>rfl
      | some y =>
        cases y <;> try rfl
        rename_i b
        have:=hn b ((hget b).2 hx)
        simpa using this
     rw[this]
     simp only[Bool.false_eq_true,if_false]
     obtain⟨T',hT,hk,hkt⟩:=Ga (v':=undef) hA (.tup _ _ .nil) hk
     exact vG hP hQ rest (i + 1) hl' hT hw (fun t ht=>by rw[hkt t (ht o hom),hkp t ht]) hk
end
structure kP where
 vals:Tree AV
 M:RM
 aT:Tree (Option Nat)
abbrev KR:=AV→RM→Option Nat→Prop
def guardOf (ops:Array Oper) (wr:Tree Nat) (vals:Tree AV) (r:Row) : Option (Option (AV × Bool)) :=
 match r.o.guard with
 | none=>some none
 | some (j,want)=>match (ops[j]?).bind (·.dst) with
   | none=>none
   | some d=>match Nat.testBit r.m j,wr.get d with
     | true,some j'=>match Nat.beq j' j with
       | true=>some (some ((vals.get j).getD .top,want))
       | false=>none
     | _,_=>none
abbrev aa (x:AV) (want:Bool) (f g:ai→Prop) (k:ai) : Prop:=jZ x want f g k
abbrev dx (x:AV) (want:Bool) (f g:KR→Prop) (k:KR) : Prop:=jZ x want f g k
abbrev Mi (x:AV) (want:Bool) (f g:Prop→Prop) (k:Prop) : Prop:=jZ x want f g k
def qR {α:Type} (g:Option (Option (AV × Bool))) (f skip:α→Prop) (k:α) : Prop :=
 match g with
 | none=>False
 | some none=>f k
 | some (some (x,want))=>jZ x want f skip k
def OD (x:RB) (mk:Nat→AV) (M:RM) (k:KR) : Prop:=k (mk M.next) (M.push x) (some M.next)
def Pq (b:Option Nat) (M:RM) (x:RB) (mk:Nat→AV) (v:AV) : Prop :=
 match b with
 | some b=>M.heap b=some x∧mk b=v
 | none=>False
def QL (P:Program) (r:Row) (e:Operand→AV) (M:RM) (k:KR) : Prop :=
 match r.kd with
 | .pure | .read=>dz P r.o e M (fun v=>k v M none)
 | .alloc=>l6 P r.o e (fun x mk=>OD x mk M k)
 | .lX=>False
def zH (P:Program) (ops:Array Oper) (T0:Tree AV) (wr:Tree Nat) (lev:Nat) : List Row→kP→(kP→Prop)→Prop
 | [],s,K=>K s
 | r :: rest,s,K=>match Nat.beq r.lev lev && !gL r.kd with
   | false=>zH P ops T0 wr lev rest s K
   | true=>qR (guardOf ops wr s.vals r) (QL P r (fG T0 wr s.vals r.m) s.M) (fun k=>k .undef s.M none) (fun v M' b=>zH P ops T0 wr lev rest { vals:=s.vals.set r.i v,M:=M',aT:=s.aT.set r.i b } K)
def Ky (P:Program) (ops:Array Oper) (T0:Tree AV) (wr:Tree Nat) (r:Row) (s:kP) (K:Prop) : Prop :=
 match r.kd with
 | .read=>qR (guardOf ops wr s.vals r) (fun k=>dz P r.o (fG T0 wr s.vals r.m) s.M (fun v=>v=(s.vals.get r.i).getD .top∧k)) (fun k=>k) K
 | .alloc=>qR (guardOf ops wr s.vals r) (fun k=>l6 P r.o (fG T0 wr s.vals r.m) (fun x mk=>Pq ((s.aT.get r.i).getD none) s.M x mk ((s.vals.get r.i).getD .top)∧k)) (fun k=>k) K
 | _=>K
def Fx (P:Program) (ops:Array Oper) (T0:Tree AV) (ri:RI) (lev:Nat) : List Row→kP→Prop→Prop
 | [],_,K=>K
 | r :: rest,s,K=>match Nat.ble r.lev lev && !gL r.kd && ig ri.ms ri.es (lev + 1) r with
   | false=>Fx P ops T0 ri lev rest s K
   | true=>Ky P ops T0 ri.wr r s (Fx P ops T0 ri lev rest s K)
def oW (P:Program) (ops:Array Oper) (T0:Tree AV) (ri:RI) : Nat→List Nat→kP→(kP→Prop)→Prop
 | lev,[],s,K=>zH P ops T0 ri.wr lev ri.rows s K
 | lev,x :: rest,s,K=>zH P ops T0 ri.wr lev ri.rows s (fun s1=>match nth ri.rows x with
   | none=>False
   | some r=>qR (guardOf ops ri.wr s1.vals r) (gy P r.o (fG T0 ri.wr s1.vals r.m) s1.M) (fun k=>k .undef s1.M)
     (fun v M'=>Fx P ops T0 ri lev ri.rows { vals:=s1.vals.set x v,M:=M',aT:=s1.aT } (oW P ops T0 ri (lev + 1) rest { vals:=s1.vals.set x v,M:=M',aT:=s1.aT } K)))
def JY (P:Program) (nt:Nat) (ops:Array Oper) (T:Tree AV) (M:RM) (K:Tree AV→RM→Prop) : Prop :=
 match qm P nt ops with
 | none=>False
 | some ri=>match ri.rows.all (mr ri) with
   | false=>False
   | true=>oW P ops T ri 0 ri.es { vals:=.leaf,M,aT:=.leaf } (fun s=>K (ug T s.vals ri.rows) s.M)
def Jv (g:Option (AV × Bool)) : Prop:=match g with | none=>True | some (x,want)=>x=Bo want
def BM (g:Option (AV × Bool)) : Prop:=match g with | none=>False | some (x,want)=>x=.undef∨∃ b,x=Bo b∧b≠want
theorem mP {α:Type} {g:Option (Option (AV × Bool))} {f skip:α→Prop} {k:α} (h:qR g f skip k) : ∃ g',g=some g'∧((Jv g'∧f k)∨(BM g'∧skip k)):=by
 unfold qR at h
 split at h <;> first | (cases h; done) | skip
 ·exact⟨none,rfl,.inl ⟨trivial,h⟩⟩
 ·rename_i x want
  refine⟨_,rfl, ?_⟩
  unfold jZ at h
  split at h <;> first | (cases h; done) | skip
  ·split at h
   ·rename_i e; subst e; exact .inl ⟨rfl,h⟩
   ·rename_i b e; exact .inr ⟨.inr ⟨b,rfl,e⟩,h⟩
  ·exact .inr ⟨.inl rfl,h⟩
section
variable {P:Program} {nt:Nat} {ops:Array Oper} {ri:RI} {T0:Tree AV}
def mU (P:Program) (ops:Array Oper) (T0:Tree AV) (wr:Tree Nat) (s:kP) (r:Row) : Prop :=
 ∃ g,guardOf ops wr s.vals r=some g∧((Jv g∧∃ v,s.vals.get r.i=some v∧match r.kd with
   | .pure=>∀ M,jg P r.o (fG T0 wr s.vals r.m) M v
   | .read=>jg P r.o (fG T0 wr s.vals r.m) s.M v
   | .alloc=>∃ x mk b,zS P r.o (fG T0 wr s.vals r.m) x mk∧s.aT.get r.i=some (some b)∧s.M.heap b=some x∧mk b=v
   | .lX=>False)∨(BM g∧s.vals.get r.i=some .undef))
theorem jg.sub {o:Oper} {e:Operand→AV} {M M' : RM} {v:AV} (h:jg P o e M v) (hs:M.Sub M') : jg P o e M' v :=
 fun ρ w c M2 h2 hw he=>h ρ w c M2 (hs.trans h2) hw he
theorem sj {vals Df:Tree AV} {wr:Tree Nat} {m:Nat} (h:∀ j,Nat.testBit m j=true→Df.get j=vals.get j) : fG T0 wr Df m=fG T0 wr vals m:=by
 funext x
 cases x with
 | tmp t =>
   simp only[fG]
   cases hw:wr.get t with
   | none=>rfl
   | some j =>
     simp only
     cases hb:Nat.testBit m j with
     | false=>rfl
     | true=>simp only[h j hb]
 | const v=>rfl
 | global g=>rfl
 | func f=>rfl
theorem kT {vals Df:Tree AV} {wr:Tree Nat} {r:Row} (h:∀ j,Nat.testBit r.m j=true→Df.get j=vals.get j) : guardOf ops wr Df r=guardOf ops wr vals r:=by
 unfold guardOf
 split
 ·rfl
 ·rename_i j want hg
  split
  ·rfl
  ·split
   ·rename_i hb _
    simp only[h j hb]
   ·rfl
theorem mU.keep {wr:Tree Nat} {s s' : kP} {r:Row} (h:mU P ops T0 wr s r) (hv:∀ j,Nat.testBit r.m j=true∨j=r.i→s'.vals.get j=s.vals.get j) (hb:s'.aT.get r.i=s.aT.get r.i) (hs:s.M.Sub s'.M) : mU P ops T0 wr s' r:=by
 obtain⟨g,hg,h⟩:=h
 have hi:=hv r.i (.inr rfl)
 have he:fG T0 wr s'.vals r.m=fG T0 wr s.vals r.m:=sj fun j hj=>hv j (.inl hj)
 refine⟨g,by rw[← hg]; exact kT fun j hj=>hv j (.inl hj), ?_⟩
 rcases h with⟨hon,v,hvi,hk⟩ | ⟨hoff,hvi⟩
 ·refine .inl ⟨hon,v,by rw[hi]; exact hvi, ?_⟩
  rw[he]
  cases hkd:r.kd with
  | pure=>rw[hkd] at hk; exact hk
  | read=>rw[hkd] at hk; exact hk.sub hs
  | alloc =>
    rw[hkd] at hk
    obtain⟨x,mk,b,h1,h2,h3,h4⟩:=hk
    exact⟨x,mk,b,h1,by rw[hb]; exact h2,hs.2 _ _ h3,h4⟩
  | lX=>rw[hkd] at hk; exact hk
 ·exact .inr ⟨hoff,by rw[hi]; exact hvi⟩
def Fr (M:RM) : Prop:=∀ b,M.next≤b→M.heap b=none
theorem Fr.push {M:RM} (h:Fr M) (x:RB) : Fr (M.push x):=by
 intro b hb
 simp only[RM.push] at hb ⊢
 rw[if_neg (by omega)]
 exact h b (by omega)
theorem Fr.sub {M:RM} (h:Fr M) (x:RB) : M.Sub (M.push x):=by
 refine⟨rfl,fun b y hy=>?_⟩
 simp only[RM.push]
 split
 ·rename_i e; subst e; rw[h _ (Nat.le_refl _)] at hy; cases hy
 ·exact hy
theorem bP.fr {ρ:Ren} {M:RM} {w:World} (h:bP P ρ M w) : Fr M:=by
 intro b hb
 have hlo:=h.lo_le
 obtain⟨A,hA⟩:=h
 cases hx:M.heap b with
 | none=>rfl
 | some x =>
   rcases hA.blk b x hx with⟨y,hy,_⟩ | ⟨c,_,hlt,_⟩
   ·have:=hA.rel.top b y hy
    rw[hA.next] at this; omega
   ·omega
theorem DX {ρ:Ren} {M:RM} {w:World} {o:Oper} {e:Operand→AV} {x:RB} {mk:Nat→AV} (h:bP P ρ M w) (hm:zS P o e x mk) : bP P ρ (M.push x) w:=by
 obtain⟨y,_,hle⟩:=hm
 exact h.PN x y hle
structure KD (P:Program) (ops:Array Oper) (T0:Tree AV) (ri:RI) (lev:Nat) (i0:Nat) (s s' : kP) : Prop where
 keep:∀ j,(∀ r,ri.rows[j]?=some r→i0≤j→¬ (r.lev=lev∧gL r.kd=false))→s'.vals.get j=s.vals.get j∧s'.aT.get j=s.aT.get j
 done:∀ j r,ri.rows[j]?=some r→i0≤j→r.lev=lev→gL r.kd=false→mU P ops T0 ri.wr s' r
 sub:s.M.Sub s'.M
 fr:Fr s'.M
 rel:∀ ρ w,bP P ρ s.M w→bP P ρ s'.M w
 next:s.M.next≤s'.M.next
 aT:∀ j b,s'.aT.get j=some (some b)→s.aT.get j=some (some b)∨(s.M.next≤b∧b<s'.M.next∧i0≤j∧∃ r,ri.rows[j]?=some r)
 r9:∀ j1 j2 b,s'.aT.get j1=some (some b)→s'.aT.get j2=some (some b)→s.M.next≤b→j1=j2
theorem sH (ht:jq P nt ops ri) {lev:Nat} {K:kP→Prop} : ∀ (rows:List Row) (i0:Nat) (s:kP),ri.rows.drop i0=rows→Fr s.M→(∀ j b,s.aT.get j=some (some b)→b<s.M.next)→zH P ops T0 ri.wr lev rows s K→∃ s',K s'∧KD P ops T0 ri lev i0 s s'
 | [],i0,s,hd,hf,hbd,h=>by
   refine⟨s,h,fun _ _=>⟨rfl,rfl⟩,fun j r hr hj=>?_,RM.Sub.refl _,hf,fun _ _ h=>h,Nat.le_refl _,fun j b hb=>.inl hb,fun j1 j2 b h1 _ hb=>absurd (hbd j1 b h1) (by omega)⟩
   have hlen:ri.rows.length≤i0:=List.drop_eq_nil_iff.1 hd
   have:=(List.getElem?_eq_some_iff.1 hr).1
   omega
 | r :: rows,i0,s,hd,hf,hbd,h=>by
   have hri:ri.rows[i0]?=some r:=by
    have h0:(ri.rows.drop i0)[0]?=some r:=by rw[hd]; rfl
    rw[List.getElem?_drop] at h0; exact h0
   have hd' : ri.rows.drop (i0 + 1)=rows:=by
    rw[← List.drop_drop (i:=1) (j:=i0)] <;> rw[hd]; rfl
   obtain⟨e1,e2,e3,e4,e5⟩:=ht.row hri
   simp only[zH] at h
   split at h
   ·rename_i hk
    obtain⟨s',hK,hp⟩:=sH ht rows (i0 + 1) s hd' hf hbd h
    have hne:¬ (r.lev=lev∧gL r.kd=false):=by
     rintro⟨a,b⟩
     rw[lU a,b] at hk
     cases hk
    refine⟨s',hK,fun j hj=>hp.keep j fun r' hr' hj'=>hj r' hr' (by omega),fun j r' hr' hj hl he=>?_,hp.sub,hp.fr,hp.rel,hp.next,fun j b hb=>(hp.aT j b hb).imp id fun⟨a,b,c,d⟩=>⟨a,b,by omega,d⟩,hp.r9⟩
    rcases Nat.lt_or_ge i0 j with hlt | hge
    ·exact hp.done j r' hr' hlt hl he
    ·have:j=i0:=by omega
     subst this
     rw[hri] at hr'; cases hr'
     exact absurd ⟨hl,he⟩ hne
   ·rename_i hk
    simp only[Bool.and_eq_true,Bool.not_eq_true'] at hk
    have pq:=aN hk.1
    obtain⟨g,hg,hcase⟩:=mP h
    -- whatever the row gives
    have fin:∀ (v:AV) (M' : RM) (b:Option Nat),s.M.Sub M'→Fr M'→s.M.next≤M'.next→(∀ ρ w,bP P ρ s.M w→bP P ρ M' w)→(∀ b',b=some b'→s.M.next≤b'∧b'<M'.next) →
      (∀ s2:kP,(∀ j,Nat.testBit r.m j=true→s2.vals.get j=s.vals.get j)→s2.vals.get r.i=some v→s2.aT.get r.i=some b→M'.Sub s2.M→mU P ops T0 ri.wr s2 r) →
      zH P ops T0 ri.wr lev rows { vals:=s.vals.set r.i v,M:=M',aT:=s.aT.set r.i b } K→∃ s',K s'∧KD P ops T0 ri lev i0 s s':=by
     intro v M' b hsub hfr hnx hrel hb hok h
     obtain⟨s',hK,hp⟩:=sH ht rows (i0 + 1) _ hd' hfr (fun j b' hj=>by
      rw[Tree.aU] at hj
      split at hj
      ·cases hj; exact(hb b' rfl).2
      ·exact Nat.lt_of_lt_of_le (hbd j b' hj) hnx) h
     have Gs:=hp.keep r.i (fun r' hr' hj'=>by omega)
     simp only[Tree.aU,if_true] at Gs
     refine⟨s',hK,fun j hj=>?_,fun j r' hr' hj hl he=>?_,hsub.trans hp.sub,hp.fr,fun ρ w h=>hp.rel ρ w (hrel ρ w h),Nat.le_trans hnx hp.next,fun j b' hb'=>?_,fun j1 j2 b' h1 h2 hb'=>?_⟩
     ·have hji:j≠r.i:=fun e=>hj r (by rw[e,e1]; exact hri) (by omega) ⟨pq,hk.2⟩
      obtain⟨k1,k2⟩:=hp.keep j fun r' hr' hj'=>hj r' hr' (by omega)
      simp only[Tree.aU,if_neg hji] at k1 k2
      exact⟨k1,k2⟩
     ·rcases Nat.lt_or_ge i0 j with hlt | hge
      ·exact hp.done j r' hr' hlt hl he
      ·have:j=i0:=by omega
       subst this
       rw[hri] at hr'; cases hr'
       refine hok s' (fun q hq=>?_) Gs.1 Gs.2 hp.sub
       have hqlt:q<j:=by
        have hc:Closed ops.toList (fun i=>i<j):=fun i o ho hi e he' hb'=>by have:=ht.qi i o ho e he' hb'; omega
        exact ht.ahead hc hri (fun e he' hb'=>ht.qi j r.o e2 e he' hb') hq
       have hqi:q≠r.i:=by omega
       have:=(hp.keep q fun r' hr' hj'=>by omega).1
       rw[this]
       simp only[Tree.aU,if_neg hqi]
     ·rcases hp.aT j b' hb' with k | ⟨k1,k2,k3,k4⟩
      ·simp only[Tree.aU] at k
       split at k
       ·rename_i e
        cases k
        obtain⟨q1,q2⟩:=hb b' rfl
        exact .inr ⟨q1,Nat.lt_of_lt_of_le q2 hp.next,by omega,r,by rw[e,e1]; exact hri⟩
       ·exact .inl k
      ·simp only at k1
       exact .inr ⟨by omega,k2,by omega,k4⟩
     ·rcases Nat.lt_or_ge b' M'.next with hlt | hge
      ·have q:∀ j,s'.aT.get j=some (some b')→j=r.i:=by
        intro j hj
        rcases hp.aT j b' hj with k | ⟨k1,_⟩
        ·simp only[Tree.aU] at k
         split at k
         ·assumption
         ·have:=hbd j b' k; omega
        ·simp only at k1; omega
       rw[q j1 h1,q j2 h2]
      ·exact hp.r9 j1 j2 b' h1 h2 hge
    rcases hcase with⟨hon,hv⟩ | ⟨hoff,hv⟩
    ·unfold QL at hv
     have val:(r.kd=.pure∨r.kd=.read)→dz P r.o (fG T0 ri.wr s.vals r.m) s.M (fun v=>zH P ops T0 ri.wr lev rows { vals:=s.vals.set r.i v,M:=s.M,aT:=s.aT.set r.i none } K)→∃ s',K s'∧KD P ops T0 ri lev i0 s s':=by
      intro hkd hv
      obtain⟨v,hgv,hk2⟩:=sZ hv
      refine fin v s.M none (RM.Sub.refl _) hf (Nat.le_refl _) (fun _ _ h=>h) (fun b' h=>by cases h) (fun s2 q1 q2 q3 q4=>?_) hk2
      refine⟨g,by rw[← hg]; exact kT q1,.inl ⟨hon,v,q2, ?_⟩⟩
      rw[sj q1]
      rcases hkd with hkd | hkd
      ·rw[hkd]
       rcases hgv with hgv | ⟨hrd,_⟩
       ·exact hgv
       ·rw[← e5,hkd] at hrd; cases hrd
      ·rw[hkd]
       rcases hgv with hgv | ⟨_,hgv⟩
       ·exact hgv _
       ·exact hgv.sub q4
     split at hv
     ·exact val (.inl ‹_›) hv
     ·exact val (.inr ‹_›) hv
     ·rename_i hkd
      obtain⟨x,mk,hm,hk2⟩:=tK hv
      refine fin (mk s.M.next) (s.M.push x) (some s.M.next) (hf.sub x) (hf.push x) (by simp[RM.push]) (fun ρ w h=>DX h hm) (fun b' h=>by cases h; simp[RM.push]) (fun s2 q1 q2 q3 q4=>?_) hk2
      refine⟨g,by rw[← hg]; exact kT q1,.inl ⟨hon,_,q2, ?_⟩⟩
      rw[sj q1,hkd]
      exact⟨x,mk,s.M.next,hm,q3,q4.2 _ _ (by simp[RM.push]),rfl⟩
     ·cases hv
    ·refine fin .undef s.M none (RM.Sub.refl _) hf (Nat.le_refl _) (fun _ _ h=>h) (fun b' h=>by cases h) (fun s2 q1 q2 q3 q4=>?_) hv
     exact⟨g,by rw[← hg]; exact kT q1,.inr ⟨hoff,q2⟩⟩
end
section
variable {P:Program} {nt:Nat} {ops:Array Oper} {ri:RI} {T0:Tree AV}
theorem J5 {wr:Tree Nat} {r:Row} {s s0:kP} {K:Prop} (h:Ky P ops T0 wr r s K) (hold:mU P ops T0 wr s0 r) (hv:∀ j,Nat.testBit r.m j=true∨j=r.i→s.vals.get j=s0.vals.get j) (hb:s.aT.get r.i=s0.aT.get r.i) :
  K∧mU P ops T0 wr s r:=by
 obtain⟨g,hg,hold⟩:=hold
 have hi:=hv r.i (.inr rfl)
 have he:fG T0 wr s.vals r.m=fG T0 wr s0.vals r.m:=sj fun j hj=>hv j (.inl hj)
 have hg' : guardOf ops wr s.vals r=some g:=by rw[← hg]; exact kT fun j hj=>hv j (.inl hj)
 have F4:BM g→Jv g→False:=by
  intro h1 h2
  unfold BM at h1
  unfold Jv at h2
  split at h1
  ·exact h1
  ·simp only at h2
   rcases h1 with h1 | ⟨b,h1,h3⟩
   ·rw[h2] at h1; cases h1
   ·rw[h2] at h1; cases h1; exact h3 rfl
 have Li:∀ {K'},K'→BM g∧s0.vals.get r.i=some .undef→K'∧mU P ops T0 wr s r:=fun k h=>⟨k,g,hg',.inr ⟨h.1,by rw[hi]; exact h.2⟩⟩
 unfold Ky at h
 cases hkd:r.kd with
 | pure =>
   rw[hkd] at h
   refine⟨h,g,hg', ?_⟩
   rcases hold with⟨hon,v,hvi,hk⟩ | ⟨hoff,hvi⟩
   ·refine .inl ⟨hon,v,by rw[hi]; exact hvi, ?_⟩
    rw[hkd] at hk ⊢
    rw[he]; exact hk
   ·exact .inr ⟨hoff,by rw[hi]; exact hvi⟩
 | lX =>
   rcases hold with⟨hon,v,hvi,hk⟩ | ho
   ·rw[hkd] at hk; exact hk.elim
   ·rw[hkd] at h; exact Li h ho
 | read =>
   rw[hkd] at h
   obtain⟨g2,hg2,hcase⟩:=mP h
   rw[hg'] at hg2; cases hg2
   rcases hold with⟨hon,v,hvi,hk⟩ | ho
   ·rcases hcase with⟨_,hn⟩ | ⟨hoff,_⟩
    ·obtain⟨v',hgv,hv',hK⟩:=sZ hn
     have hgv:jg P r.o (fG T0 wr s.vals r.m) s.M v':=by rcases hgv with hgv | ⟨_,hgv⟩ <;> first | exact hgv _ | exact hgv
     rw[hi,hvi] at hv'
     simp only[Option.getD_some] at hv'
     subst hv'
     refine⟨hK,g,hg',.inl ⟨hon,v',by rw[hi]; exact hvi, ?_⟩⟩
     rw[hkd]; exact hgv
    ·exact(F4 hoff hon).elim
   ·rcases hcase with⟨hon,_⟩ | ⟨_,hK⟩
    ·exact(F4 ho.1 hon).elim
    ·exact Li hK ho
 | alloc =>
   rw[hkd] at h
   obtain⟨g2,hg2,hcase⟩:=mP h
   rw[hg'] at hg2; cases hg2
   rcases hold with⟨hon,v,hvi,hk⟩ | ho
   ·rcases hcase with⟨_,hn⟩ | ⟨hoff,_⟩
    ·obtain⟨x,mk,hm,hx,hK⟩:=tK hn
     rw[hkd] at hk
     obtain⟨x0,mk0,b,_,h2,_,_⟩:=hk
     rw[hb,h2] at hx
     simp only[Option.getD_some] at hx
     rw[hi,hvi] at hx
     simp only[Option.getD_some] at hx
     refine⟨hK,g,hg',.inl ⟨hon,v,by rw[hi]; exact hvi, ?_⟩⟩
     rw[hkd]
     exact⟨x,mk,b,hm,by rw[hb]; exact h2,hx.1,hx.2⟩
    ·exact(F4 hoff hon).elim
   ·rcases hcase with⟨hon,_⟩ | ⟨_,hK⟩
    ·exact(F4 ho.1 hon).elim
    ·exact Li hK ho
theorem BU {lev:Nat} {s s0:kP} {K:Prop} : ∀ (rows:List Row),Fx P ops T0 ri lev rows s K →
  (∀ r∈rows,gL r.kd=false→r.lev≤lev→ig ri.ms ri.es (lev + 1) r=true→mU P ops T0 ri.wr s0 r∧(∀ j,Nat.testBit r.m j=true∨j=r.i→s.vals.get j=s0.vals.get j)∧s.aT.get r.i=s0.aT.get r.i) →
  K∧∀ r∈rows,gL r.kd=false→r.lev≤lev→ig ri.ms ri.es (lev + 1) r=true→mU P ops T0 ri.wr s r
 | [],h,_=>⟨h,fun r hr=>by cases hr⟩
 | r :: rows,h,ho=>by
   simp only[Fx] at h
   split at h
   ·rename_i hc
    obtain⟨h1,h2⟩:=BU rows h fun r' hr'=>ho r' (.tail _ hr')
    refine⟨h1,fun r' hr' e1 e2 e3=>?_⟩
    rcases List.mem_cons.1 hr' with e | hr'
    ·subst e
     rw[aJ.2 e2,e1,e3] at hc
     cases hc
    ·exact h2 r' hr' e1 e2 e3
   ·rename_i hc
    simp only[Bool.and_eq_true,Bool.not_eq_true'] at hc
    obtain⟨⟨c1,c2⟩,c3⟩:=hc
    obtain⟨o1,o2,o3⟩:=ho r (.head _) c2 (aL c1) c3
    obtain⟨h1,h2⟩:=J5 h o1 o2 o3
    obtain⟨h3,h4⟩:=BU rows h1 fun r' hr'=>ho r' (.tail _ hr')
    refine⟨h3,fun r' hr' e1 e2 e3=>?_⟩
    rcases List.mem_cons.1 hr' with e | hr'
    ·subst e; exact h2
    ·exact h4 r' hr' e1 e2 e3
theorem P9 {ρ:Ren} {i:eQ} {x:RB} {y y' : dD} {ob:Obj} (h:qB x y) (h' : qB x y') (hb:gB P ρ i y ob) : gB P ρ i y' ob:=by
 cases x with
 | row l opn elem fz =>
   cases y <;> first | exact h.elim | skip
   cases y' <;> first | exact h'.elim | skip
   obtain⟨rfl,rfl,rfl,rfl,h5⟩:=h
   obtain⟨h1,rfl,rfl,rfl,h5'⟩:=h'
   subst h1
   obtain⟨c,fr,rfl,hr⟩:=hb
   refine⟨c,fr,rfl,hr.size,fun k u hk=>?_,hr.free,hr.mark,hr.opn,hr.sh0⟩
   have hlt:=sS hk
   have hv:l[k]?=some l[k]:=by simp[hlt]
   have e1:=h5' k _ hv
   rw[hk] at e1; cases e1
   exact hr.val k _ (h5 k _ hv)
 | ro c=>cases y <;> exact h.elim
 | map es c =>
   cases y <;> first | exact h.elim | skip
   cases y' <;> first | exact h'.elim | skip
   obtain⟨rfl,rfl⟩:=h
   obtain⟨rfl,rfl⟩:=h'
   exact hb
 | iter m a b c =>
   cases y <;> first | exact h.elim | skip
   cases y' <;> first | exact h'.elim | skip
   obtain⟨rfl,rfl,rfl,rfl⟩:=h
   obtain⟨rfl,rfl,rfl,rfl⟩:=h'
   exact hb
 | gX s p =>
   cases y <;> first | exact h.elim | skip
   cases y' <;> first | exact h'.elim | skip
   obtain⟨rfl,rfl⟩:=h
   obtain⟨rfl,rfl⟩:=h'
   exact hb
theorem MO {ρ:Ren} {M:RM} {w:World} {b:Nat} {x:RB} {y:dD} {ob:Obj} {i:eQ} (hw:bP P ρ M w) (hi:i.cb=w.heap.size) (hb:ρ b=none) (hlt:b<M.next) (hx:M.heap b=some x) (hle:qB x y)
  (hrel:gB P ρ i y ob) : bP P (ρ.add b i) M (w.alloc ob)∧Step M.lo b ρ w (ρ.add b i) (w.alloc ob):=by
 obtain⟨A,hA⟩:=hw
 rcases hA.blk b x hx with⟨y',hy',GN⟩ | ⟨c,rfl,_⟩
 ·obtain⟨h1,h2⟩:=Cg hA.rel hA.size hi hb (by rw[hA.next]; exact hlt) hy' ((P9 hle GN hrel).mono (Ren.mQ hb))
  have:=hA.size
  refine⟨⟨A,hA.next,h1,by simp; omega,fun c z hz=>?_,fun c hc=>?_⟩,h2⟩
  ·rcases hA.blk c z hz with k | ⟨d,rfl,hlt,elem,fr,hh⟩
   ·exact .inl k
   ·exact .inr ⟨d,rfl,hlt,elem,fr,by rw[heap_alloc_old w ob c (by omega)]; exact hh⟩
  ·unfold Ren.add
   rw[if_neg (fun e=>by subst e; rw[hA.old _ hc] at hb; cases hb)]
   exact hA.old c hc
 ·cases y <;> exact hle.elim
structure zO (P:Program) (nt:Nat) (ops:Array Oper) (ri:RI) (T0:Tree AV) (M0:RM) (ρ0:Ren) (w0:World) (k:Nat) (done rest:List Nat) (s:kP) (S:Nat→Prop) (ρ:Ren) (a:Act) (w:World) : Prop where
 es:ri.es=done++rest
 len:done.length=k
 closed:Closed ops.toList S
 dn:∀ x∈done,S x
 rs:∀ x∈rest,¬ S x
 lev:∀ (j:Nat) (r:Row),ri.rows[j]?=some r→gL r.kd=false→S j→r.lev≤k
 size:a.tmps.size=nt
 defers:a.defers=[]
 slot:AO ρ T0 ri.wr s.vals S a
 iU:bP P ρ s.M w
 step:Step M0.lo M0.next ρ0 w0 ρ w
 base:s.M.base=M0.base
 next:M0.next≤s.M.next
 bid:∀ j b,s.aT.get j=some (some b)→M0.next≤b∧b<s.M.next∧(¬ S j→ρ b=none)∧j<ops.size
 r9:∀ j1 j2 b,s.aT.get j1=some (some b)→s.aT.get j2=some (some b)→j1=j2
variable {M0:RM} {ρ0:Ren} {w0:World} {k:Nat} {done rest:List Nat} {s:kP} {S:Nat→Prop} {ρ:Ren} {a:Act} {w:World}
theorem MV (ht:jq P nt ops ri) (hI:zO P nt ops ri T0 M0 ρ0 w0 k done rest s S ρ a w) {i:Nat} {r:Row} (hr:ri.rows[i]?=some r) (hns:¬ S i) (hd:∀ e∈r.o.after.toList,Region.binds .any e=true→S e.on)
  (hok:mr ri r=true) : ∀ x∈r.o.op.operands,af ρ (fG T0 ri.wr s.vals r.m x) (a.eval x):=by
 intro x hx
 have hx' : zX ri r x=true:=by
  unfold mr at hok
  exact List.all_eq_true.1 hok x (by simpa using hx)
 cases x with
 | tmp t =>
   obtain⟨h1,h2⟩:=hI.slot t
   simp only[fG,Act.eval]
   simp only[zX] at hx'
   cases hw:ri.wr.get t with
   | none =>
     simp only
     exact h2 fun j hj=>by rw[hw] at hj; cases hj
   | some j =>
     rw[hw] at hx'
     simp only
     cases hb:Nat.testBit r.m j with
     | true =>
       simp only
       exact h1 j hw (ht.ahead hI.closed hr hd hb)
     | false =>
       simp only
       refine h2 fun j' hj'=>?_
       rw[hw] at hj'; cases hj'
       simp only[hb,Bool.false_or,Bool.or_eq_true] at hx'
       obtain⟨e1,_⟩:=ht.row hr
       rcases hx' with hx' | hx'
       ·rw[aN hx',e1]; exact hns
       ·intro hS
        rw[bG,e1] at hx'
        obtain⟨o,ho,_⟩:=ht.wrs t j hw
        exact hns (ht.uw hI.closed hS ho hx')
 | const v =>
   simp only[fG,jw,Act.eval]
   cases hv:gN v with
   | none=>exact .top _
   | some u=>exact fM hv
 | global g=>exact .top _
 | func f=>exact .fn _ _ _ _ _ rfl .nil .nil
theorem Dq (ht:jq P nt ops ri) (hI:zO P nt ops ri T0 M0 ρ0 w0 k done rest s S ρ a w) {i:Nat} {r:Row} (hr:ri.rows[i]?=some r) (hd:∀ e∈r.o.after.toList,Region.binds .any e=true→S e.on) {g:Option (AV × Bool)}
  (hg:guardOf ops ri.wr s.vals r=some g) : (Jv g→Region.wanted r.o (yielded ops a.tmps)=true)∧(BM g→Region.wanted r.o (yielded ops a.tmps)=false):=by
 unfold guardOf at hg
 unfold Region.wanted
 split at hg
 ·rename_i hgu; simp only[hgu]; cases hg
  exact⟨fun _=>trivial,fun h=>h.elim⟩
 ·rename_i j want hgu
  simp only[hgu]
  split at hg <;> first | (cases hg; done) | skip
  rename_i d hdst
  split at hg <;> first | (cases hg; done) | skip
  rename_i j' hb hwr
  split at hg <;> first | (cases hg; done) | skip
  rename_i he
  cases hg
  have he:=aN he
  subst he
  have hv:=(hI.slot d).1 j' hwr (ht.ahead hI.closed hr hd hb)
  have hyv:yielded ops a.tmps j'=match a.tmps[d]? with | some (.bool b)=>some b | _=>none:=by
   unfold yielded; rw[hdst]; rfl
  have hget:∀ t:Bool,a.tmps.getD d undef=.bool t↔a.tmps[d]?=some (.bool t):=by
   intro t
   rw[Array.getD_eq_getD_getElem?]
   cases hx:a.tmps[d]? with
   | none=>simp[undef]
   | some y=>simp
  have off:(∀ b,a.tmps.getD d undef=.bool b→b≠want)→(yielded ops a.tmps j' == some want)=false:=by
   intro hn
   rw[hyv]
   cases hx:a.tmps[d]? with
   | none=>rfl
   | some y =>
     cases y <;> try rfl
     rename_i b
     have:=hn b ((hget b).2 hx)
     simpa using this
  constructor
  ·intro hon
   simp only[Jv] at hon
   rw[hon] at hv
   have hc:=(az hv).1
   rw[hyv,(hget want).1 hc]; simp
  ·intro hoff
   simp only[BM] at hoff
   refine off fun b hb'=>?_
   rcases hoff with hu | ⟨b',hu,hne⟩
   ·rw[hu] at hv
    obtain⟨vs,hc,hrl⟩:=uR hv
    rw[hc] at hb'; cases hb'
   ·rw[hu] at hv
    rw[(az hv).1] at hb'; cases hb'; exact hne
def FR (P:Program) (ops:Array Oper) (T0:Tree AV) (ri:RI) (k:Nat) (s:kP) (K:kP→Prop) : List Nat→Prop
 | []=>K s
 | x :: rest=>∃ r,nth ri.rows x=some r∧qR (guardOf ops ri.wr s.vals r) (gy P r.o (fG T0 ri.wr s.vals r.m) s.M) (fun k=>k .undef s.M)
    (fun v M'=>Fx P ops T0 ri k ri.rows { vals:=s.vals.set x v,M:=M',aT:=s.aT } (oW P ops T0 ri (k + 1) rest { vals:=s.vals.set x v,M:=M',aT:=s.aT } K))
theorem Ba (ht:jq P nt ops ri) {K:kP→Prop} {es:List Nat} (hf:Fr s.M) (hbd:∀ j b,s.aT.get j=some (some b)→b<s.M.next) (h:oW P ops T0 ri k es s K) :
  ∃ s1,FR P ops T0 ri k s1 K es∧KD P ops T0 ri k 0 s s1:=by
 cases es with
 | nil =>
   rw[oW] at h
   exact sH ht ri.rows 0 s rfl hf hbd h
 | cons x rest =>
   rw[oW] at h
   obtain⟨s1,hk,hp⟩:=sH ht ri.rows 0 s rfl hf hbd h
   refine⟨s1, ?_,hp⟩
   split at hk
   ·cases hk
   ·rename_i r hr
    exact⟨r,hr,hk⟩
def QE (P:Program) (ops:Array Oper) (T0:Tree AV) (ri:RI) (k:Nat) (s:kP) : Prop:=∀ r∈ri.rows,gL r.kd=false→ig ri.ms ri.es k r=true→mU P ops T0 ri.wr s r
theorem xA {acc:List Nat} : ∀ (es:List Edge) (e:Edge),e∈es→Region.binds .any e=true→Nat.testBit (jD acc es) e.on=true∧∀ j,Nat.testBit ((nth acc e.on).getD 0) j=true→Nat.testBit (jD acc es) j=true
 | [],e,h,_=>by cases h
 | x :: es,e,h,hb=>by
   simp only[jD]
   rcases List.mem_cons.1 h with rfl | h
   ·rw[hb]
    simp only
    refine⟨?_,fun j hj=>?_⟩
    ·rw[Nat.testBit_or,Nat.testBit_or,Nat.testBit_two_pow]; simp
    ·rw[Nat.testBit_or,Nat.testBit_or,hj]; simp
   ·obtain⟨h1,h2⟩:=xA (acc:=acc) es e h hb
    split
    ·refine⟨?_,fun j hj=>?_⟩
     ·rw[Nat.testBit_or,h1]; simp
     ·rw[Nat.testBit_or,h2 j hj]; simp
    ·exact⟨h1,h2⟩
theorem Fv (ht:jq P nt ops ri) {q:Nat} {r:Row} (hq:ri.rows[q]?=some r) : ∃ pre,(∀ i,i<q→nth pre i=ri.ms[i]?)∧r.m=jD pre r.o.after.toList:=by
 obtain⟨g1,g2,g3,g4,g5⟩:=ht.row hq
 obtain⟨pre,h1,h2,h3⟩:=(rT ops.toList []).2 q r.o g2
 simp only[List.length_nil,Nat.zero_add] at h1 h2 h3
 refine⟨pre,fun i hi=>by rw[bG,h2 i hi,← ht.ms], ?_⟩
 rw[← ht.ms,g3] at h3
 exact Option.some.inj h3
theorem Dv (ht:jq P nt ops ri) {q:Nat} {r:Row} (hq:ri.rows[q]?=some r) {e:Edge} (he:e∈r.o.after.toList) (hb:Region.binds .any e=true) : Nat.testBit r.m e.on=true:=by
 obtain⟨pre,_,h2⟩:=Fv ht hq
 rw[h2]; exact(xA _ e he hb).1
theorem IQ (ht:jq P nt ops ri) : ∀ (q:Nat) {i:Nat} {r:Row} {o:Oper},ri.rows[q]?=some r→Nat.testBit r.m i=true→ops.toList[i]?=some o→∀ {e:Edge},e∈o.after.toList→Region.binds .any e=true→Nat.testBit r.m e.on=true:=by
 intro q
 induction q using Nat.strongRecOn with
 | _ q ih =>
   intro i r o hq hi ho e he hb
   obtain⟨g1,g2,g3,g4,g5⟩:=ht.row hq
   obtain⟨pre,h1,h2⟩:=Fv ht hq
   have hi':=hi
   rw[h2] at hi'
   obtain⟨e0,he0,hb0,hcase⟩:=qh _ hi'
   have hlt:=ht.qi q r.o g2 e0 he0 hb0
   obtain⟨r0,hr0,_⟩:=ht.ex (j:=e0.on) (o:=ops.toList[e0.on]'(by have:=(List.getElem?_eq_some_iff.1 g2).1; omega)) (by simp)
   obtain⟨k1,k2,k3,k4,k5⟩:=ht.row hr0
   have hsub:∀ j,Nat.testBit r0.m j=true→Nat.testBit r.m j=true:=by
    intro j hj
    rw[h2]
    refine(xA _ e0 he0 hb0).2 j ?_
    rw[h1 e0.on hlt,k3]; exact hj
   rcases hcase with rfl | ⟨m,hm,hmi⟩
   ·rw[k2] at ho; cases ho
    exact hsub _ (Dv ht hr0 he hb)
   ·rw[← bG,h1 e0.on hlt,k3] at hm
    cases hm
    exact hsub _ (ih e0.on hlt hr0 hmi ho he hb)
theorem wQ {m m' : Nat} (h:∀ x,Nat.testBit m x=true→Nat.testBit m' x=true) : ∀ (es:List Nat) (i0 b b' : Nat),b≤b'→b'≤i0→jh m es i0 b≤jh m' es i0 b'
 | [],i0,b,b',hb,_=>by simpa [jh] using hb
 | x :: es,i0,b,b',hb,hi=>by
   simp only[jh]
   cases hm:Nat.testBit m x with
   | true =>
     rw[h x hm]
     exact wQ h es (i0 + 1) _ _ (Nat.le_refl _) (Nat.le_refl _)
   | false =>
     cases hm' : Nat.testBit m' x with
     | true=>exact wQ h es (i0 + 1) b (i0 + 1) (by omega) (Nat.le_refl _)
     | false=>exact wQ h es (i0 + 1) b b' hb (by omega)
theorem OE (ht:jq P nt ops ri) {listed:Array Bool} (hsz:listed.size=ops.size) (hI:zO P nt ops ri T0 M0 ρ0 w0 k done rest s (dC listed) ρ a w) {i:Nat} {r:Row} (hi:i<ops.size) (hr:ri.rows[i]?=some r)
  (hd:∀ e∈r.o.after.toList,Region.binds .any e=true→dC listed e.on) (hk:gL r.kd=false) (pq:r.lev≤k) {v:AV} {v' : Value} {ρ' : Ren} {w' : World} (hvi:s.vals.get i=some v) (hv:af ρ' v v') (hle:ρ.le ρ')
  (hw:bP P ρ' s.M w') (hst:Step M0.lo M0.next ρ w ρ' w') (NN:∀ j b,s.aT.get j=some (some b)→¬ dC (listed.setIfInBounds i true) j→ρ' b=none) :
  zO P nt ops ri T0 M0 ρ0 w0 k done rest s (dC (listed.setIfInBounds i true)) ρ' (a.put r.o.dst v') w':=by
 have hS:∀ j,dC (listed.setIfInBounds i true) j↔dC listed j∨j=i:=mq (by omega)
 obtain⟨e1,e2,_⟩:=ht.row hr
 refine⟨hI.es,hI.len, ?_,fun x hx=>(hS x).2 (.inl (hI.dn x hx)), ?_, ?_, ?_, ?_, ?_,hw,hI.step.trans hst (Nat.le_refl _),hI.base,hI.next,fun j b hb=>⟨(hI.bid j b hb).1,(hI.bid j b hb).2.1,NN j b hb,(hI.bid j b hb).2.2.2⟩,hI.r9⟩
 ·intro j o ho hj e he hb
  rcases(hS j).1 hj with hj | rfl
  ·exact(hS _).2 (.inl (hI.closed j o ho hj e he hb))
  ·rw[e2] at ho; cases ho
   exact(hS _).2 (.inl (hd e he hb))
 ·intro x hx hl
  rcases(hS x).1 hl with hl | rfl
  ·exact hI.rs x hx hl
  ·have:x∈ri.es:=by rw[hI.es]; exact List.mem_append_right _ hx
   rw[ht.lX hr,hk] at this
   cases this
 ·intro j r' hr' hk' hj
  rcases(hS j).1 hj with hj | rfl
  ·exact hI.lev j r' hr' hk' hj
  ·rw[hr] at hr'; cases hr'; exact pq
 ·cases hdst:r.o.dst <;> simp[Act.put,hI.size]
 ·cases hdst:r.o.dst <;> simp[Act.put,hI.defers]
 ·exact wB ht (fun t=>⟨fun j h1 h2=>((hI.slot t).1 j h1 h2).mono hle,fun h=>((hI.slot t).2 h).mono hle⟩) hI.size hr hv hvi hS
theorem OA (ht:jq P nt ops ri) {listed:Array Bool} (hsz:listed.size=ops.size) {i:Nat} {rest' : List Nat} (hI:zO P nt ops ri T0 M0 ρ0 w0 k done (i :: rest') s (dC listed) ρ a w) (ni:QE P ops T0 ri k s) {r:Row} (hi:i<ops.size) (hr:ri.rows[i]?=some r)
  (hd:∀ e∈r.o.after.toList,Region.binds .any e=true→dC listed e.on) (hnd:i ∉ rest') {v:AV} {v' : Value} {ρ' : Ren} {w' : World} {M' : RM} (hv:af ρ' v v') {K:kP→Prop}
  (haft:After P s.M ρ w M' ρ' w') (hre:Fx P ops T0 ri k ri.rows { vals:=s.vals.set i v,M:=M',aT:=s.aT } (oW P ops T0 ri (k + 1) rest' { vals:=s.vals.set i v,M:=M',aT:=s.aT } K)) :
  ∃ s3,zO P nt ops ri T0 M0 ρ0 w0 (k + 1) (done++[i]) rest' s3 (dC (listed.setIfInBounds i true)) ρ' (a.put r.o.dst v') w'∧QE P ops T0 ri (k + 1) s3∧FR P ops T0 ri (k + 1) s3 K rest':=by
 have hS:∀ j,dC (listed.setIfInBounds i true) j↔dC listed j∨j=i:=mq (by omega)
 obtain⟨e1,e2,e3,e4,e5⟩:=ht.row hr
 have hmem:i∈ri.es:=by rw[hI.es]; simp
 have hke:=(ht.lX hr).1 hmem
 have hle:=haft.le hI.iU
 -- an alive row that was done does not look at the effect
 have Uc:ri.es[k]?=some i:=by
  rw[hI.es,List.getElem?_append_right (by rw[hI.len]; omega),hI.len]; simp
 have Sy:∀ r'∈ri.rows,r'.lev≤k→Nat.testBit r'.m i=true→False:=by
  intro r' hr' hl hb
  obtain⟨q,hq⟩:=List.mem_iff_getElem?.1 hr'
  obtain⟨g1,g2,g3,g4,g5⟩:=ht.row hq
  have key:∀ (es:List Nat) (i0 jl k:Nat),es[k]?=some i→i0 + k + 1≤jh r'.m es i0 jl:=by
   intro es
   induction es with
   | nil=>intro i0 jl k h; simp at h
   | cons x es ih =>
     intro i0 jl k h
     simp only[jh]
     cases k with
     | zero =>
       simp at h; subst h
       rw[hb]
       simp only
       have mono:∀ (es:List Nat) (j jl:Nat),jl≤j→jl≤jh r'.m es j jl:=by
        intro es
        induction es with
        | nil=>intro j jl _; exact Nat.le_refl _
        | cons y es ih2 =>
          intro j jl hbj
          simp only[jh]
          split
          ·exact Nat.le_trans (by omega) (ih2 (j + 1) (j + 1) (Nat.le_refl _))
          ·exact ih2 (j + 1) jl (by omega)
       exact mono es (i0 + 1) (i0 + 1) (Nat.le_refl _)
     | succ k =>
       split
       ·have:=ih (i0 + 1) (i0 + 1) k (by simpa using h); omega
       ·have:=ih (i0 + 1) jl k (by simpa using h); omega
  have:=key ri.es 0 0 k Uc
  rw[← g4] at this
  omega
 obtain⟨HV,hrows⟩:=BU (s0:=s) ri.rows hre fun r' hr' f1 f2 f3=>by
  refine⟨ni r' hr' f1 ?_,fun j hj=>?_,rfl⟩
  ·unfold ig at f3 ⊢
   rw[Bool.and_eq_true] at f3 ⊢
   refine⟨aJ.2 f2, ?_⟩
   have f4:=f3.2
   rw[List.all_eq_true] at f4 ⊢
   intro x hx
   refine f4 x ?_
   have:=List.take_subset_take_left ri.es (Nat.le_succ k)
   exact this hx
  ·simp only[Tree.aU]
   rw[if_neg]
   rintro rfl
   rcases hj with hj | hj
   ·exact Sy r' hr' f2 hj
   ·obtain⟨q,hq⟩:=List.mem_iff_getElem?.1 hr'
    obtain⟨g1,_⟩:=ht.row hq
    have:q=j:=by omega
    subst this
    rw[hr] at hq; cases hq
    rw[f1] at hke; cases hke
 obtain⟨s3,hcont,hp⟩:=Ba (s := { vals:=s.vals.set i v,M:=M',aT:=s.aT }) ht (haft.rel.fr) (fun j b hb=>Nat.lt_of_lt_of_le (hI.bid j b hb).2.1 haft.next) HV
 have hkeep:∀ j,dC listed j∨j=i→s3.vals.get j=(s.vals.set i v).get j:=by
  intro j hj
  refine(hp.keep j fun r' hr' _=>?_).1
  rintro⟨hl,hk'⟩
  rcases hj with hj | rfl
  ·have:=hI.lev j r' hr' hk' hj; omega
  ·rw[hr] at hr'; cases hr'; rw[hke] at hk'; cases hk'
 have hvi:s3.vals.get i=some v:=by rw[hkeep i (.inr rfl),Tree.aU,if_pos rfl]
 refine⟨s3,⟨by rw[hI.es]; simp,by simp[hI.len], ?_, ?_, ?_, ?_, ?_, ?_, ?_,hp.rel _ _ haft.rel,hI.step.trans (haft.step.Jg hI.base) hI.next, ?_, ?_, ?_, ?_⟩, ?_,hcont⟩
 ·intro j o ho hj e he hb
  rcases(hS j).1 hj with hj | rfl
  ·exact(hS _).2 (.inl (hI.closed j o ho hj e he hb))
  ·rw[e2] at ho; cases ho
   exact(hS _).2 (.inl (hd e he hb))
 ·intro x hx
  rcases List.mem_append.1 hx with hx | hx
  ·exact(hS x).2 (.inl (hI.dn x hx))
  ·simp at hx; subst hx; exact(hS x).2 (.inr rfl)
 ·intro x hx hl
  rcases(hS x).1 hl with hl | rfl
  ·exact hI.rs x (.tail _ hx) hl
  ·exact hnd hx
 ·intro j r' hr' hk' hj
  rcases(hS j).1 hj with hj | rfl
  ·have:=hI.lev j r' hr' hk' hj; omega
  ·rw[hr] at hr'; cases hr'; rw[hke] at hk'; cases hk'
 ·cases hdst:r.o.dst <;> simp[Act.put,hI.size]
 ·cases hdst:r.o.dst <;> simp[Act.put,hI.defers]
 ·refine wB ht (v:=v) (S:=dC listed) (fun t=>⟨fun j h1 h2=>?_,fun h=>((hI.slot t).2 h).mono hle⟩) hI.size hr hv hvi hS
  rw[hkeep j (.inl h2),Tree.aU]
  split
  ·rename_i e
   subst e
   exact absurd h2 (hI.rs j (.head _))
  ·exact((hI.slot t).1 j h1 h2).mono hle
 ·rw[hp.sub.1,← hI.base]; exact haft.base
 ·exact Nat.le_trans hI.next (Nat.le_trans haft.next hp.next)
 ·intro j b hb
  rcases hp.aT j b hb with h | ⟨h,h',_,r',hr'⟩
  ·obtain⟨b1,b2,b3,b4⟩:=hI.bid j b h
   refine⟨b1,Nat.lt_of_lt_of_le b2 (Nat.le_trans haft.next hp.next),fun hj=>?_,b4⟩
   rw[haft.step.ext b b2]
   exact b3 fun hl=>hj ((hS j).2 (.inl hl))
  ·refine⟨Nat.le_trans hI.next (Nat.le_trans haft.next h),h',fun _=>haft.rel.fresh h, ?_⟩
   obtain⟨g1,g2,_⟩:=ht.row hr'
   have:=(List.getElem?_eq_some_iff.1 g2).1
   rw[Array.length_toList] at this
   exact this
 ·intro j1 j2 b h1 h2
  rcases Nat.lt_or_ge b M'.next with hlt | hge
  ·have q:∀ j,s3.aT.get j=some (some b)→s.aT.get j=some (some b):=by
    intro j hj
    rcases hp.aT j b hj with k | ⟨k1,_⟩
    ·exact k
    ·simp only at k1; omega
   exact hI.r9 j1 j2 b (q j1 h1) (q j2 h2)
  ·exact hp.r9 j1 j2 b h1 h2 hge
 ·intro r' hr' f1 f3
  obtain⟨q,hq⟩:=List.mem_iff_getElem?.1 hr'
  obtain⟨g1,g2,g3,g4,g5⟩:=ht.row hq
  have f3':=f3
  unfold ig at f3'
  rw[Bool.and_eq_true] at f3'
  have hl:=aL f3'.1
  by_cases he:r'.lev=k + 1
  ·exact hp.done q r' hq (Nat.zero_le _) he f1
  ·have hl' : r'.lev≤k:=by omega
   refine(hrows r' hr' f1 hl' f3).keep (fun j hj=>?_) ?_ hp.sub
   ·refine(hp.keep j fun r2 hr2 _=>?_).1
    rintro⟨h1,h2⟩
    rcases hj with hj | hj
    ·
     have hjm:r2.lev≤r'.lev:=by
      obtain⟨q1,q2,q3,q4,q5⟩:=ht.row hr2
      have sub:∀ x,Nat.testBit r2.m x=true→Nat.testBit r'.m x=true:=by
       intro x hx
       have hcl:Closed ops.toList (fun i=>Nat.testBit r'.m i=true∨i=q):=by
        intro i o ho hi e he' hb'
        rcases hi with hi | rfl
        ·exact .inl (IQ ht _ hq hi ho he' hb')
        ·rw[g2] at ho; cases ho
         exact .inl (Dv ht hq he' hb')
       rcases ht.uw hcl (.inl hj) q2 (by rw[q3]; exact hx) with h | h
       ·exact h
       ·subst h
        exfalso
        have hlt:j<x:=by
         have hc:Closed ops.toList (fun i=>i<x):=fun i o ho hi e he' hb'=>by have:=ht.qi i o ho e he' hb'; omega
         exact ht.ahead hc hq (fun e he' hb'=>ht.qi x r'.o g2 e he' hb') hj
        have hlt2:x<j:=by
         have hc:Closed ops.toList (fun i=>i<j):=fun i o ho hi e he' hb'=>by have:=ht.qi i o ho e he' hb'; omega
         exact ht.ahead hc hr2 (fun e he' hb'=>ht.qi j r2.o q2 e he' hb') hx
        omega
      rw[q4,g4]
      exact wQ sub ri.es 0 0 0 (Nat.le_refl _) (Nat.le_refl _)
     omega
    ·have:q=j:=by omega
     subst this
     rw[hq] at hr2; cases hr2; omega
   ·refine(hp.keep r'.i fun r2 hr2 _=>?_).2
    rw[g1,hq] at hr2; cases hr2
    rintro⟨h1,_⟩; omega
theorem LM (hP:De P) (ht:jq P nt ops ri) (rF:∀ r∈ri.rows,mr ri r=true) {Q:Exit→Act→World→Prop} {K:kP→Prop}
  (hQ:∀ s ρ' a' w',K s→Step M0.lo M0.next ρ0 w0 ρ' w'→dV ρ' nt (ug T0 s.vals ri.rows) a'→bP P ρ' s.M w'→s.M.base=M0.base→M0.next≤s.M.next→Q .normal a' w') :
  ∀ (fuel:Nat) (listed:Array Bool) (k:Nat) (done rest:List Nat) (s:kP) (ρ:Ren) (a:Act) (w:World),listed.size=ops.size→listed.toList.count false≤fuel →
    zO P nt ops ri T0 M0 ρ0 w0 k done rest s (dC listed) ρ a w→QE P ops T0 ri k s→FR P ops T0 ri k s K rest→wpAny P .any ops Q fuel listed a w:=by
 have fin:∀ (listed:Array Bool) (k:Nat) (done rest:List Nat) (s:kP) (ρ:Ren) (a:Act) (w:World),listed.size=ops.size→(∀ i,i<ops.size→dC listed i) →
   zO P nt ops ri T0 M0 ρ0 w0 k done rest s (dC listed) ρ a w→FR P ops T0 ri k s K rest→Q .normal a w:=by
  intro listed k done rest s ρ a w hsz hall hI hcont
  have hrest:rest=[]:=by
   cases rest with
   | nil=>rfl
   | cons x rest =>
     have hx:x∈ri.es:=by rw[hI.es]; simp
     rw[ht.es,lu] at hx
     obtain⟨j,o,hj,rfl,_⟩:=hx
     have:=(List.getElem?_eq_some_iff.1 hj).1
     exact absurd (hall (0 + j) (by simpa using this)) (hI.rs _ (.head _))
  subst hrest
  have hcont:K s:=hcont
  refine hQ s ρ a w hcont hI.step ⟨hI.size,fun t=>?_,hI.defers⟩ hI.iU hI.base hI.next
  obtain⟨g1,g2⟩:=hI.slot t
  refine vZ t _ ri.rows T0 (fun r hr hd=>?_) ?_
  ·obtain⟨q,hq⟩:=List.mem_iff_getElem?.1 hr
   obtain⟨e1,e2,_⟩:=ht.row hq
   have hql:=(List.getElem?_eq_some_iff.1 e2).1
   have:=g1 r.i (ht.dst q r hq t hd).1 (by rw[e1]; exact hall q (by simpa using hql))
   exact this
  ·by_cases hex:∃ j,ri.wr.get t=some j
   ·obtain⟨j,hj⟩:=hex
    obtain⟨o,ho,hdo⟩:=ht.wrs t j hj
    obtain⟨r,hr,rfl⟩:=ht.ex ho
    exact .inl ⟨r,List.mem_of_getElem? hr,hdo⟩
   ·exact .inr (g2 fun j hj=>absurd ⟨j,hj⟩ hex)
 intro fuel
 induction fuel with
 | zero =>
   intro listed k done rest s ρ a w hsz hcnt hI ni hcont
   have hall:∀ i,i<ops.size→dC listed i:=fun i hi=>Du (by omega) (by omega)
   refine⟨?_,fin listed k done rest s ρ a w hsz hall hI hcont⟩
   rw[List.eq_nil_iff_forall_not_mem]
   intro i hi
   obtain⟨h1,h2,_⟩:=sU hsz hi
   exact h2 (hall i h1)
 | succ fuel ih =>
   intro listed k done rest s ρ a w hsz hcnt hI ni hcont
   refine⟨fun hr=>fin listed k done rest s ρ a w hsz (xJ ht hsz hr) hI hcont,fun i hi=>?_⟩
   obtain⟨hilt,hnl,o,ho,hd⟩:=sU hsz hi
   obtain⟨r,hr,rfl⟩:=ht.ex (j:=i) (o:=o) (by rw[Array.getElem?_toList]; exact ho)
   obtain⟨e1,e2,e3,e4,e5⟩:=ht.row hr
   have hrm:=List.mem_of_getElem? hr
   have he:=MV ht hI hr hnl hd (rF r hrm)
   unfold wpOp
   simp only[ho]
   cases hk:gL r.kd with
   | false =>
     have hall:ig ri.ms ri.es k r=true:=by
      unfold ig
      rw[Bool.and_eq_true,List.all_eq_true]
      constructor
      ·rw[aJ,e4]
       rcases pY (m:=r.m) ri.es 0 0 with h | ⟨q,x,a1,a2,a3⟩
       ·omega
       ·have hx:=ht.ahead hI.closed hr hd a2
        rw[a3]
        rcases Nat.lt_or_ge q k with h | h
        ·omega
        ·rw[hI.es,List.getElem?_append_right (by rw[hI.len]; exact h)] at a1
         exact absurd hx (hI.rs x (List.mem_of_getElem? a1))
      ·intro x hx
       rw[hI.es,List.take_left' hI.len] at hx
       rw[Bool.not_eq_true',← Bool.not_eq_true,e1,bG]
       intro hb
       have hxe:x∈ri.es:=by rw[hI.es]; exact List.mem_append_left _ hx
       rw[ht.es,lu] at hxe
       obtain⟨j,o',hj,hxj,_⟩:=hxe
       rw[Nat.zero_add] at hxj; subst hxj
       exact hnl (ht.uw hI.closed (hI.dn x hx) hj hb)
     have pq:r.lev≤k:=by
      unfold ig at hall
      rw[Bool.and_eq_true] at hall
      exact aL hall.1
     have hok:=ni r hrm hk hall
     have hnb:∀ j b,s.aT.get j=some (some b)→¬ dC (listed.setIfInBounds i true) j→ρ b=none:=fun j b hb hj =>
      (hI.bid j b hb).2.2.1 fun hl=>hj ((mq (by omega) j).2 (.inl hl))
     have next:∀ {v:AV} {v' : Value} {ρ' : Ren} {w' : World},s.vals.get i=some v→af ρ' v v'→ρ.le ρ'→bP P ρ' s.M w'→Step M0.lo M0.next ρ w ρ' w' →
       (∀ j b,s.aT.get j=some (some b)→¬ dC (listed.setIfInBounds i true) j→ρ' b=none)→wpAny P .any ops Q fuel (listed.setIfInBounds i true) (a.put r.o.dst v') w':=by
      intro v v' ρ' w' hvi hv hle hw hst hb
      exact ih _ k done rest s ρ' _ w' (by simpa using hsz) (count_set (by omega) hnl hcnt) (OE ht hsz hI hilt hr hd hk pq hvi hv hle hw hst hb) ni hcont
     have Aq:ρ.le ρ:=fun _ _ h=>h
     obtain⟨g,hg,hcase⟩:=hok
     obtain⟨gon,Oc⟩:=Dq ht hI hr hd hg
     rw[e1] at hcase
     rcases hcase with⟨hon,v,hvi,hkd⟩ | ⟨hoff,hvi⟩
     ·rw[gon hon]
      simp only[if_true]
      refine .inl ?_
      have val:jg P r.o (fG T0 ri.wr s.vals r.m) s.M v→r.o.wp P a w (wpAny P .any ops Q fuel (listed.setIfInBounds i true)) Q:=by
       intro hgv
       obtain⟨v',h1,h2⟩:=hgv ρ w a.eval s.M (RM.Sub.refl _) hI.iU he
       exact iN r.o h1 (next hvi h2 Aq hI.iU (Step.refl _ _ _) hnb)
      cases hkk:r.kd with
      | pure=>rw[hkk] at hkd; exact val (hkd _)
      | read=>rw[hkk] at hkd; exact val hkd
      | lX=>rw[hkk] at hkd; exact hkd.elim
      | alloc =>
        rw[hkk] at hkd
        obtain⟨x,mk,b,⟨y,hx,hle⟩,hbi,hy,hmk⟩:=hkd
        obtain⟨d,ob,u,inf,hrun,Un,hrel,OU⟩:=ma he hx w
        obtain⟨b1,b2,b3,b4⟩:=hI.bid i b hbi
        have hbn:=b3 hnl
        have hd' : bP P ρ s.M (if d=true then w.drew else w):=by cases d <;> simp[hI.iU,hI.iU.drew]
        have hsz' : (if d=true then w.drew else w).heap.size=w.heap.size:=by cases d <;> simp
        have hst' : Step M0.lo M0.next ρ w ρ (if d=true then w.drew else w):=by cases d <;> simp[Step.refl,Step.drew]
        obtain⟨h1,h2⟩:=MO hd' (by omega) hbn b2 hy hle hrel
        replace h2:=h2.Jg hI.base
        refine iN r.o hrun (next hvi (hmk▸OU _ b (by simp[Ren.add])) (Ren.mQ hbn) h1 (hst'.trans h2 b1) fun j b' hb' hj=>?_)
        have hne:b'≠b:=by
         intro e
         subst e
         have hji:j≠i:=fun e=>hj ((mq (by omega) j).2 (.inr e))
         exact hji (hI.r9 j i b' hb' hbi)
        unfold Ren.add
        rw[if_neg hne]
        exact hnb j b' hb' hj
     ·rw[Oc hoff]
      simp only[Bool.false_eq_true,if_false]
      exact next hvi (.tup _ _ .nil) Aq hI.iU (Step.refl _ _ _) hnb
   | true =>
     have hie:i∈ri.es:=(ht.lX hr).2 hk
     rw[hI.es] at hie
     have hir:i∈rest:=by
      rcases List.mem_append.1 hie with h | h
      ·exact absurd (hI.dn i h) hnl
      ·exact h
     cases rest with
     | nil=>cases hir
     | cons x rest' =>
       have hxi:x=i:=by
        rcases List.mem_cons.1 hir with e | hm
        ·exact e.symm
        ·obtain⟨l1,l2,hl⟩:=List.append_of_mem hm
         have:=ht.chain (done++x :: l1) i l2 (by rw[hI.es,hl]; simp) x (by simp)
         rw[e3] at this
         exact absurd (ht.ahead hI.closed hr hd this) (hI.rs x (.head _))
       subst hxi
       have hnd:x ∉ rest':=by
        intro hm
        obtain⟨l1,l2,hl⟩:=List.append_of_mem hm
        have:=ht.chain (done++x :: l1) x l2 (by rw[hI.es,hl]; simp) x (by simp)
        rw[e3] at this
        exact hnl (ht.ahead hI.closed hr hd this)
       obtain⟨r',hr',hgs⟩:=hcont
       rw[bG,hr] at hr'; cases hr'
       obtain⟨g,hg,hcase⟩:=mP hgs
       obtain⟨gon,Oc⟩:=Dq ht hI hr hd hg
       have next:∀ {v:AV} {v' : Value} {ρ' : Ren} {w' : World} {M' : RM},af ρ' v v'→After P s.M ρ w M' ρ' w' →
         Fx P ops T0 ri k ri.rows { vals:=s.vals.set x v,M:=M',aT:=s.aT } (oW P ops T0 ri (k + 1) rest' { vals:=s.vals.set x v,M:=M',aT:=s.aT } K) →
         wpAny P .any ops Q fuel (listed.setIfInBounds x true) (a.put r.o.dst v') w':=by
        intro v v' ρ' w' M' hv haft hre
        obtain⟨s3,h1,h2,h3⟩:=OA ht hsz hI ni hilt hr hd hnd hv haft hre
        exact ih _ (k + 1) _ rest' s3 ρ' _ w' (by simpa using hsz) (count_set (by omega) hnl hcnt) h1 h2 h3
       rcases hcase with⟨hon,hn⟩ | ⟨hoff,hn⟩
       ·rw[gon hon]
        simp only[if_true]
        exact .inl (JF (Bi hP (fun _=>rfl) hn) hI.iU he fun v v' M' ρ' w' haft hv hk=>next hv haft hk)
       ·rw[Oc hoff]
        simp only[Bool.false_eq_true,if_false]
        exact next (.tup _ _ .nil) (After.refl hI.iU) hn
theorem BH {vals:Tree AV} {t:Nat} : ∀ (rows:List Row) (T:Tree AV),(∀ r∈rows,r.o.dst≠some t)→(ug T vals rows).get t=T.get t
 | [],T,_=>rfl
 | r :: rows,T,h=>by
   simp only[ug]
   cases hd:r.o.dst with
   | none=>exact BH rows T fun r' hr'=>h r' (.tail _ hr')
   | some d =>
     simp only
     rw[BH rows _ fun r' hr'=>h r' (.tail _ hr'),Tree.aU,if_neg]
     intro e; subst e
     exact h r (.head _) hd
theorem IX (hP:De P) {id:Nat} {T:Tree AV} {M:RM} {K:Tree AV→RM→Prop} {Q:Exit→Act→World→Prop} (hM:After P M0 ρ0 w0 M ρ w) (hA:dV ρ nt T a)
  (hQ:∀ T' M' ρ' a' w',After P M0 ρ0 w0 M' ρ' w'→dV ρ' nt T' a'→K T' M'→(∀ t,(∀ o∈ops.toList,o.dst≠some t)→T'.get t=T.get t)→Q .normal a' w') (h:JY P nt ops T M K) : (Code.region id ops true).wp P Q a w:=by
 unfold JY at h
 split at h <;> first | (cases h; done) | skip
 rename_i ri hri
 split at h <;> first | (cases h; done) | skip
 rename_i rF
 have ht:=uk hri
 obtain⟨s1,h1,hp⟩:=Ba ht hM.rel.fr (fun j b hb=>by simp[Tree.get] at hb) h
 have hno:∀ i,¬ dC (Array.replicate ops.size false) i:=by
  intro i h
  unfold dC at h
  simp only[Array.getD_eq_getD_getElem?,Array.getElem?_replicate] at h
  split at h <;> simp at h
 refine wp_region_any hP.mixed (LM (M0:=M0) (ρ0:=ρ0) (w0:=w0) (T0:=T) hP ht (fun r hr=>List.all_eq_true.1 rF r hr) (fun s ρ' a' w' k0 k1 k2 k3 k4 k5=>hQ _ _ ρ' a' w' ⟨k1,k3,k4,k5⟩ k2 k0 (fun t hnt=>BH ri.rows T fun r hr=>by
   obtain⟨q,hq⟩:=List.mem_iff_getElem?.1 hr
   exact hnt r.o (List.mem_of_getElem? (ht.row hq).2.1))) ops.size _ 0 [] ri.es s1 ρ a _ (by simp) (by simp) ?_ ?_ h1)
 ·refine⟨rfl,rfl,fun i o _ hi=>absurd hi (hno i),(fun x hx=>by cases hx),fun x _=>hno x,fun j r _ _ hj=>absurd hj (hno j),hA.size,hA.defers,fun t=>⟨fun j _ hj=>absurd hj (hno j),fun _=>hA.val t⟩,hp.rel _ _ hM.rel.drew,hM.step.trans (Step.drew (n:=M0.next)) (Nat.le_refl _),by rw[hp.sub.1]; exact hM.base,Nat.le_trans hM.next hp.next,fun j b hb'=>?_,fun j1 j2 b b1 b2=>?_⟩
  ·rcases hp.aT j b hb' with h | ⟨h,h',_,r,hr⟩
   ·simp[Tree.get] at h
   ·refine⟨Nat.le_trans hM.next h,h',fun _=>hM.rel.fresh h, ?_⟩
    obtain⟨g1,g2,_⟩:=ht.row hr
    have:=(List.getElem?_eq_some_iff.1 g2).1
    rw[Array.length_toList] at this
    exact this
  ·rcases hp.aT j1 b b1 with h | ⟨h,_⟩
   ·simp[Tree.get] at h
   ·exact hp.r9 j1 j2 b b1 b2 h
 ·intro r hr hk hal
  obtain⟨q,hq⟩:=List.mem_iff_getElem?.1 hr
  unfold ig at hal
  rw[Bool.and_eq_true] at hal
  exact hp.done q r hq (Nat.zero_le _) (by have:=aL hal.1; omega) hk
end
def G7:Option Tmp→Nat
 | some d=>2 ^ d
 | none=>0
def Nq:Operand→Nat
 | .tmp t=>2 ^ t
 | _=>0
def NA:List Operand→Nat
 | []=>0
 | x :: xs=>Nq x ||| NA xs
def OB (L m:Nat) : Nat:=L ^^^ (L &&& m)
def CV:List Oper→Nat
 | []=>0
 | o :: os=>G7 o.dst ||| CV os
def fH:Nat→Code→Nat
 | 0,_=>0
 | f + 1,c=>match c with
   | .region _ ops _=>CV ops.toList
   | .seq a b=>fH f a ||| fH f b
   | .cond _ a b=>fH f a ||| fH f b
   | .block _ c=>fH f c
   | .loop c=>fH f c
   | .scope c=>fH f c
   | _=>0
def JC:List Oper→Nat→Nat
 | [],L=>L
 | o :: os,L=>OB (JC os L) (G7 o.dst) ||| NA o.op.operands.toList
def Nz:List (Nat × Nat)→Nat→Nat
 | [],_=>0
 | (i,L) :: r,id=>match Nat.beq i id with
   | true=>L
   | false=>Nz r id
def fO (ret:Nat) : Nat→List (Nat × Nat)→Code→Nat→Nat
 | 0,_,_,_=>0
 | f + 1,env,c,L=>match c with
   | .skip=>L
   | .region _ ops _=>JC ops.toList L
   | .seq a b=>fO ret f env a (fO ret f env b L)
   | .cond c a b=>Nq c ||| fO ret f env a L ||| fO ret f env b L
   | .block id c=>fO ret f ((id,L) :: env) c L
   | .loop c=>fO ret f env c (fO ret f env c 0)
   | .exit id=>Nz env id
   | .ret=>ret
   | .scope c=>fO ret f env c L
   | .label _=>L
   | _=>0
def cap2 (n:Nat) : Nat:=match n with | 0=>0 | 1=>1 | _=>2
def nR (id:Nat) : Nat→Code→Nat
 | 0,_=>2
 | f + 1,c=>match c with
   | .seq a b=>cap2 (nR id f a + nR id f b)
   | .cond _ a b=>cap2 (nR id f a + nR id f b)
   | .block _ c=>nR id f c
   | .loop c=>nR id f c
   | .exit i=>match Nat.beq i id with | true=>1 | false=>0
   | _=>0
def qJ:Nat→Code→Nat
 | 0,_=>2
 | f + 1,c=>match c with
   | .skip=>1
   | .region _ _ _=>1
   | .seq a b=>cap2 (qJ f a * qJ f b)
   | .cond _ a b=>cap2 (qJ f a + qJ f b)
   | .block id c=>cap2 (qJ f c + nR id f c)
   | .scope c=>qJ f c
   | .label _=>1
   | _=>0
def uy (m:Nat) : Nat→Nat→List Nat
 | _,0=>[]
 | i,n + 1=>match Nat.testBit m i with
   | true=>i :: uy m (i + 1) n
   | false=>uy m (i + 1) n
def bitsOf (m nt:Nat) : List Nat:=uy m 0 nt
def tX (T:Tree AV) : List Nat→List AV
 | []=>[]
 | t :: ts=>(T.get t).getD .top :: tX T ts
def ae:List AV→Nat→AV
 | [],_=>.top
 | x :: _,0=>x
 | _ :: xs,n + 1=>ae xs n
def vO (T:Tree AV) : List Nat→Tree AV
 | []=>T
 | t :: ts=>vO (T.set t .top) ts
def Gu (T:Tree AV) (xs:List AV) : Nat→List Nat→Tree AV
 | _,[]=>T
 | i,t :: ts=>Gu (T.set t (ae xs i)) xs (i + 1) ts
def vQ (T:Tree AV) (asg vs:List Nat) (xs:List AV) : Tree AV:=Gu (vO T asg) xs 0 vs
def aj (x:AV) (p q:Prop) : Prop :=
 match x with
 | .sc (.bool b)=>(b=true→p)∧(b=false→q)
 | _=>False
def dM (f:(List AV→RM→Prop)→Prop) (g:List AV→RM→Prop) : Prop:=f g
def bQ (body:(List AV→RM→Prop)→List AV→RM→Prop) (xs:List AV) (M:RM) : Prop :=
 ∃ (I:Nat→List AV→RM→Prop) (n:Nat),I n xs M∧∀ m ys M',I m ys M'→body (fun zs M''=>∃ m',m'<m∧I m' zs M'') ys M'
abbrev K3:=Ex→Tree AV→RM→Prop
def wpC (P:Program) (nt ret:Nat) : Nat→Code→List (Nat × Nat)→Nat→Tree AV→RM→K3→Prop
 | 0,_,_,_,_,_,_=>False
 | f + 1,c,env,L,T,M,K=>match c with
   | .skip=>K .normal T M
   | .region _ ops false=>DZ P nt ops ops.toList T M (fun T' M'=>K .normal T' M')
   | .region _ ops true=>JY P nt ops T M (fun T' M'=>K .normal T' M')
   | .seq a b=>match Nat.ble (qJ f a) 1 with
     | true=>wpC P nt ret f a env (fO ret f env b L) T M (fun e T' M'=>match e with
       | .normal=>wpC P nt ret f b env L T' M' K
       | e=>K e T' M')
     | false=>dM (fun J=>wpC P nt ret f a env (fO ret f env b L) T M (fun e T' M'=>match e with
       | .normal=>J (tX T' (bitsOf (fH f a &&& fO ret f env b L) nt)) M'
       | e=>K e T' M'))
       (fun xs M'=>wpC P nt ret f b env L (vQ T (bitsOf (fH f a) nt) (bitsOf (fH f a &&& fO ret f env b L) nt) xs) M' K)
   | .cond c a b=>aj (jw T c) (wpC P nt ret f a env L T M K) (wpC P nt ret f b env L T M K)
   | .block id c=>wpC P nt ret f c ((id,L) :: env) L T M (fun e T' M'=>match e with
     | .exit i=>match Nat.beq i id with
       | true=>K .normal T' M'
       | false=>K (.exit i) T' M'
     | e=>K e T' M')
   | .loop c=>bQ (fun next xs M'=>wpC P nt ret f c env (fO ret f env c (fO ret f env c 0)) (vQ T (bitsOf (fH f c) nt) (bitsOf (fH f c &&& fO ret f env c (fO ret f env c 0)) nt) xs) M'
     (fun e T' M'=>match e with
      | .normal=>next (tX T' (bitsOf (fH f c &&& fO ret f env c (fO ret f env c 0)) nt)) M'
      | e=>K e T' M'))
     (tX T (bitsOf (fH f c &&& fO ret f env c (fO ret f env c 0)) nt)) M
   | .exit id=>K (.exit id) T M
   | .ret=>K .ret T M
   | .scope c=>wpC P nt ret f c env L T M K
   | .label _=>K .normal T M
   | _=>False
def NE (P:Program) (T:Tree AV) (M:RM) (r:ResultVar) (K:AV→Prop) : Prop :=
 match r with
 | .tmp t=>K ((T.get t).getD .top)
 | .cell a t=>match bV P t with
   | some false=>av M ((T.get a).getD .top) K
   | some true=>match aM P t with
     | some n=>bg M ((T.get a).getD .top) n K
     | none=>False
   | none=>False
def NG (P:Program) (T:Tree AV) (M:RM) : List ResultVar→(List AV→Prop)→Prop
 | [],K=>K []
 | r :: rs,K=>NE P T M r (fun v=>NG P T M rs (fun vs=>K (v :: vs)))
def QK (Q:ai) (M:RM) : List AV→Prop
 | [v]=>Q v M
 | vs=>Q (.tup vs) M
def EF:List ResultVar→Nat
 | []=>0
 | .tmp t :: rs=>2 ^ t ||| EF rs
 | .cell a _ :: rs=>2 ^ a ||| EF rs
def LW (P:Program) (fn:Func) (c:Code) (args:List AV) (M:RM) (Q:ai) : Prop :=
 wpC P (args.length + (fn.ntmps - args.length)) (EF fn.results.toList) 1000 c [] 0 (Tree.ofList args 0 .leaf) M
  (fun e T M'=>match e with
   | .exit _=>False
   | _=>NG P T M' fn.results.toList (QK Q M'))
section
variable {P:Program} {nt ret:Nat}
def Lr (P:Program) (nt:Nat) (M0:RM) (ρ0:Ren) (w0:World) (T:Tree AV) (asg:Nat) (K:K3) (e:Exit) (a:Act) (w:World) : Prop :=
 ∃ x T' M' ρ',e=Ef x∧After P M0 ρ0 w0 M' ρ' w∧dV ρ' nt T' a∧(∀ t,Nat.testBit asg t=false→T'.get t=T.get t)∧K x T' M'
theorem F9 {T:Tree AV} : ∀ (vs:List Nat) (i:Nat),ae (tX T vs) i=match vs[i]? with | some t=>(T.get t).getD .top | none=>.top
 | [],i=>by simp[tX,ae]
 | t :: vs,0=>by simp[tX,ae]
 | t :: vs,i + 1=>by simp[tX,ae,F9 vs i]
theorem zF:∀ (asg:List Nat) (T:Tree AV) (t:Nat),(vO T asg).get t=if t∈asg then some .top else T.get t
 | [],T,t=>by simp[vO]
 | d :: asg,T,t=>by
   simp only[vO,zF asg,Tree.aU,List.mem_cons]
   by_cases h1:t∈asg
   ·simp[h1]
   ·by_cases h2:t=d <;> simp[h1,h2]
theorem BF:∀ (vs:List Nat) (T:Tree AV) (xs:List AV) (i t:Nat),(t ∉ vs∧(Gu T xs i vs).get t=T.get t)∨∃ j,vs[j]?=some t∧(Gu T xs i vs).get t=some (ae xs (i + j))
 | [],T,xs,i,t=>.inl ⟨by simp,rfl⟩
 | d :: vs,T,xs,i,t=>by
   simp only[Gu]
   rcases BF vs (T.set d (ae xs i)) xs (i + 1) t with⟨h1,h2⟩ | ⟨j,h1,h2⟩
   ·rw[Tree.aU] at h2
    by_cases e:t=d
    ·rw[if_pos e] at h2
     exact .inr ⟨0,by simp[e],h2⟩
    ·rw[if_neg e] at h2
     exact .inl ⟨by simp[e,h1],h2⟩
   ·exact .inr ⟨j + 1,by simpa using h1,by rw[h2]; congr 2; omega⟩
theorem vI {m:Nat} : ∀ (n i t:Nat),t∈uy m i n↔i≤t∧t<i + n∧Nat.testBit m t=true
 | 0,i,t=>by simp[uy]; omega
 | n + 1,i,t=>by
   simp only[uy]
   split
   ·rename_i h
    rw[List.mem_cons,vI n (i + 1) t]
    constructor
    ·rintro(rfl | ⟨a,b,c⟩)
     ·exact⟨Nat.le_refl _,by omega,h⟩
     ·exact⟨by omega,by omega,c⟩
    ·rintro⟨a,b,c⟩
     by_cases e:t=i
     ·exact .inl e
     ·exact .inr ⟨by omega,by omega,c⟩
   ·rename_i h
    rw[vI n (i + 1) t]
    constructor
    ·rintro⟨a,b,c⟩; exact⟨by omega,by omega,c⟩
    ·rintro⟨a,b,c⟩
     have:t≠i:=fun e=>by subst e; rw[h] at c; cases c
     exact⟨by omega,by omega,c⟩
theorem pX {m n t:Nat} : t∈bitsOf m n↔t<n∧Nat.testBit m t=true:=by
 unfold bitsOf; rw[vI]; simp
theorem zG {ρ:Ren} {T T' : Tree AV} {a:Act} {asg:Nat} {vs:List Nat} (h:dV ρ nt T' a) (hge:∀ t,nt≤t→af ρ ((T.get t).getD .top) undef) (hk:∀ t,Nat.testBit asg t=false→T'.get t=T.get t) : dV ρ nt (vQ T (bitsOf asg nt) vs (tX T' vs)) a:=by
 refine⟨h.size,fun t=>?_,h.defers⟩
 unfold vQ
 rcases BF vs (vO T (bitsOf asg nt)) (tX T' vs) 0 t with⟨_,h2⟩ | ⟨j,h1,h2⟩
 ·rw[h2,zF]
  split
  ·exact .top _
  ·rename_i hm
   by_cases hb:Nat.testBit asg t=true
   ·have hge' : nt≤t:=by
     rcases Nat.lt_or_ge t nt with hlt | hge
     ·exact absurd (pX.2 ⟨hlt,hb⟩) hm
     ·exact hge
    have hv:a.tmps.getD t undef=undef:=by
     rw[Array.getD_eq_getD_getElem?,Array.getElem?_eq_none (by rw[h.size]; exact hge')]; rfl
    rw[hv]; exact hge t hge'
   ·rw[← hk t (by simpa using hb)]
    exact h.val t
 ·rw[h2,Nat.zero_add,F9,h1]
  exact h.val t
theorem CR {T:Tree AV} {asg:Nat} {vs:List Nat} {xs:List AV} (hvs:∀ t∈vs,Nat.testBit asg t=true) (t:Nat) (h:Nat.testBit asg t=false) : (vQ T (bitsOf asg nt) vs xs).get t=T.get t:=by
 unfold vQ
 rcases BF vs (vO T (bitsOf asg nt)) xs 0 t with⟨_,h2⟩ | ⟨j,h1,h2⟩
 ·rw[h2,zF,if_neg]
  intro hm
  rw[(pX.1 hm).2] at h; cases h
 ·have:=hvs t (List.mem_of_getElem? h1)
  rw[h] at this; cases this
theorem dV.ge {ρ:Ren} {T:Tree AV} {a:Act} (h:dV ρ nt T a) : ∀ t,nt≤t→af ρ ((T.get t).getD .top) undef:=by
 intro t ht
 have:=h.val t
 rw[Array.getD_eq_getD_getElem?,Array.getElem?_eq_none (by rw[h.size]; exact ht)] at this
 exact this
theorem AZ {c:Code} {Q:Exit→Act→World→Prop} : ∀ {n m:Nat} {a:Act} {w:World},n≤m→Code.rounds P c Q n a w→Code.rounds P c Q m a w
 | 0,_,_,_,_,h=>h.elim
 | n + 1,m + 1,a,w,hle,h=>by
   rw[rounds_succ] at h ⊢
   refine wp_mono h fun e a' w' hp=>?_
   cases e with
   | normal=>exact AZ (Nat.le_of_succ_le_succ hle) hp
   | exit id=>exact hp
   | ret=>exact hp
   | goto l=>exact hp
   | panic c=>exact hp
   | outgrown=>exact hp
theorem wI {t:Nat} : ∀ (l:List Oper),Nat.testBit (CV l) t=false→∀ o∈l,o.dst≠some t
 | [],_,o,ho=>by cases ho
 | x :: l,h,o,ho=>by
   simp only[CV,Nat.testBit_or,Bool.or_eq_false_iff] at h
   rcases List.mem_cons.1 ho with rfl | ho
   ·intro e
    rw[e] at h
    simp[G7,Nat.testBit_two_pow] at h
   ·exact wI l h.2 o ho
theorem MM {ρ:Ren} {x:AV} {u:Value} {p q:Prop} (h:aj x p q) (hx:af ρ x u) : ∃ b,u=.bool b∧(b=true→p)∧(b=false→q):=by
 unfold aj at h
 split at h <;> first | (cases h; done) | skip
 rename_i b
 exact⟨b,(az hx).1,h.1,h.2⟩
theorem MR (hP:De P) : ∀ (f:Nat) (c:Code) (env:List (Nat × Nat)) (L:Nat) (T:Tree AV) (M:RM) (K:K3),wpC P nt ret f c env L T M K →
  ∀ (M0:RM) (ρ0:Ren) (w0:World) (ρ:Ren) (a:Act) (w:World),After P M0 ρ0 w0 M ρ w→dV ρ nt T a→c.wp P (Lr P nt M0 ρ0 w0 T (fH f c) K) a w:=by
 intro f
 induction f with
 | zero=>intro c env L T M K h; exact h.elim
 | succ f ih =>
   intro c env L T M K h M0 ρ0 w0 ρ a w hM hA
   cases c with
   | skip=>exact wp_skip ⟨.normal,T,M,ρ,rfl,hM,hA,fun _ _=>rfl,h⟩
   | region id ops d =>
     cases d with
     | false =>
       refine wp_region ?_
       have:=vG (nt:=nt) hP (ops:=ops) (Q:=Lr P nt M0 ρ0 w0 T (fH (f + 1) (.region id ops false)) K) (K:=fun T' M'=>K .normal T' M') (M0:=M0) (ρ0:=ρ0) (w0:=w0) (T0:=T)
        (fun T' M' ρ' a' w' k1 k2 k3 k4=>⟨.normal,T',M',ρ',rfl,k1,k2,fun t ht=>k4 t (wI _ ht),k3⟩) ops.toList 0 (by simp) hA hM (fun _ _=>rfl) h
       rw[Array.length_toList,← List.range_eq_range'] at this
       exact this
     | true =>
       exact IX (nt:=nt) (T:=T) hP hM hA (fun T' M' ρ' a' w' k1 k2 k3 k4=>⟨.normal,T',M',ρ',rfl,k1,k2,fun t ht=>k4 t (wI _ ht),k3⟩) h
   | seq c1 c2 =>
     simp only[wpC] at h
     refine wp_seq ?_
     split at h
     ·refine wp_mono (ih c1 _ _ _ _ _ h M0 ρ0 w0 ρ a w hM hA) fun e a' w' hp=>?_
      obtain⟨x,T1,M1,ρ1,rfl,k1,k2,k3,k4⟩:=hp
      cases x with
      | normal =>
        refine wp_mono (ih c2 _ _ _ _ _ k4 M0 ρ0 w0 ρ1 a' w' k1 k2) fun e a2 w2 hp=>?_
        obtain⟨x,T2,M2,ρ2,he,q1,q2,q3,q4⟩:=hp
        exact⟨x,T2,M2,ρ2,he,q1,q2,fun t ht=>by
         simp only[fH,Nat.testBit_or,Bool.or_eq_false_iff] at ht
         rw[q3 t ht.2,k3 t ht.1],q4⟩
      | exit i=>exact⟨.exit i,T1,M1,ρ1,rfl,k1,k2,fun t ht=>by
        simp only[fH,Nat.testBit_or,Bool.or_eq_false_iff] at ht
        exact k3 t ht.1,k4⟩
      | ret=>exact⟨.ret,T1,M1,ρ1,rfl,k1,k2,fun t ht=>by
        simp only[fH,Nat.testBit_or,Bool.or_eq_false_iff] at ht
        exact k3 t ht.1,k4⟩
     ·unfold dM at h
      refine wp_mono (ih c1 _ _ _ _ _ h M0 ρ0 w0 ρ a w hM hA) fun e a' w' hp=>?_
      obtain⟨x,T1,M1,ρ1,rfl,k1,k2,k3,k4⟩:=hp
      have hge:∀ t,nt≤t→af ρ1 ((T.get t).getD .top) undef:=fun t ht=>by
       have h1:=k2.ge t ht
       by_cases hb:Nat.testBit (fH f c1) t=false
       ·rw[k3 t hb] at h1; exact h1
       ·have h0:=hA.ge t ht
        have hu:∀ (ρ ρ' : Ren) (x:AV),af ρ x undef→af ρ' x undef:=by
         intro ρ ρ' x hx
         unfold undef at hx ⊢
         cases hx with
         | top=>exact .top _
         | sc v p=>exact .sc _ p
         | tup xs vs a=>cases a; exact .tup _ _ .nil
        exact hu _ _ _ h0
      cases x with
      | normal =>
        refine wp_mono (ih c2 _ _ _ _ _ k4 M0 ρ0 w0 ρ1 a' w' k1 (zG k2 hge k3)) fun e a2 w2 hp=>?_
        obtain⟨x,T2,M2,ρ2,he,q1,q2,q3,q4⟩:=hp
        refine⟨x,T2,M2,ρ2,he,q1,q2,fun t ht=>?_,q4⟩
        simp only[fH,Nat.testBit_or,Bool.or_eq_false_iff] at ht
        rw[q3 t ht.2]
        refine CR (fun t' ht'=>?_) t ht.1
        have:=(pX.1 ht').2
        rw[Nat.testBit_and,Bool.and_eq_true] at this
        exact this.1
      | exit i=>exact⟨.exit i,T1,M1,ρ1,rfl,k1,k2,fun t ht=>by
        simp only[fH,Nat.testBit_or,Bool.or_eq_false_iff] at ht
        exact k3 t ht.1,k4⟩
      | ret=>exact⟨.ret,T1,M1,ρ1,rfl,k1,k2,fun t ht=>by
        simp only[fH,Nat.testBit_or,Bool.or_eq_false_iff] at ht
        exact k3 t ht.1,k4⟩
   | cond cnd c1 c2 =>
     simp only[wpC] at h
     obtain⟨b,hb,h1,h2⟩:=MM h (sP hA cnd)
     cases b with
     | true =>
       refine wp_cond_true hb (wp_mono (ih c1 _ _ _ _ _ (h1 rfl) M0 ρ0 w0 ρ a w hM hA) fun e a' w' hp=>?_)
       obtain⟨x,T1,M1,ρ1,he,k1,k2,k3,k4⟩:=hp
       exact⟨x,T1,M1,ρ1,he,k1,k2,fun t ht=>by
         simp only[fH,Nat.testBit_or,Bool.or_eq_false_iff] at ht
         exact k3 t ht.1,k4⟩
     | false =>
       refine wp_cond_false hb (wp_mono (ih c2 _ _ _ _ _ (h2 rfl) M0 ρ0 w0 ρ a w hM hA) fun e a' w' hp=>?_)
       obtain⟨x,T1,M1,ρ1,he,k1,k2,k3,k4⟩:=hp
       exact⟨x,T1,M1,ρ1,he,k1,k2,fun t ht=>by
         simp only[fH,Nat.testBit_or,Bool.or_eq_false_iff] at ht
         exact k3 t ht.2,k4⟩
   | block id c1 =>
     simp only[wpC] at h
     refine wp_block (wp_mono (ih c1 _ _ _ _ _ h M0 ρ0 w0 ρ a w hM hA) fun e a' w' hp=>?_)
     obtain⟨x,T1,M1,ρ1,rfl,k1,k2,k3,k4⟩:=hp
     cases x with
     | normal=>exact⟨.normal,T1,M1,ρ1,rfl,k1,k2,k3,k4⟩
     | ret=>exact⟨.ret,T1,M1,ρ1,rfl,k1,k2,k3,k4⟩
     | exit i =>
       simp only at k4
       split at k4
       ·rename_i he
        have he:=aN he
        subst he
        simp only[Ef,Exit.inBlock,if_true]
        exact⟨.normal,T1,M1,ρ1,rfl,k1,k2,k3,k4⟩
       ·rename_i he
        have he:=sQ he
        simp only[Ef,Exit.inBlock,if_neg he]
        exact⟨.exit i,T1,M1,ρ1,rfl,k1,k2,k3,k4⟩
   | loop c1 =>
     simp only[wpC] at h
     obtain⟨I,n,hI,hbody⟩:=h
     have hvs:∀ t∈bitsOf (fH f c1 &&& fO ret f env c1 (fO ret f env c1 0)) nt,Nat.testBit (fH f c1) t=true:=fun t' ht'=>by
      have:=(pX.1 ht').2
      rw[Nat.testBit_and,Bool.and_eq_true] at this
      exact this.1
     generalize hv:bitsOf (fH f c1 &&& fO ret f env c1 (fO ret f env c1 0)) nt=vs at hI hbody hvs
     have hu:∀ (ρ ρ' : Ren) (x:AV),af ρ x undef→af ρ' x undef:=by
      intro ρ ρ' x hx
      unfold undef at hx ⊢
      cases hx with
      | top=>exact .top _
      | sc v p=>exact .sc _ p
      | tup xs vs a=>cases a; exact .tup _ _ .nil
     have hge:∀ (ρ1:Ren) t,nt≤t→af ρ1 ((T.get t).getD .top) undef:=fun ρ1 t ht=>hu _ _ _ (hA.ge t ht)
     have key:∀ (m:Nat) (ys:List AV) (M1:RM) (ρ1:Ren) (a1:Act) (w1:World),I m ys M1→After P M0 ρ0 w0 M1 ρ1 w1→dV ρ1 nt (vQ T (bitsOf (fH f c1) nt) vs ys) a1 →
       Code.rounds P c1 (Lr P nt M0 ρ0 w0 T (fH (f + 1) (.loop c1)) K) (m + 1) a1 w1:=by
      intro m
      induction m using Nat.strongRecOn with
      | _ m ihm =>
        intro ys M1 ρ1 a1 w1 hIm hM1 hA1
        rw[rounds_succ]
        refine wp_mono (ih c1 _ _ _ _ _ (hbody m ys M1 hIm) M0 ρ0 w0 ρ1 a1 w1 hM1 hA1) fun e a' w' hp=>?_
        obtain⟨x,T2,M2,ρ2,rfl,k1,k2,k3,k4⟩:=hp
        have k3' : ∀ t,Nat.testBit (fH f c1) t=false→T2.get t=T.get t:=fun t ht=>by rw[k3 t ht]; exact CR hvs t ht
        cases x with
        | normal =>
          obtain⟨m',hlt,hI'⟩:=k4
          exact AZ (by omega) (ihm m' hlt _ M2 ρ2 a' w' hI' k1 (zG k2 (hge ρ2) k3'))
        | exit i=>exact⟨.exit i,T2,M2,ρ2,rfl,k1,k2,k3',k4⟩
        | ret=>exact⟨.ret,T2,M2,ρ2,rfl,k1,k2,k3',k4⟩
     exact wp_loop_rounds _ (key n _ M ρ a w hI hM (zG hA (hge ρ) fun _ _=>rfl))
   | exit id=>exact wp_exit ⟨.exit id,T,M,ρ,rfl,hM,hA,fun _ _=>rfl,h⟩
   | ret=>exact wp_ret ⟨.ret,T,M,ρ,rfl,hM,hA,fun _ _=>rfl,h⟩
   | rangeFunc=>simp[wpC] at h
   | scope c1 =>
     simp only[wpC] at h
     refine wp_scope_straight (wp_mono (ih c1 _ _ _ _ _ h M0 ρ0 w0 ρ a w hM hA) fun e a' w' hp=>?_)
     obtain⟨x,T1,M1,ρ1,rfl,k1,k2,k3,k4⟩:=hp
     cases x with
     | normal=>exact⟨.normal,T1,M1,ρ1,rfl,k1,k2,k3,k4⟩
     | exit i=>exact⟨.exit i,T1,M1,ρ1,rfl,k1,k2,k3,k4⟩
     | ret=>exact⟨.ret,T1,M1,ρ1,rfl,k1,k2,k3,k4⟩
   | label l=>exact wp_label ⟨.normal,T,M,ρ,rfl,hM,hA,fun _ _=>rfl,h⟩
   | goto=>simp[wpC] at h
   | refuse=>simp[wpC] at h
theorem JZ {ρ:Ren} {T:Tree AV} {M:RM} {a:Act} {w:World} (hA:dV ρ nt T a) (hw:bP P ρ M w) {r:ResultVar} {K:AV→Prop} (h:NE P T M r K) :
  ∃ v v',(ny a.tmps r).run P w=.ok v' w∧af ρ v v'∧K v:=by
 cases r with
 | tmp t=>exact⟨_,_,rfl,hA.val t,h⟩
 | cell x t =>
   simp only[NE] at h
   have hv:=hA.val x
   split at h <;> first | (cases h; done) | skip
   ·rename_i ha
    obtain⟨b,p,v,hx,hl,hk⟩:=h
    rw[hx] at hv
    obtain⟨i,hb,hc⟩:=bZ hv
    obtain⟨u,hu,hcell⟩:=EY hw hb hl
    refine⟨v,u, ?_,hu,hk⟩
    simp only[ny,hc,asAddr,Sem.run_bind,Sem.run_pure,Result.andThen_ok,loadVar,fw ha,Bool.false_eq_true,if_false,load,Sem.run,hcell]
   ·rename_i ha
    split at h <;> first | (cases h; done) | skip
    rename_i n hs
    obtain⟨b,p,xs,hx,hl,hk⟩:=h
    rw[hx] at hv
    obtain⟨i,hb,hc⟩:=bZ hv
    obtain⟨vs,hr,hlen,_,hrun⟩:=RM.ja (P:=P) hw hb hl
    exact⟨.agg xs,.agg ⟨vs⟩,by simp only[ny,hc,asAddr,Sem.run_bind,Sem.run_pure,Result.andThen_ok,loadVar,fw ha,if_true,bM hs,hrun],.agg _ _ hr,hk⟩
theorem vN {ρ:Ren} {T:Tree AV} {M:RM} {a:Act} {w:World} (hA:dV ρ nt T a) (hw:bP P ρ M w) : ∀ (rs:List ResultVar) (K:List AV→Prop),NG P T M rs K →
  ∃ vs us,(rs.mapM (ny a.tmps)).run P w=.ok us w∧aD ρ vs us∧K vs
 | [],K,h=>⟨[],[],by simp,.nil,h⟩
 | r :: rs,K,h=>by
   obtain⟨v,v',h1,h2,h3⟩:=JZ hA hw h
   obtain⟨vs,us,h4,h5,h6⟩:=vN hA hw rs _ h3
   refine⟨v :: vs,v' :: us, ?_,.cons _ _ _ _ h2 h5,h6⟩
   simp only[List.mapM_cons,Sem.run_bind,h1,Result.andThen_ok,h4,Sem.run_pure]
theorem Er (hP:De P) {f:FuncId} {fn:Func} {c:Code} {args:List AV} {M:RM} {Q:ai} (hfn:P.funcs[f]?=some fn) (hbody:fn.body=some c) (h:LW P fn c args M Q) : eP P f args M Q:=by
 refine⟨⟨fn,c,hfn,hbody⟩,fun ρ w us hargs hw=>?_⟩
 have hlen:=hargs.length
 have hA:dV ρ (args.length + (fn.ntmps - args.length)) (Tree.ofList args 0 .leaf) { tmps:=⟨us⟩++Array.replicate (fn.ntmps - (⟨us⟩ : Array Value).size) undef,defers:=[] } := by
  refine⟨by simp[hlen],fun t=>?_,rfl⟩
  rw[Tree.jQ]
  by_cases ht:t<args.length
  ·rw[if_pos (by omega),Nat.sub_zero]
   obtain⟨u,hu,hv⟩:=hargs.get (n:=t) (x:=args[t]) (by simp[ht])
   rw[List.getElem?_eq_getElem ht]
   simp only[Option.getD_some]
   have:((⟨us⟩ : Array Value)++Array.replicate (fn.ntmps - (⟨us⟩ : Array Value).size) undef).getD t undef=u:=by
    rw[Array.getD_eq_getD_getElem?,Array.getElem?_append_left (by simp; omega)]
    simp[hu]
   rw[this]; exact hv
  ·rw[if_neg (by omega)]
   exact .top _
 refine calls_of_wp hfn hbody (wp_mono (MR hP 1000 c [] 0 _ M _ h M ρ w ρ _ w (After.refl hw) hA) fun e a w' hp=>?_)
 obtain⟨x,T',M',ρ',rfl,k1,k2,k3,k4⟩:=hp
 have key:(∃ vs us,(fn.results.toList.mapM (ny a.tmps)).run P w'=.ok us w'∧aD ρ' vs us∧QK Q M' vs) →
   a.defers=[]∧∃ v,(results fn a.tmps).run P w'=.ok v w'∧∃ v' v_1 Qq Ra,Ending.returned v=.returned v'∧After P M ρ w Qq Ra w'∧af Ra v_1 v'∧Q v_1 Qq:=by
  rintro⟨vs,us,h1,h2,h3⟩
  have hres:(results fn a.tmps).run P w'=.ok (if h:(⟨us⟩ : Array Value).size=1 then(⟨us⟩ : Array Value)[0] else .tuple ⟨us⟩) w':=by
   have e:results fn a.tmps=(fn.results.mapM (ny a.tmps) >>= fun vs=>pure (if h:vs.size=1 then vs[0] else .tuple vs)):=rfl
   rw[e,Array.mapM_eq_mapM_toList]
   simp only[Sem.run_bind,Sem.run_map,h1,Result.andThen_ok,Sem.run_pure]
  refine⟨k2.defers,_,hres, ?_⟩
  cases h2 with
  | nil=>exact⟨_,_,M',ρ',rfl,k1,.tup _ _ .nil,h3⟩
  | cons x v xs vs2 hv htl =>
    cases htl with
    | nil=>exact⟨_,x,M',ρ',rfl,k1,hv,h3⟩
    | cons y u ys us2 hu UA=>exact⟨_,_,M',ρ',rfl,k1,.tup _ _ (.cons _ _ _ _ hv (.cons _ _ _ _ hu UA)),h3⟩
 cases x with
 | normal=>exact key (vN k2 k1.rel _ _ k4)
 | ret=>exact key (vN k2 k1.rel _ _ k4)
 | exit id=>exact k4.elim
abbrev ak:=List AV→RM→ai→Prop
def Ei (P:Program) (fn:Func) (args:List AV) (M:RM) (Q:ai) : Prop :=
 match fn.body with
 | some c=>LW P fn c args M Q
 | none=>False
theorem Ni (hP:De P) {f:FuncId} {fn:Func} {args:List AV} {M:RM} {Q:ai} (hfn:P.funcs[f]?=some fn) (h:Ei P fn args M Q) : eP P f args M Q:=by
 unfold Ei at h
 split at h
 ·rename_i c hc; exact Er hP hfn hc h
 ·cases h
end
end Go.Ab
set_option maxRecDepth 100000
namespace Go.Ab.Vl
open Go Go.Ab
def kE (p1:Nat) (p2 p3 p4 p5 p6 p7:ak) (a0:AV) (M0:RM) (Q:ai) : Prop :=
 nX p1 a0 fun vs Z =>
 dm vs Z M0 fun e S =>
 p2 [] S fun vt i =>
 gp vt fun vu =>
 aj vu (
 Q (Bo false) i) (
 aF e 3 fun vv =>
 av i vv fun vw =>
 aP vw fun vx =>
 ag .gtr vx (N .i64 3000) fun h =>
 aa h false (fun c=>aF e 2 fun vy =>
 c vy i) (fun c=>c .undef i) fun vz m =>
 aa h false (fun vf=>av m vz fun v0 =>
 vf v0 m) (fun c=>c .undef m) fun v1 E =>
 aa h false (fun vp=>d9 v1 fun v2 =>
 vp v2 E) (fun c=>c .undef E) fun v3 G =>
 aa h false (fun vq=>ag .gtr v3 (N .i64 10) fun v4 =>
 vq v4 G) (fun c=>c .undef G) fun v5 t =>
 ay h (Bo true) v5 fun v6 =>
 aj v6 (
 Q (Bo true) t) (
 bQ (fun vr s g =>
 aF e 2 fun v7 =>
 av g v7 fun v8 =>
 d9 v8 fun v9 =>
 ag .lss (ae s 0) v9 fun wa =>
 aj wa (
 aF e 2 fun wc =>
 av g wc fun wd =>
 bN wd (ae s 0) 2 fun we =>
 aF we 1 fun wf =>
 av g wf fun wg =>
 d9 wg fun wh =>
 ag .gtr wh (N .i64 10) fun wi =>
 aj wi (
 Q (Bo true) g) (
 ag .add (ae s 0) (N .i64 1) fun wb =>
 vr [wb] g)) (
 bg g e 5 fun wj =>
 p3 [wj] g fun H u =>
 bD H 0 fun I =>
 bD H 1 fun L =>
 bg u e 5 fun wk =>
 p4 [wk] u fun wl U =>
 p5 [wl] U fun O v =>
 bD O 0 fun wm =>
 bD O 1 fun wn =>
 ag .neq L wn fun j =>
 aa j false (fun va=>va I v) (fun c=>c .undef v) fun wo w =>
 aa j false (fun vb=>vb wm w) (fun c=>c .undef w) fun wp x =>
 aa j false (fun vc=>bF .neq wo wp fun wq =>
 vc wq x) (fun c=>c .undef x) fun wr n =>
 ay j (Bo true) wr fun ws =>
 aj ws (
 Q (Bo false) n) (
 ag .neq L (N .i64 0) fun wt =>
 aj wt (
 Q (Bo true) n) (
 p6 [I] n fun r y =>
 bD r 0 fun P =>
 bD r 1 fun xl =>
 bD r 2 fun wu =>
 ag .eql wu (N .i64 0) fun l =>
 dx l true (fun vd=>vd P y none) (fun c=>c .undef y none) fun wv z xe =>
 dx l true (fun ve=>d9 wv fun ww =>
 ve ww z none) (fun c=>c .undef z none) fun wx A xf =>
 dx l true (fun vg=>ag .eql wx (N .i64 1) fun wy =>
 vg wy A none) (fun c=>c .undef A none) fun wz B xg =>
 ay l wz (Bo false) fun d =>
 dx d true (fun vh=>vh P B none) (fun c=>c .undef B none) fun w0 C xh =>
 dx d true (fun vi=>bN w0 (N .i64 0) 5 fun w1 =>
 vi w1 C none) (fun c=>c .undef C none) fun w2 o xi =>
 dx d true (fun vj=>bg o w2 5 fun w3 =>
 vj w3 o none) (fun c=>c .undef o none) fun w4 p xj =>
 dx d true (fun vk=>bg p e 5 fun w7 =>
 vk w7 p none) (fun c=>c .undef p none) fun R D xk =>
 aa d true (fun vl=>p4 [w4] D fun w5 V =>
 vl w5 V) (fun c=>c .undef D) fun w6 q =>
 Mi d true (fun vm=>bg q e 5 fun w8 =>
 (w8=R∧vm)) (fun c=>c) (aa d true (fun vn=>p4 [R] q fun w9 W =>
 vn w9 W) (fun c=>c .undef q) fun xa F =>
 aa d true (fun vo=>p7 [w6,xa] F fun xb X =>
 vo xb X) (fun c=>c .undef F) fun xc Y =>
 ay d xc (Bo false) fun xd =>
 Q xd Y))))) [(N .i64 0)] t))
def pI (p1:Nat) (p2 p3 p4:ak) (a0:AV) (M0:RM) (Q:ai) : Prop :=
 nX p1 a0 fun l j =>
 dm l j M0 fun g d =>
 bg d g 5 fun q =>
 p2 [q] d fun r c =>
 gp r fun s =>
 aj s (
 Q (.tup [(St []),(N .i64 1)]) c) (
 bg c g 5 fun t =>
 p3 [t] c fun h e =>
 aP h fun m =>
 ag .gtr m (N .i64 912) fun n =>
 aj n (
 Q (.tup [(St []),(N .i64 2)]) e) (
 p4 [h] e fun o i =>
 bF .add o (St [13,10]) fun p =>
 Q (.tup [p,(N .i64 0)]) i))
def rM (p1 p2:ak) (p3:Nat) (a0:AV) (M0:RM) (Q:ai) : Prop :=
 p1 [a0] M0 fun m p =>
 bD m 0 fun n =>
 bD m 1 fun h =>
 d9 n fun z =>
 bQ (fun x c d =>
 ag .lss (ae c 1) z fun A =>
 aj A (
 dM (fun j =>
 bN n (ae c 1) 1 fun B =>
 av d B fun i =>
 bF .eql i (St []) fun C =>
 aj C (
 j [(ae c 0)] d) (
 aP i fun D =>
 ag .gtr D (N .i64 912) fun E =>
 aj E (
 bN h (ae c 1) 1 fun F =>
 av d F fun G =>
 Q (.tup [(.sc (.slice none 0 0)),G,(N .i64 2)]) d) (
 p2 [i] d fun o q =>
 bD o 0 fun H =>
 bD o 1 fun I =>
 dm (.row [(St []),(St []),(.sc (.slice none 0 0)),(St []),(N .i64 0)] false p3 0) (fun v=>.ptr v 0) q fun g r =>
 aO r g H 5 fun e =>
 gp I fun L =>
 aj L (
 bN h (ae c 1) 1 fun O =>
 av e O fun P =>
 Q (.tup [(.sc (.slice none 0 0)),P,(N .i64 3)]) e) (
 bN h (ae c 1) 1 fun R =>
 av e R fun S =>
 aF g 4 fun U =>
 aO e U S 1 fun l =>
 bg l g 5 fun V =>
 ic p3 1 [(St []),(St []),(.sc (.slice none 0 0)),(St []),(N .i64 0)] [(0,5,V)] fun y w =>
 dm y w l fun W s =>
 appW p3 5 80 [(St []),(St []),(.sc (.slice none 0 0)),(St []),(N .i64 0)] false (ae c 0) W s fun X t =>
 j [X] t)))) (fun Z u =>
 ag .add (ae c 1) (N .i64 1) fun Y =>
 x [(ae Z 0),Y] u)) (
 Q (.tup [(ae c 0),(N .i64 0),(N .i64 0)]) d)) [(.sc (.slice none 0 0)),(N .i64 0)] p
def nN (p1 p2:ak) (p3 p4:Nat) (a0:AV) (M0:RM) (Q:ai) : Prop :=
 bQ (fun vc d p =>
 bF .neq (ae d 0) (St []) fun vf =>
 aj vf (
 dM (fun n =>
 p1 [(ae d 0),(St [10])] p fun j q =>
 bD j 0 fun B =>
 bD j 1 fun C =>
 bD j 2 fun vh =>
 dM (fun o =>
 aj vh (
 p2 [B,(St [13])] q fun vi E =>
 o [vi] E) (
 o [B] q)) (fun g y =>
 d9 (ae d 1) fun vj =>
 ag .gtr vj (N .i64 0) fun l =>
 aa l true (fun c=>c (ae g 0) y) (fun c=>c .undef y) fun vk z =>
 aa l true (fun va=>bF .neq vk (St []) fun vl =>
 va vl z) (fun c=>c .undef z) fun vm A =>
 ay l vm (Bo false) fun e =>
 aa e true (fun vb=>vb (ae g 0) A) (fun c=>c .undef A) fun vn r =>
 aa e true (fun S=>bL vn (N .i64 0) fun vo =>
 S vo r) (fun c=>c .undef r) fun vp s =>
 aa e true (fun U=>ag .eql vp (N .u8 32) fun vq =>
 U vq s) (fun c=>c .undef s) fun vr t =>
 aa e true (fun V=>V vr t) (fun c=>c .undef t) fun h u =>
 aa h false (fun W=>W (ae g 0) u) (fun c=>c .undef u) fun vs v =>
 aa h false (fun X=>bL vs (N .i64 0) fun vt =>
 X vt v) (fun c=>c .undef v) fun vu w =>
 aa h false (fun Y=>ag .eql vu (N .u8 9) fun vv =>
 Y vv w) (fun c=>c .undef w) fun vw x =>
 aa e true (fun Z=>ay h (Bo true) vw fun vx =>
 Z vx x) (fun c=>c .undef x) fun vy i =>
 ay e vy (Bo false) fun vz =>
 aj vz (
 d9 (ae d 1) fun v0 =>
 ag .sub v0 (N .i64 1) fun D =>
 bN (ae d 1) D 1 fun v1 =>
 av i v1 fun v2 =>
 bJ (aC (ae g 0) (some (N .i64 1)) none) fun v3 =>
 bF .add v2 v3 fun v4 =>
 bN (ae d 1) D 1 fun v5 =>
 aO i v5 v4 1 fun F =>
 n [C,(ae d 1),(ae d 2)] F) (
 ic p3 1 [(St [])] [(0,1,(ae g 0))] fun vd P =>
 dm vd P i fun v6 G =>
 appW p3 1 16 [(St [])] false (ae d 1) v6 G fun v7 H =>
 ic p4 1 [(N .i64 0)] [(0,1,(ae d 3))] fun ve R =>
 dm ve R H fun v8 I =>
 appW p4 1 8 [(N .i64 0)] false (ae d 2) v8 I fun v9 L =>
 n [C,v7,v9] L))) (fun m O =>
 ag .add (ae d 3) (N .i64 1) fun vg =>
 vc [(ae m 0),(ae m 1),(ae m 2),vg] O)) (
 Q (.tup [(ae d 1),(ae d 2)]) p)) [a0,(.sc (.slice none 0 0)),(.sc (.slice none 0 0)),(N .i64 1)] M0
def q9 (p1:Nat) (a0 a1:AV) (M0:RM) (Q:ai) : Prop :=
 nX p1 a0 fun wc vd =>
 dm wc vd M0 fun g vc =>
 nX p1 a1 fun wd ve =>
 dm wd ve vc fun l o =>
 aF g 0 fun yl =>
 av o yl fun yv =>
 aF l 0 fun y3 =>
 av o y3 fun we =>
 bF .neq yv we fun m =>
 aa m false (fun c=>aF g 1 fun wh =>
 c wh o) (fun c=>c .undef o) fun wi u =>
 aa m false (fun vu=>av u wi fun wj =>
 vu wj u) (fun c=>c .undef u) fun wk W =>
 aa m false (fun v3=>aF l 1 fun wl =>
 v3 wl W) (fun c=>c .undef W) fun wm q =>
 aa m false (fun vh=>av q wm fun wn =>
 vh wn q) (fun c=>c .undef q) fun wo D =>
 aa m false (fun vi=>bF .neq wk wo fun wp =>
 vi wp D) (fun c=>c .undef D) fun wq E =>
 ay m (Bo true) wq fun n =>
 aa n false (fun vj=>aF g 3 fun wr =>
 vj wr E) (fun c=>c .undef E) fun ws r =>
 aa n false (fun vk=>av r ws fun wt =>
 vk wt r) (fun c=>c .undef r) fun wu F =>
 aa n false (fun vl=>aF l 3 fun wv =>
 vl wv F) (fun c=>c .undef F) fun ww s =>
 aa n false (fun vm=>av s ww fun wx =>
 vm wx s) (fun c=>c .undef s) fun wy G =>
 aa n false (fun vn=>bF .neq wu wy fun wz =>
 vn wz G) (fun c=>c .undef G) fun w0 H =>
 ay n (Bo true) w0 fun j =>
 aa j false (fun vo=>aF g 2 fun w1 =>
 vo w1 H) (fun c=>c .undef H) fun w2 t =>
 aa j false (fun vp=>av t w2 fun w3 =>
 vp w3 t) (fun c=>c .undef t) fun w4 I =>
 aa j false (fun vq=>d9 w4 fun w5 =>
 vq w5 I) (fun c=>c .undef I) fun w6 L =>
 aa j false (fun vr=>aF l 2 fun w7 =>
 vr w7 L) (fun c=>c .undef L) fun w8 v =>
 aa j false (fun vs=>av v w8 fun w9 =>
 vs w9 v) (fun c=>c .undef v) fun xa O =>
 aa j false (fun vt=>d9 xa fun xb =>
 vt xb O) (fun c=>c .undef O) fun xc P =>
 aa j false (fun vv=>ag .neq w6 xc fun xd =>
 vv xd P) (fun c=>c .undef P) fun xe R =>
 ay j (Bo true) xe fun xf =>
 aj xf (
 Q (Bo false) R) (
 bQ (fun wa h i =>
 aF g 2 fun xg =>
 av i xg fun xh =>
 d9 xh fun xi =>
 ag .lss (ae h 0) xi fun xj =>
 aj xj (
 aF g 2 fun xl =>
 av i xl fun xm =>
 bN xm (ae h 0) 2 fun xn =>
 aF xn 0 fun xo =>
 av i xo fun xp =>
 aF l 2 fun xq =>
 av i xq fun xr =>
 bN xr (ae h 0) 2 fun xs =>
 aF xs 0 fun xt =>
 av i xt fun xu =>
 bF .neq xp xu fun d =>
 dx d false (fun vw=>aF g 2 fun xv =>
 vw xv i none) (fun c=>c .undef i none) fun xw w zc =>
 dx d false (fun vx=>av w xw fun xx =>
 vx xx w none) (fun c=>c .undef w none) fun xy S zg =>
 dx d false (fun vy=>vy (ae h 0) S none) (fun c=>c .undef S none) fun xz U zh =>
 dx d false (fun vz=>bN xy xz 2 fun x0 =>
 vz x0 U none) (fun c=>c .undef U none) fun x1 V zi =>
 dx d false (fun v0=>aF x1 1 fun x2 =>
 v0 x2 V none) (fun c=>c .undef V none) fun x3 x zj =>
 dx d false (fun v1=>av x x3 fun x4 =>
 v1 x4 x none) (fun c=>c .undef x none) fun x5 X zk =>
 dx d false (fun v2=>d9 x5 fun x6 =>
 v2 x6 X none) (fun c=>c .undef X none) fun x7 Y zl =>
 dx d false (fun v4=>aF l 2 fun x8 =>
 v4 x8 Y none) (fun c=>c .undef Y none) fun x9 y zm =>
 dx d false (fun v5=>av y x9 fun ya =>
 v5 ya y none) (fun c=>c .undef y none) fun yb Z zn =>
 dx d false (fun v6=>v6 (ae h 0) Z none) (fun c=>c .undef Z none) fun yc va zo =>
 dx d false (fun v7=>bN yb yc 2 fun yd =>
 v7 yd va none) (fun c=>c .undef va none) fun ye vb zp =>
 dx d false (fun v8=>aF ye 1 fun yf =>
 v8 yf vb none) (fun c=>c .undef vb none) fun yg z zq =>
 dx d false (fun v9=>av z yg fun yh =>
 v9 yh z none) (fun c=>c .undef z none) fun yi A zd =>
 dx d false (fun vf=>d9 yi fun yj =>
 vf yj A none) (fun c=>c .undef A none) fun yk B ze =>
 dx d false (fun vg=>ag .neq x7 yk fun ym =>
 vg ym B none) (fun c=>c .undef B none) fun yn C zf =>
 ay d (Bo true) yn fun yo =>
 aj yo (
 Q (Bo false) C) (
 bQ (fun wb p e =>
 aF g 2 fun yp =>
 av e yp fun yq =>
 bN yq (ae h 0) 2 fun yr =>
 aF yr 1 fun ys =>
 av e ys fun yt =>
 d9 yt fun yu =>
 ag .lss (ae p 0) yu fun yw =>
 aj yw (
 aF g 2 fun yy =>
 av e yy fun yz =>
 bN yz (ae h 0) 2 fun y0 =>
 aF y0 1 fun y1 =>
 av e y1 fun y2 =>
 bN y2 (ae p 0) 1 fun y4 =>
 av e y4 fun y5 =>
 aF l 2 fun y6 =>
 av e y6 fun y7 =>
 bN y7 (ae h 0) 2 fun y8 =>
 aF y8 1 fun y9 =>
 av e y9 fun za =>
 bN za (ae p 0) 1 fun zb =>
 av e zb fun wf =>
 bF .neq y5 wf fun wg =>
 aj wg (
 Q (Bo false) e) (
 ag .add (ae p 0) (N .i64 1) fun yx =>
 wb [yx] e)) (
 ag .add (ae h 0) (N .i64 1) fun xk =>
 wa [xk] e)) [(N .i64 0)] C)) (
 Q (Bo true) i)) [(N .i64 0)] R)
def wX (p1 p2 p3:Nat) (a0:AV) (M0:RM) (Q:ai) : Prop :=
 nX p1 a0 fun v s =>
 dm v s M0 fun d m =>
 dm (.row [(St []),(St []),(.sc (.slice none 0 0)),(St []),(N .i64 0)] false p2 0) (fun g=>.ptr g 0) m fun l e =>
 aF d 0 fun ve =>
 av e ve fun vf =>
 aF d 1 fun vg =>
 av e vg fun vh =>
 aF d 3 fun vi =>
 av e vi fun y =>
 aF d 4 fun z =>
 av e z fun A =>
 j4 [(St []),(St []),(.sc (.slice none 0 0)),(St []),(N .i64 0)] [(0,1,vf),(1,1,vh),(3,1,y),(4,1,A)] fun B =>
 dm (.row [(St []),(St []),(.sc (.slice none 0 0)),(St []),(N .i64 0)] false p2 0) (fun g=>.ptr g 0) e fun h n =>
 aO n h B 5 fun o =>
 bQ (fun u i c =>
 aF d 2 fun C =>
 av c C fun D =>
 d9 D fun E =>
 ag .lss (ae i 0) E fun F =>
 aj F (
 aF h 2 fun H =>
 av c H fun I =>
 aF d 2 fun L =>
 av c L fun O =>
 bN O (ae i 0) 2 fun P =>
 aF P 0 fun R =>
 av c R fun S =>
 aF d 2 fun U =>
 av c U fun V =>
 bN V (ae i 0) 2 fun W =>
 aF W 1 fun X =>
 av c X fun Y =>
 j4 [(St []),(.sc (.slice none 0 0))] [(0,1,S),(1,1,Y)] fun Z =>
 ic p3 1 [(St []),(.sc (.slice none 0 0))] [(0,2,Z)] fun w t =>
 OD w t c fun va p g =>
 appW p3 2 40 [(St []),(.sc (.slice none 0 0))] false I va p fun vb q =>
 aF h 2 fun vc =>
 aO q vc vb 1 fun r =>
 ag .add (ae i 0) (N .i64 1) fun G =>
 u [G] r) (
 bg c h 5 fun vd =>
 aO c l vd 5 fun j =>
 bg j l 5 fun x =>
 Q x j)) [(N .i64 0)] o
def pu (p1:Nat) (p2 p3 p4 p5 p6:ak) (a0:AV) (M0:RM) (Q:ai) : Prop :=
 nX p1 a0 fun H D =>
 dm H D M0 fun d h =>
 aF d 1 fun vu =>
 av h vu fun vv =>
 bg h d 5 fun u =>
 aF d 3 fun o =>
 av h o fun p =>
 p2 [vv] h fun vw i =>
 bg i d 5 fun I =>
 (I=u∧av i o fun S =>
 (S=p∧p3 [u,(Bo true),(St [44,59,58])] i fun L e =>
 av e o fun R =>
 (R=p∧bF .add vw L fun O =>
 bF .add O (St [58]) fun P =>
 bF .add P p fun v =>
 dM (fun r =>
 aF d 0 fun U =>
 av e U fun V =>
 bF .neq V (St []) fun W =>
 aj W (
 aF d 0 fun X =>
 av e X fun Y =>
 bF .add Y (St [46]) fun Z =>
 bF .add Z v fun va =>
 r [va] e) (
 r [v] e)) (fun q l =>
 aF d 3 fun vb =>
 av l vb fun vc =>
 aP vc fun vd =>
 ag .gtr vd (N .i64 100000) fun ve =>
 aj ve (
 Q (.tup [(St []),(N .i64 2)]) l) (
 p4 [(ae q 0)] l fun w A =>
 bD w 0 fun vf =>
 bD w 1 fun vg =>
 dm (.row [(St []),(St []),(.sc (.slice none 0 0)),(St []),(N .i64 0)] false p1 0) (fun C=>.ptr C 0) A fun x B =>
 aO B x vf 5 fun m =>
 gp vg fun g =>
 aa g false (fun c=>bg m x 5 fun vh =>
 c vh m) (fun c=>c .undef m) fun vi n =>
 aa g false (fun G=>bg n d 5 fun vj =>
 G vj n) (fun c=>c .undef n) fun vk s =>
 aa g false (fun E=>p5 [vi,vk] s fun vl y =>
 E vl y) (fun c=>c .undef s) fun vm t =>
 aa g false (fun F=>gp vm fun vn =>
 F vn t) (fun c=>c .undef t) fun vo j =>
 ay g (Bo true) vo fun vp =>
 aj vp (
 Q (.tup [(St []),(N .i64 1)]) j) (
 aP (ae q 0) fun vq =>
 ag .gtr vq (N .i64 912) fun vr =>
 aj vr (
 Q (.tup [(St []),(N .i64 2)]) j) (
 p6 [(ae q 0)] j fun vs z =>
 bF .add vs (St [13,10]) fun vt =>
 Q (.tup [vt,(N .i64 0)]) z)))))))
def rO (p1:Nat) (p2 p3 p4:ak) (a0:AV) (M0:RM) (Q:ai) : Prop :=
 dm (.row [(.sc (.pointer none)),(.sc (.slice none 0 0))] false p1 0) (fun q=>.ptr q 0) M0 fun d l =>
 bQ (fun r c g =>
 bF .neq (ae c 0) (St []) fun v =>
 aj v (
 p2 [(ae c 0),(ae c 1)] g fun i m =>
 bJ (aC (ae c 0) none (some i)) fun s =>
 p3 [d,s] m fun w h =>
 bJ (aC (ae c 0) (some i) none) fun j =>
 dM (fun e =>
 bF .neq j (St []) fun t =>
 aj t (
 p3 [d,(St [13,10,32])] h fun x n =>
 e [] n) (
 e [] h)) (fun y o =>
 r [j,(N .i64 74)] o)) (
 p4 [d] g fun u p =>
 Q u p)) [a0,(N .i64 75)] l
def qM (p1:Nat) (p2:ak) (a0:AV) (M0:RM) (Q:ai) : Prop :=
 Kj p1 1 [(N .u8 0)] (N .i64 0) (N .i64 0) fun v s =>
 dm v s M0 fun H n =>
 bQ (fun u c e =>
 aP (ae c 0) fun I =>
 ag .gtr I (N .i64 0) fun L =>
 aj L (
 p2 [(ae c 0)] e fun l i =>
 dM (fun g =>
 ag .eql l (N .i64 0) fun x =>
 aj x (
 g [(N .i64 1)] i) (
 g [l] i)) (fun d j =>
 dM (fun h =>
 ag .add (ae c 2) (ae d 0) fun y =>
 ag .gtr y (N .i64 75) fun z =>
 aj z (
 ic p1 3 [(N .u8 0)] [(0,1,(N .u8 13)),(1,1,(N .u8 10)),(2,1,(N .u8 32))] fun w t =>
 dm w t j fun A q =>
 appW p1 1 1 [(N .u8 0)] false (ae c 1) A q fun B r =>
 h [B,(N .i64 1)] r) (
 h [(ae c 1),(ae c 2)] j)) (fun m o =>
 bJ (aC (ae c 0) none (some (ae d 0))) fun C =>
 appW p1 1 1 [(N .u8 0)] false (ae m 0) C o fun D p =>
 ag .add (ae m 1) (ae d 0) fun E =>
 bJ (aC (ae c 0) (some (ae d 0)) none) fun F =>
 u [F,D,E] p))) (
 mZ e (ae c 1) fun G =>
 Q G e)) [a0,H,(N .i64 0)] n
def nJ (p1:ak) (a0:AV) (M0:RM) (Q:ai) : Prop :=
 bQ (fun h c d =>
 aP (ae c 0) fun l =>
 ag .gtr l (N .i64 0) fun m =>
 aj m (
 p1 [(ae c 0)] d fun g e =>
 ag .eql g (N .i64 0) fun i =>
 aj i (
 Q (Bo false) e) (
 bJ (aC (ae c 0) (some g) none) fun j =>
 h [j] e)) (
 Q (Bo true) d)) [a0] M0
def gQ (p1:ak) (p2:Nat) (a0 a1:AV) (M0:RM) (Q:ai) : Prop :=
 p1 [a0] M0 fun r c =>
 pG a0 fun q =>
 aF q 1 fun j =>
 av c j fun l =>
 ic p2 1 [(N .u8 0)] [(0,1,a1)] fun i h =>
 dm i h c fun m d =>
 appW p2 1 1 [(N .u8 0)] false l m d fun n e =>
 pG a0 fun o =>
 aF o 1 fun p =>
 aO e p n 1 fun g =>
 Q (.sc .nilIface) g
def nH (p1:ak) (a0 a1:AV) (M0:RM) (Q:ai) : Prop :=
 p1 [a0,a1] M0 fun d c =>
 Q d c
def iK (p1:Nat) (a0:AV) (M0:RM) (Q:ai) : Prop :=
 pG a0 fun i =>
 aF i 1 fun j =>
 av M0 j fun l =>
 yR l fun m =>
 pG a0 fun n =>
 aF n 1 fun d =>
 av M0 d fun e =>
 d9 e fun g =>
 Px p1 m g M0 fun h c =>
 Q h c
def rJ (p1:Nat) (p2 p3:ak) (p4:Nat) (p5:ak) (p6:Nat) (a0:AV) (M0:RM) (Q:ai) : Prop :=
 nX p1 a0 fun vr X =>
 dm vr X M0 fun d m =>
 aF d 0 fun w3 =>
 av m w3 fun w4 =>
 bF .neq w4 (St []) fun i =>
 aa i true (fun c=>aF d 0 fun w5 =>
 c w5 m) (fun c=>c .undef m) fun w6 n =>
 aa i true (fun vb=>av n w6 fun vs =>
 vb vs n) (fun c=>c .undef n) fun vt B =>
 aa i true (fun vk=>p2 [vt] B fun vu U =>
 vk vu U) (fun c=>c .undef B) fun vv L =>
 aa i true (fun vp=>gp vv fun vw =>
 vp vw L) (fun c=>c .undef L) fun vx v =>
 ay i vx (Bo false) fun e =>
 aa e false (fun Y=>aF d 1 fun vy =>
 Y vy v) (fun c=>c .undef v) fun vz o =>
 aa e false (fun Z=>av o vz fun v0 =>
 Z v0 o) (fun c=>c .undef o) fun v1 w =>
 aa e false (fun va=>p2 [v1] w fun v2 P =>
 va v2 P) (fun c=>c .undef w) fun v3 x =>
 aa e false (fun vc=>gp v3 fun v4 =>
 vc v4 x) (fun c=>c .undef x) fun v5 y =>
 ay e (Bo true) v5 fun g =>
 aa g false (fun vd=>aF d 3 fun v6 =>
 vd v6 y) (fun c=>c .undef y) fun v7 p =>
 aa g false (fun ve=>av p v7 fun v8 =>
 ve v8 p) (fun c=>c .undef p) fun v9 z =>
 aa g false (fun vf=>p3 [v9,(St [])] z fun wa R =>
 vf wa R) (fun c=>c .undef z) fun wb A =>
 aa g false (fun vg=>gp wb fun wc =>
 vg wc A) (fun c=>c .undef A) fun wd q =>
 ay g (Bo true) wd fun we =>
 aj we (
 Q (Bo false) q) (
 aF d 2 fun wf =>
 av q wf fun O =>
 d9 O fun wg =>
 bQ (fun vq u r =>
 ag .lss (ae u 0) wg fun wh =>
 aj wh (
 bN O (ae u 0) 2 fun wi =>
 bg r wi 2 fun wj =>
 dm (.row [(St []),(.sc (.slice none 0 0))] false p4 0) (fun W=>.ptr W 0) r fun j S =>
 aO S j wj 2 fun C =>
 aF j 0 fun wk =>
 av C wk fun wl =>
 p2 [wl] C fun wm D =>
 gp wm fun h =>
 aa h false (fun vh=>aF j 1 fun wn =>
 vh wn D) (fun c=>c .undef D) fun wo s =>
 aa h false (fun vi=>av s wo fun wp =>
 vi wp s) (fun c=>c .undef s) fun wq E =>
 aa h false (fun vj=>d9 wq fun wr =>
 vj wr E) (fun c=>c .undef E) fun ws F =>
 aa h false (fun vl=>ag .eql ws (N .i64 0) fun wt =>
 vl wt F) (fun c=>c .undef F) fun wu G =>
 ay h (Bo true) wu fun l =>
 aa l false (fun vm=>aF j 1 fun wv =>
 vm wv G) (fun c=>c .undef G) fun ww t =>
 aa l false (fun vn=>av t ww fun wx =>
 vn wx t) (fun c=>c .undef t) fun wy H =>
 aa l false (fun vo=>p5 [wy,(.fn (.func p6) [] [])] H fun wz V =>
 vo wz V) (fun c=>c .undef H) fun w0 I =>
 ay l (Bo true) w0 fun w1 =>
 aj w1 (
 Q (Bo false) I) (
 ag .add (ae u 0) (N .i64 1) fun w2 =>
 vq [w2] I)) (
 Q (Bo true) r)) [(N .i64 0)] q)
def qW (p1 p2:Nat) (p3 p4:ak) (p5:Nat) (p6 p7 p8:ak) (a0:AV) (M0:RM) (Q:ai) : Prop :=
 nX p1 a0 fun V R =>
 dm V R M0 fun d C =>
 dm (.row [(.sc (.pointer none)),(.sc (.slice none 0 0))] false p2 0) (fun j=>.ptr j 0) C fun c e =>
 dM (fun o =>
 aF d 0 fun v1 =>
 av e v1 fun v2 =>
 bF .neq v2 (St []) fun W =>
 aj W (
 aF d 0 fun X =>
 av e X fun Y =>
 bF .add Y (St [46]) fun Z =>
 p3 [c,Z] e fun v4 D =>
 o [] D) (
 o [] e)) (fun v9 s =>
 aF d 1 fun va =>
 av s va fun vb =>
 p4 [vb] s fun vc L =>
 p3 [c,vc] L fun v5 v =>
 aF d 2 fun vd =>
 av v vd fun x =>
 d9 x fun ve =>
 bQ (fun S n h =>
 ag .lss (ae n 0) ve fun vf =>
 aj vf (
 bN x (ae n 0) 2 fun vg =>
 bg h vg 2 fun vh =>
 dm (.row [(St []),(.sc (.slice none 0 0))] false p5 0) (fun j=>.ptr j 0) h fun m O =>
 aO O m vh 2 fun w =>
 aF m 0 fun vi =>
 av w vi fun vj =>
 p4 [vj] w fun vk P =>
 bF .add (St [59]) vk fun vl =>
 bF .add vl (St [61]) fun vm =>
 p3 [c,vm] P fun v6 r =>
 aF m 1 fun vn =>
 av r vn fun y =>
 d9 y fun vo =>
 bQ (fun U i g =>
 ag .lss (ae i 0) vo fun vp =>
 aj vp (
 dM (fun B =>
 bN y (ae i 0) 1 fun vq =>
 av g vq fun l =>
 dM (fun p =>
 ag .gtr (ae i 0) (N .i64 0) fun vr =>
 aj vr (
 p6 [c,(N .u8 44)] g fun v7 E =>
 p [] E) (
 p [] g)) (fun wa F =>
 dM (fun q =>
 p7 [l,(St [44,59,58])] F fun vs t =>
 aj vs (
 bF .add (St [34]) l fun vt =>
 bF .add vt (St [34]) fun vu =>
 q [vu] t) (
 q [l] t)) (fun v3 G =>
 p3 [c,(ae v3 0)] G fun v8 H =>
 B [] H))) (fun wb I =>
 ag .add (ae i 0) (N .i64 1) fun vv =>
 U [vv] I)) (
 ag .add (ae n 0) (N .i64 1) fun vw =>
 S [vw] g)) [(N .i64 0)] r) (
 aF d 3 fun z =>
 av h z fun A =>
 p8 [c] h fun vx u =>
 av u z fun vz =>
 (vz=A∧bF .add vx (St [58]) fun vy =>
 bF .add vy A fun v0 =>
 Q v0 u))) [(N .i64 0)] v)
def rD (p1:Nat) (p2 p3 p4 p5 p6 p7:ak) (a0:AV) (M0:RM) (Q:ai) : Prop :=
 dm (.row [(St []),(St []),(.sc (.slice none 0 0)),(St []),(N .i64 0)] false p1 0) (fun n=>.ptr n 0) M0 fun e S =>
 p2 [a0] S fun w0 r =>
 gp w0 fun w1 =>
 aj w1 (
 j4 [(St []),(St []),(.sc (.slice none 0 0)),(St []),(N .i64 0)] [] fun vs =>
 aO r e vs 5 fun s =>
 bg s e 5 fun vo =>
 Q (.tup [vo,(Bo false)]) s) (
 dm (.row [(St []),(St []),(.sc (.slice none 0 0)),(St []),(N .i64 0)] false p1 0) (fun n=>.ptr n 0) r fun d X =>
 p3 [a0] X fun O va =>
 bD O 0 fun vt =>
 bD O 1 fun o =>
 aF d 1 fun vu =>
 aO va vu vt 1 fun vb =>
 dM (fun q =>
 p4 [o,(St [46])] vb fun vv m =>
 aj vv (
 aF d 1 fun vw =>
 av m vw fun vx =>
 aF d 0 fun vy =>
 aO m vy vx 1 fun H =>
 aF d 0 fun vz =>
 av H vz fun v0 =>
 p5 [v0] H fun v1 I =>
 gp v1 fun v2 =>
 aj v2 (
 j4 [(St []),(St []),(.sc (.slice none 0 0)),(St []),(N .i64 0)] [] fun v3 =>
 aO I e v3 5 fun L =>
 bg L e 5 fun vr =>
 Q (.tup [vr,(Bo false)]) L) (
 bJ (aC o (some (N .i64 1)) none) fun v4 =>
 p3 [v4] I fun P U =>
 bD P 0 fun v5 =>
 bD P 1 fun v6 =>
 aF d 1 fun v7 =>
 aO U v7 v5 1 fun V =>
 q [v6] V)) (
 q [o] m)) (fun w2 W =>
 p6 [(ae w2 0)] W fun p t =>
 bD p 0 fun v8 =>
 bD p 1 fun i =>
 bD p 2 fun v9 =>
 gp v9 fun g =>
 aa g false (fun c=>aF d 1 fun wa =>
 c wa t) (fun c=>c .undef t) fun wb l =>
 aa g false (fun ve=>av l wb fun wc =>
 ve wc l) (fun c=>c .undef l) fun wd u =>
 aa g false (fun vf=>p5 [wd] u fun we Y =>
 vf we Y) (fun c=>c .undef u) fun wf v =>
 aa g false (fun vg=>gp wf fun wg =>
 vg wg v) (fun c=>c .undef v) fun wh w =>
 ay g (Bo true) wh fun j =>
 aa j false (fun vh=>vh i w) (fun c=>c .undef w) fun wi x =>
 aa j false (fun vi=>p4 [wi,(St [58])] x fun wj Z =>
 vi wj Z) (fun c=>c .undef x) fun wk y =>
 aa j false (fun vj=>gp wk fun wl =>
 vj wl y) (fun c=>c .undef y) fun wm z =>
 ay j (Bo true) wm fun h =>
 aa h false (fun vk=>vk i z) (fun c=>c .undef z) fun wn A =>
 aa h false (fun vl=>bJ (aC wn (some (N .i64 1)) none) fun wo =>
 vl wo A) (fun c=>c .undef A) fun wp B =>
 aa h false (fun vm=>p7 [wp,(St [])] B fun wq vc =>
 vm wq vc) (fun c=>c .undef B) fun wr C =>
 aa h false (fun vn=>gp wr fun ws =>
 vn ws C) (fun c=>c .undef C) fun wt D =>
 ay h (Bo true) wt fun wu =>
 aj wu (
 j4 [(St []),(St []),(.sc (.slice none 0 0)),(St []),(N .i64 0)] [] fun wv =>
 aO D e wv 5 fun E =>
 bg E e 5 fun vp =>
 Q (.tup [vp,(Bo false)]) E) (
 bJ (aC i (some (N .i64 1)) none) fun R =>
 aF d 2 fun wx =>
 aO D wx v8 1 fun vd =>
 bJ (aC i (some (N .i64 1)) none) fun ww =>
 (ww=R∧aF d 3 fun wy =>
 aO vd wy R 1 fun F =>
 bg F d 5 fun wz =>
 aO F e wz 5 fun G =>
 bg G e 5 fun vq =>
 Q (.tup [vq,(Bo true)]) G))))
def pM (p1:Nat) (p2 p3 p4:ak) (p5:Nat) (p6 p7:ak) (a0:AV) (M0:RM) (Q:ai) : Prop :=
 dm (.row [(St []),(St []),(.sc (.slice none 0 0)),(St []),(N .i64 0)] false p1 0) (fun n=>.ptr n 0) M0 fun d vv =>
 j4 [(St []),(St []),(.sc (.slice none 0 0)),(St []),(N .i64 0)] [] fun zp =>
 dm (.row [(St []),(St []),(.sc (.slice none 0 0)),(St []),(N .i64 0)] false p1 0) (fun n=>.ptr n 0) vv fun e vw =>
 aO vw e zp 5 fun vx =>
 p2 [a0] vx fun xh u =>
 gp xh fun xq =>
 aj xq (
 bg u e 5 fun x0 =>
 aO u d x0 5 fun V =>
 bg V d 5 fun w1 =>
 Q (.tup [w1,(Bo false)]) V) (
 p3 [a0] u fun g Z =>
 dM (fun H =>
 aP a0 fun ya =>
 ag .lss g ya fun o =>
 aa o true (fun c=>c a0 Z) (fun c=>c .undef Z) fun yb ve =>
 aa o true (fun wp=>wp g ve) (fun c=>c .undef ve) fun yc vm =>
 aa o true (fun wu=>bL yb yc fun yd =>
 wu yd vm) (fun c=>c .undef vm) fun ye I =>
 aa o true (fun wb=>ag .eql ye (N .u8 46) fun yf =>
 wb yf I) (fun c=>c .undef I) fun yg L =>
 ay o yg (Bo false) fun yh =>
 aj yh (
 bJ (aC a0 none (some g)) fun yi =>
 p4 [yi] L fun yj vy =>
 aF e 0 fun yk =>
 aO vy yk yj 1 fun O =>
 ag .lss g (N .i64 1) fun C =>
 aa C false (fun wc=>wc g O) (fun c=>c .undef O) fun yl P =>
 aa C false (fun wd=>ag .gtr yl (N .i64 20) fun ym =>
 wd ym P) (fun c=>c .undef P) fun yn v =>
 ay C (Bo true) yn fun yo =>
 aj yo (
 bg v e 5 fun yp =>
 aO v d yp 5 fun R =>
 bg R d 5 fun w3 =>
 Q (.tup [w3,(Bo false)]) R) (
 ag .add g (N .i64 1) fun yq =>
 bJ (aC a0 (some yq) none) fun vu =>
 p3 [vu] v fun yr vz =>
 H [vu,yr] vz)) (
 H [a0,g] L)) (fun i S =>
 ag .lss (ae i 1) (N .i64 1) fun D =>
 aa D false (fun we=>we (ae i 1) S) (fun c=>c .undef S) fun ys U =>
 aa D false (fun wf=>ag .gtr ys (N .i64 20) fun yt =>
 wf yt U) (fun c=>c .undef U) fun yu w =>
 ay D (Bo true) yu fun yv =>
 aj yv (
 bg w e 5 fun yw =>
 aO w d yw 5 fun W =>
 bg W d 5 fun w4 =>
 Q (.tup [w4,(Bo false)]) W) (
 bJ (aC (ae i 0) none (some (ae i 1))) fun yx =>
 p4 [yx] w fun yy v0 =>
 aF e 1 fun yz =>
 aO v0 yz yy 1 fun v1 =>
 bJ (aC (ae i 0) (some (ae i 1)) none) fun y0 =>
 bQ (fun wy j X =>
 aP (ae j 0) fun y1 =>
 ag .gtr y1 (N .i64 0) fun t =>
 aa t true (fun wg=>wg (ae j 0) X) (fun c=>c .undef X) fun y2 Y =>
 aa t true (fun wh=>bL y2 (N .i64 0) fun y3 =>
 wh y3 Y) (fun c=>c .undef Y) fun y4 va =>
 aa t true (fun wi=>ag .eql y4 (N .u8 59) fun y5 =>
 wi y5 va) (fun c=>c .undef va) fun y6 x =>
 ay t y6 (Bo false) fun y7 =>
 aj y7 (
 bJ (aC (ae j 0) (some (N .i64 1)) none) fun p =>
 p3 [p] x fun h vb =>
 ag .lss h (N .i64 1) fun F =>
 aa F false (fun wj=>wj h vb) (fun c=>c .undef vb) fun y8 vc =>
 aa F false (fun wk=>ag .gtr y8 (N .i64 20) fun y9 =>
 wk y9 vc) (fun c=>c .undef vc) fun za vd =>
 ay F (Bo true) za fun q =>
 aa q false (fun wl=>wl h vd) (fun c=>c .undef vd) fun zb vf =>
 aa q false (fun wm=>wm p vf) (fun c=>c .undef vf) fun zc vg =>
 aa q false (fun wn=>aP zc fun zd =>
 wn zd vg) (fun c=>c .undef vg) fun ze vh =>
 aa q false (fun wo=>ag .eql zb ze fun zf =>
 wo zf vh) (fun c=>c .undef vh) fun zg vi =>
 ay q (Bo true) zg fun r =>
 aa r false (fun wq=>wq p vi) (fun c=>c .undef vi) fun zh vj =>
 aa r false (fun wr=>wr h vj) (fun c=>c .undef vj) fun zi vk =>
 aa r false (fun ws=>bL zh zi fun zj =>
 ws zj vk) (fun c=>c .undef vk) fun zk vl =>
 aa r false (fun wt=>ag .neq zk (N .u8 61) fun zl =>
 wt zl vl) (fun c=>c .undef vl) fun zm y =>
 ay r (Bo true) zm fun zn =>
 aj zn (
 bg y e 5 fun zo =>
 aO y d zo 5 fun vn =>
 bg vn d 5 fun w5 =>
 Q (.tup [w5,(Bo false)]) vn) (
 bJ (aC p none (some h)) fun zq =>
 p4 [zq] y fun zr v2 =>
 j4 [(St []),(.sc (.slice none 0 0))] [(0,1,zr)] fun zs =>
 dm (.row [(St []),(.sc (.slice none 0 0))] false p5 0) (fun n=>.ptr n 0) v2 fun E v3 =>
 aO v3 E zs 2 fun v4 =>
 ag .add h (N .i64 1) fun zt =>
 bJ (aC p (some zt) none) fun zu =>
 p6 [zu] v4 fun B v5 =>
 bD B 0 fun w9 =>
 bD B 1 fun xa =>
 bD B 2 fun xb =>
 aF E 1 fun xc =>
 aO v5 xc w9 1 fun l =>
 gp xb fun xd =>
 aj xd (
 bg l e 5 fun xe =>
 aO l d xe 5 fun vo =>
 bg vo d 5 fun w6 =>
 Q (.tup [w6,(Bo false)]) vo) (
 aF e 2 fun xf =>
 av l xf fun xg =>
 bg l E 2 fun xi =>
 ic p5 1 [(St []),(.sc (.slice none 0 0))] [(0,2,xi)] fun w0 wa =>
 dm w0 wa l fun xj v6 =>
 appW p5 2 40 [(St []),(.sc (.slice none 0 0))] false xg xj v6 fun xk v7 =>
 aF e 2 fun xl =>
 aO v7 xl xk 1 fun v8 =>
 wy [xa] v8))) (
 aP (ae j 0) fun xm =>
 ag .eql xm (N .i64 0) fun s =>
 aa s false (fun wv=>wv (ae j 0) x) (fun c=>c .undef x) fun xn vp =>
 aa s false (fun ww=>bL xn (N .i64 0) fun xo =>
 ww xo vp) (fun c=>c .undef vp) fun xp vq =>
 aa s false (fun wx=>ag .neq xp (N .u8 58) fun xr =>
 wx xr vq) (fun c=>c .undef vq) fun xs z =>
 ay s (Bo true) xs fun xt =>
 aj xt (
 bg z e 5 fun xu =>
 aO z d xu 5 fun vr =>
 bg vr d 5 fun w7 =>
 Q (.tup [w7,(Bo false)]) vr) (
 bJ (aC (ae j 0) (some (N .i64 1)) none) fun xv =>
 aF e 3 fun xw =>
 aO z xw xv 1 fun v9 =>
 bQ (fun wz G m =>
 aF e 3 fun xx =>
 av m xx fun xy =>
 aP xy fun xz =>
 ag .lss (ae G 0) xz fun x1 =>
 aj x1 (
 aF e 3 fun x3 =>
 av m x3 fun x4 =>
 bL x4 (ae G 0) fun x5 =>
 p7 [x5] m fun x6 A =>
 gp x6 fun x7 =>
 aj x7 (
 bg A e 5 fun x8 =>
 aO A d x8 5 fun vs =>
 bg vs d 5 fun w8 =>
 Q (.tup [w8,(Bo false)]) vs) (
 ag .add (ae G 0) (N .i64 1) fun x2 =>
 wz [x2] A)) (
 bg m e 5 fun x9 =>
 aO m d x9 5 fun vt =>
 bg vt d 5 fun w2 =>
 Q (.tup [w2,(Bo true)]) vt)) [(N .i64 0)] v9))) [y0] v1)))
def j5 (p1:ak) (a0 a1:AV) (M0:RM) (Q:ai) : Prop :=
 p1 [a0,a1] M0 fun c d =>
 bD c 0 fun e =>
 bD c 1 fun g =>
 bD c 2 fun h =>
 Q (.tup [e,g,h]) d
def jM (p1:ak) (a0 a1:AV) (M0:RM) (Q:ai) : Prop :=
 p1 [a0,a1] M0 fun d c =>
 Q d c
def vU (p1:Nat) (a0:AV) (M0:RM) (Q:ai) : Prop :=
 oM p1 a0 fun y s =>
 dm y s M0 fun e p =>
 bQ (fun x g h =>
 d9 e fun X =>
 ag .lss (ae g 0) X fun z =>
 aj z (
 dM (fun l =>
 bN e (ae g 0) 1 fun B =>
 av h B fun C =>
 ag .geq C (N .u8 97) fun d =>
 aa d true (fun c=>c e h) (fun c=>c .undef h) fun D m =>
 aa d true (fun u=>u (ae g 0) m) (fun c=>c .undef m) fun E n =>
 aa d true (fun v=>bN D E 1 fun F =>
 v F n) (fun c=>c .undef n) fun G j =>
 aa d true (fun w=>av j G fun H =>
 w H j) (fun c=>c .undef j) fun I o =>
 aa d true (fun t=>ag .leq I (N .u8 122) fun L =>
 t L o) (fun c=>c .undef o) fun O i =>
 ay d O (Bo false) fun P =>
 aj P (
 bN e (ae g 0) 1 fun R =>
 av i R fun S =>
 ag .sub S (N .u8 32) fun U =>
 bN e (ae g 0) 1 fun V =>
 aO i V U 1 fun q =>
 l [] q) (
 l [] i)) (fun Y r =>
 ag .add (ae g 0) (N .i64 1) fun A =>
 x [A] r)) (
 mZ h e fun W =>
 Q W h)) [(N .i64 0)] p
def nK (p1:Nat) (p2 p3:ak) (a0 a1 a2:AV) (M0:RM) (Q:ai) : Prop :=
 nX p1 a0 fun B y =>
 dm B y M0 fun h r =>
 bQ (fun z d g =>
 aF h 2 fun C =>
 av g C fun D =>
 d9 D fun E =>
 ag .lss (ae d 1) E fun F =>
 aj F (
 dM (fun p =>
 aF h 2 fun H =>
 av g H fun I =>
 bN I (ae d 1) 2 fun L =>
 aF L 0 fun O =>
 av g O fun o =>
 dM (fun j =>
 aj a1 (
 p2 [o] g fun P w =>
 j [P] w) (
 j [o] g)) (fun vt x =>
 bF .add (ae d 0) (St [59]) fun R =>
 bF .add R (ae vt 0) fun S =>
 bF .add S (St [61]) fun U =>
 bQ (fun A e c =>
 aF h 2 fun V =>
 av c V fun W =>
 bN W (ae d 1) 2 fun X =>
 aF X 1 fun Y =>
 av c Y fun Z =>
 d9 Z fun va =>
 ag .lss (ae e 1) va fun vb =>
 aj vb (
 dM (fun q =>
 aF h 2 fun vd =>
 av c vd fun ve =>
 bN ve (ae d 1) 2 fun vf =>
 aF vf 1 fun vg =>
 av c vg fun vh =>
 bN vh (ae e 1) 1 fun vi =>
 av c vi fun i =>
 dM (fun m =>
 ag .gtr (ae e 1) (N .i64 0) fun vj =>
 aj vj (
 bF .add (ae e 0) (St [44]) fun vk =>
 m [vk] c) (
 m [(ae e 0)] c)) (fun vp s =>
 dM (fun l =>
 p3 [i,a2] s fun vl n =>
 aj vl (
 bF .add (St [34]) i fun vm =>
 bF .add vm (St [34]) fun vn =>
 l [vn] n) (
 l [i] n)) (fun vq t =>
 bF .add (ae vp 0) (ae vq 0) fun vo =>
 q [vo] t))) (fun vr u =>
 ag .add (ae e 1) (N .i64 1) fun vc =>
 A [(ae vr 0),vc] u)) (
 p [(ae e 0)] c)) [U,(N .i64 0)] x)) (fun vs v =>
 ag .add (ae d 1) (N .i64 1) fun G =>
 z [(ae vs 0),G] v)) (
 Q (ae d 0) g)) [(St []),(N .i64 0)] r
def pJ (p1:ak) (a0 a1:AV) (M0:RM) (Q:ai) : Prop :=
 dM (fun d =>
 bQ (fun l c e =>
 aP a0 fun m =>
 ag .lss (ae c 0) m fun n =>
 aj n (
 bJ (aC a0 (some (ae c 0)) none) fun o =>
 p1 [o] e fun h g =>
 bD h 0 fun t =>
 bD h 1 fun i =>
 ag .add (ae c 0) i fun p =>
 ag .gtr p a1 fun q =>
 aj q (
 d [(ae c 0)] g) (
 ag .add (ae c 0) i fun r =>
 l [r] g)) (
 d [(ae c 0)] e)) [(N .i64 0)] M0) (fun s j =>
 Q (ae s 0) j)
def dI (p1:ak) (p2:Nat) (a0 a1:AV) (M0:RM) (Q:ai) : Prop :=
 p1 [a0] M0 fun o c =>
 pG a0 fun g =>
 aF g 1 fun h =>
 av c h fun i =>
 appW p2 1 1 [(N .u8 0)] false i a1 c fun j d =>
 pG a0 fun l =>
 aF l 1 fun m =>
 aO d m j 1 fun e =>
 aP a1 fun n =>
 Q (.tup [n,(.sc .nilIface)]) e
def rq (a0:AV) (M0:RM) (Q:ai) : Prop :=
 aP a0 fun xm =>
 ag .eql xm (N .i64 0) fun v6 =>
 aj v6 (
 Q (N .i64 0) M0) (
 bL a0 (N .i64 0) fun v7 =>
 Ci .i64 v7 fun d =>
 ag .lss d (N .i64 128) fun v8 =>
 aj v8 (
 Q (N .i64 1) M0) (
 dM (fun n =>
 ag .geq d (N .i64 194) fun q =>
 aa q true (fun c=>c d M0) (fun c=>c .undef M0) fun v9 x =>
 aa q true (fun ve=>ag .lss v9 (N .i64 224) fun wa =>
 ve wa x) (fun c=>c .undef x) fun wb o =>
 ay q wb (Bo false) fun wc =>
 aj wc (
 ag .sub d (N .i64 192) fun wd =>
 n [(N .i64 2),wd] o) (
 ag .geq d (N .i64 224) fun r =>
 aa r true (fun vm=>vm d o) (fun c=>c .undef o) fun we O =>
 aa r true (fun vv=>ag .lss we (N .i64 240) fun wf =>
 vv wf O) (fun c=>c .undef O) fun wg p =>
 ay r wg (Bo false) fun wh =>
 aj wh (
 ag .sub d (N .i64 224) fun wi =>
 n [(N .i64 3),wi] p) (
 ag .geq d (N .i64 240) fun s =>
 aa s true (fun v4=>v4 d p) (fun c=>c .undef p) fun wj vd =>
 aa s true (fun vf=>ag .lss wj (N .i64 245) fun wk =>
 vf wk vd) (fun c=>c .undef vd) fun wl y =>
 ay s wl (Bo false) fun wm =>
 aj wm (
 ag .sub d (N .i64 240) fun wn =>
 n [(N .i64 4),wn] y) (
 Q (N .i64 0) y)))) (fun g z =>
 aP a0 fun wo =>
 ag .lss wo (ae g 0) fun wp =>
 aj wp (
 Q (N .i64 0) z) (
 bQ (fun v5 e m =>
 ag .lss (ae e 1) (ae g 0) fun wq =>
 aj wq (
 bL a0 (ae e 1) fun ws =>
 Ci .i64 ws fun t =>
 ag .lss t (N .i64 128) fun u =>
 aa u false (fun vg=>vg t m) (fun c=>c .undef m) fun wt A =>
 aa u false (fun vh=>ag .gtr wt (N .i64 191) fun wu =>
 vh wu A) (fun c=>c .undef A) fun wv B =>
 ay u (Bo true) wv fun ww =>
 aj ww (
 Q (N .i64 0) B) (
 ag .mul (N .i64 64) (ae e 0) fun wx =>
 ag .add wx t fun wy =>
 ag .sub wy (N .i64 128) fun wz =>
 ag .add (ae e 1) (N .i64 1) fun wr =>
 v5 [wz,wr] B)) (
 ag .eql (ae g 0) (N .i64 3) fun h =>
 aa h true (fun vi=>vi (ae e 0) m) (fun c=>c .undef m) fun w0 C =>
 aa h true (fun vj=>ag .lss w0 (N .i64 2048) fun w1 =>
 vj w1 C) (fun c=>c .undef C) fun w2 D =>
 aa h true (fun vk=>vk w2 D) (fun c=>c .undef D) fun i E =>
 aa i false (fun vl=>vl (ae e 0) E) (fun c=>c .undef E) fun w3 F =>
 aa i false (fun vn=>ag .geq w3 (N .i64 55296) fun w4 =>
 vn w4 F) (fun c=>c .undef F) fun w5 G =>
 aa i false (fun vo=>vo w5 G) (fun c=>c .undef G) fun v H =>
 aa v true (fun vp=>vp (ae e 0) H) (fun c=>c .undef H) fun w6 I =>
 aa v true (fun vq=>ag .lss w6 (N .i64 57344) fun w7 =>
 vq w7 I) (fun c=>c .undef I) fun w8 L =>
 aa i false (fun vr=>ay v w8 (Bo false) fun w9 =>
 vr w9 L) (fun c=>c .undef L) fun xa P =>
 aa h true (fun vs=>ay i (Bo true) xa fun xb =>
 vs xb P) (fun c=>c .undef P) fun xc R =>
 ay h xc (Bo false) fun j =>
 aa j false (fun vt=>vt (ae g 0) R) (fun c=>c .undef R) fun xd S =>
 aa j false (fun vu=>ag .eql xd (N .i64 4) fun xe =>
 vu xe S) (fun c=>c .undef S) fun xf U =>
 aa j false (fun vw=>vw xf U) (fun c=>c .undef U) fun l V =>
 aa l true (fun vx=>vx (ae e 0) V) (fun c=>c .undef V) fun xg W =>
 aa l true (fun vy=>ag .lss xg (N .i64 65536) fun xh =>
 vy xh W) (fun c=>c .undef W) fun xi X =>
 aa l true (fun vz=>vz xi X) (fun c=>c .undef X) fun w Y =>
 aa w false (fun v0=>v0 (ae e 0) Y) (fun c=>c .undef Y) fun xj Z =>
 aa w false (fun v1=>ag .gtr xj (N .i64 1114111) fun xk =>
 v1 xk Z) (fun c=>c .undef Z) fun xl va =>
 aa l true (fun v2=>ay w (Bo true) xl fun xn =>
 v2 xn va) (fun c=>c .undef va) fun xo vb =>
 aa j false (fun v3=>ay l xo (Bo false) fun xp =>
 v3 xp vb) (fun c=>c .undef vb) fun xq vc =>
 ay j (Bo true) xq fun xr =>
 aj xr (
 Q (N .i64 0) vc) (
 Q (ae g 0) vc))) [(ae g 1),(N .i64 1)] z))))
def gU (p1:ak) (p2:Nat) (a0:AV) (M0:RM) (Q:ai) : Prop :=
 pG a0 fun o =>
 aF o 0 fun p =>
 av M0 p fun q =>
 iX false 1 q (.sc (.pointer none)) fun r =>
 aj r (
 O9 M0 a0 fun s =>
 p1 [s] M0 fun e c =>
 Pj p2 2 c e fun g =>
 pG a0 fun h =>
 aF h 0 fun i =>
 aO c i g 1 fun d =>
 Q (.tup []) d) (
 pG a0 fun j =>
 aF j 0 fun l =>
 av M0 l fun m =>
 iX true 1 m a0 fun n =>
 aj n (
 False) (
 Q (.tup []) M0))
def iH (p1:ak) (a0 a1:AV) (M0:RM) (Q:ai) : Prop :=
 p1 [a0,a1] M0 fun d c =>
 Q d c
def mh (p1:ak) (a0:AV) (M0:RM) (Q:ai) : Prop :=
 aP a0 fun z =>
 ag .geq z (N .i64 1) fun e =>
 aa e true (fun c=>c a0 M0) (fun c=>c .undef M0) fun A g =>
 aa e true (fun o=>aP A fun B =>
 o B g) (fun c=>c .undef g) fun C i =>
 aa e true (fun q=>ag .leq C (N .i64 20) fun D =>
 q D i) (fun c=>c .undef i) fun E j =>
 ay e E (Bo false) fun d =>
 aa d true (fun r=>r a0 j) (fun c=>c .undef j) fun t l =>
 aa d true (fun s=>p1 [t,(St [97,98,99,100,101,102,103,104,105,106,107,108,109,110,111,112,113,114,115,116,117,118,119,120,121,122,48,49,50,51,52,53,54,55,56,57,45])] l fun u n =>
 s u n) (fun c=>c .undef l) fun v h =>
 aa d true (fun p=>bF .eql v (St []) fun w =>
 p w h) (fun c=>c .undef h) fun x m =>
 ay d x (Bo false) fun y =>
 Q y m
def lK (p1:Nat) (p2 p3 p4:ak) (a0 a1:AV) (M0:RM) (Q:ai) : Prop :=
 oM p1 a0 fun x s =>
 dm x s M0 fun o p =>
 d9 o fun O =>
 bQ (fun w g e =>
 ag .lss (ae g 0) O fun y =>
 aj y (
 bN o (ae g 0) 1 fun z =>
 av e z fun n =>
 p2 [n] e fun A h =>
 gp A fun d =>
 aa d false (fun c=>c a1 h) (fun c=>c .undef h) fun B j =>
 aa d false (fun t=>t n j) (fun c=>c .undef j) fun C l =>
 aa d false (fun u=>p3 [B,C] l fun D r =>
 u D r) (fun c=>c .undef l) fun E m =>
 aa d false (fun v=>ag .geq E (N .i64 0) fun F =>
 v F m) (fun c=>c .undef m) fun G i =>
 ay d (Bo true) G fun H =>
 aj H (
 Q (Bo false) i) (
 ag .add (ae g 0) (N .i64 1) fun I =>
 w [I] i)) (
 p4 [a0] e fun L q =>
 Q L q)) [(N .i64 0)] p
def jH (p1:ak) (a0 a1:AV) (M0:RM) (Q:ai) : Prop :=
 p1 [a0,a1] M0 fun d c =>
 ag .geq d (N .i64 0) fun e =>
 Q e c
def oo (p1:ak) (a0:AV) (M0:RM) (Q:ai) : Prop :=
 p1 [a0,(St [34])] M0 fun d c =>
 gp d fun e =>
 Q e c
def pR (p1:Nat) (a0:AV) (M0:RM) (Q:ai) : Prop :=
 oM p1 a0 fun t q =>
 dm t q M0 fun e n =>
 d9 e fun F =>
 bQ (fun s g c =>
 ag .lss (ae g 0) F fun u =>
 aj u (
 dM (fun j =>
 bN e (ae g 0) 1 fun v =>
 av c v fun h =>
 ag .geq h (N .u8 97) fun i =>
 aa i true (fun d=>d h c) (fun d=>d .undef c) fun w l =>
 aa i true (fun r=>ag .leq w (N .u8 122) fun x =>
 r x l) (fun d=>d .undef l) fun y m =>
 ay i y (Bo false) fun z =>
 aj z (
 ag .add h (N .u8 65) fun A =>
 ag .sub A (N .u8 97) fun B =>
 bN e (ae g 0) 1 fun C =>
 aO m C B 1 fun o =>
 j [] o) (
 j [] m)) (fun G p =>
 ag .add (ae g 0) (N .i64 1) fun D =>
 s [D] p)) (
 mZ c e fun E =>
 Q E c)) [(N .i64 0)] n
def jG (p1:ak) (a0 a1:AV) (M0:RM) (Q:ai) : Prop :=
 p1 [a0,a1] M0 fun d c =>
 ag .geq d (N .i64 0) fun e =>
 Q e c
def rQ (p1 p2:ak) (a0:AV) (M0:RM) (Q:ai) : Prop :=
 aP a0 fun n =>
 p1 [a0] M0 fun o e =>
 p2 [o,(St [97,98,99,100,101,102,103,104,105,106,107,108,109,110,111,112,113,114,115,116,117,118,119,120,121,122,48,49,50,51,52,53,54,55,56,57,45])] e fun p g =>
 aP p fun i =>
 ag .sub n i fun c =>
 bJ (aC a0 none (some c)) fun j =>
 bJ (aC a0 (some c) none) fun d =>
 p1 [j] g fun l h =>
 bJ (aC a0 (some c) none) fun m =>
 (m=d∧Q (.tup [l,d]) h)
def kD (p1:ak) (a0 a1:AV) (M0:RM) (Q:ai) : Prop :=
 p1 [a0,a1] M0 fun d c =>
 Q d c
def nW (p1:ak) (p2:Nat) (p3 p4 p5:ak) (p6:Nat) (a0:AV) (M0:RM) (Q:ai) : Prop :=
 bQ (fun O e v =>
 p1 [(ae e 0),(St [59])] v fun U m =>
 aj U (
 dm (.row [(St []),(.sc (.slice none 0 0))] false p2 0) (fun F=>.ptr F 0) m fun d w =>
 bJ (aC (ae e 0) (some (N .i64 1)) none) fun V =>
 p3 [V] w fun s A =>
 bD s 0 fun W =>
 bD s 1 fun t =>
 aF d 0 fun X =>
 aO A X W 1 fun o =>
 aF d 0 fun Y =>
 av o Y fun Z =>
 p4 [Z] o fun va p =>
 gp va fun h =>
 aa h false (fun c=>c t p) (fun c=>c .undef p) fun vb q =>
 aa h false (fun L=>p1 [vb,(St [61])] q fun vc E =>
 L vc E) (fun c=>c .undef q) fun vd r =>
 aa h false (fun I=>gp vd fun ve =>
 I ve r) (fun c=>c .undef r) fun vf n =>
 ay h (Bo true) vf fun vg =>
 aj vg (
 Q (.tup [(.sc (.slice none 0 0)),(St []),(Bo false)]) n) (
 bQ (fun P g i =>
 aj (ae g 2) (
 bJ (aC (ae g 0) (some (N .i64 1)) none) fun vi =>
 p5 [vi] i fun l j =>
 bD l 0 fun vj =>
 bD l 1 fun u =>
 bD l 2 fun vk =>
 gp vk fun vl =>
 aj vl (
 Q (.tup [(.sc (.slice none 0 0)),(St []),(Bo false)]) j) (
 aF d 1 fun vm =>
 av j vm fun vn =>
 ic p6 1 [(St [])] [(0,1,vj)] fun R G =>
 dm R G j fun vo x =>
 appW p6 1 16 [(St [])] false vn vo x fun vp y =>
 aF d 1 fun vq =>
 aO y vq vp 1 fun z =>
 p1 [u,(St [44])] z fun vh B =>
 P [u,(ae g 1),vh] B)) (
 bg i d 2 fun vr =>
 ic p2 1 [(St []),(.sc (.slice none 0 0))] [(0,2,vr)] fun S H =>
 dm S H i fun vs C =>
 appW p2 2 40 [(St []),(.sc (.slice none 0 0))] false (ae g 1) vs C fun vt D =>
 O [(ae g 0),vt] D)) [t,(ae e 1),(Bo true)] n)) (
 Q (.tup [(ae e 1),(ae e 0),(Bo true)]) m)) [a0,(.sc (.slice none 0 0))] M0
def rW (a0:AV) (M0:RM) (Q:ai) : Prop :=
 bQ (fun wl e n =>
 aP a0 fun x5 =>
 ag .lss (ae e 0) x5 fun d =>
 aa d true (fun c=>c a0 n) (fun c=>c .undef n) fun x6 o =>
 aa d true (fun vi=>vi (ae e 0) o) (fun c=>c .undef o) fun wm t =>
 aa d true (fun vr=>bL x6 wm fun wn =>
 vr wn t) (fun c=>c .undef t) fun wo G =>
 aa d true (fun v4=>ag .geq wo (N .u8 97) fun wp =>
 v4 wp G) (fun c=>c .undef G) fun wq Z =>
 aa d true (fun wh=>wh wq Z) (fun c=>c .undef Z) fun i p =>
 aa i true (fun vj=>vj a0 p) (fun c=>c .undef p) fun wr q =>
 aa i true (fun vk=>vk (ae e 0) q) (fun c=>c .undef q) fun ws r =>
 aa i true (fun vl=>bL wr ws fun wt =>
 vl wt r) (fun c=>c .undef r) fun wu s =>
 aa i true (fun vm=>ag .leq wu (N .u8 122) fun wv =>
 vm wv s) (fun c=>c .undef s) fun ww u =>
 aa d true (fun vn=>ay i ww (Bo false) fun wx =>
 vn wx u) (fun c=>c .undef u) fun wy v =>
 aa d true (fun vo=>vo wy v) (fun c=>c .undef v) fun g w =>
 aa g false (fun vp=>vp a0 w) (fun c=>c .undef w) fun wz x =>
 aa g false (fun vq=>vq (ae e 0) x) (fun c=>c .undef x) fun w0 y =>
 aa g false (fun vs=>bL wz w0 fun w1 =>
 vs w1 y) (fun c=>c .undef y) fun w2 z =>
 aa g false (fun vt=>ag .geq w2 (N .u8 65) fun w3 =>
 vt w3 z) (fun c=>c .undef z) fun w4 A =>
 aa g false (fun vu=>vu w4 A) (fun c=>c .undef A) fun j B =>
 aa j true (fun vv=>vv a0 B) (fun c=>c .undef B) fun w5 C =>
 aa j true (fun vw=>vw (ae e 0) C) (fun c=>c .undef C) fun w6 D =>
 aa j true (fun vx=>bL w5 w6 fun w7 =>
 vx w7 D) (fun c=>c .undef D) fun w8 E =>
 aa j true (fun vy=>ag .leq w8 (N .u8 90) fun w9 =>
 vy w9 E) (fun c=>c .undef E) fun xa F =>
 aa g false (fun vz=>ay j xa (Bo false) fun xb =>
 vz xb F) (fun c=>c .undef F) fun xc H =>
 aa d true (fun v0=>ay g (Bo true) xc fun xd =>
 v0 xd H) (fun c=>c .undef H) fun xe I =>
 aa d true (fun v1=>v1 xe I) (fun c=>c .undef I) fun h L =>
 aa h false (fun v2=>v2 a0 L) (fun c=>c .undef L) fun xf O =>
 aa h false (fun v3=>v3 (ae e 0) O) (fun c=>c .undef O) fun xg P =>
 aa h false (fun v5=>bL xf xg fun xh =>
 v5 xh P) (fun c=>c .undef P) fun xi R =>
 aa h false (fun v6=>ag .geq xi (N .u8 48) fun xj =>
 v6 xj R) (fun c=>c .undef R) fun xk S =>
 aa h false (fun v7=>v7 xk S) (fun c=>c .undef S) fun l U =>
 aa l true (fun v8=>v8 a0 U) (fun c=>c .undef U) fun xl V =>
 aa l true (fun v9=>v9 (ae e 0) V) (fun c=>c .undef V) fun xm W =>
 aa l true (fun wa=>bL xl xm fun xn =>
 wa xn W) (fun c=>c .undef W) fun xo X =>
 aa l true (fun wb=>ag .leq xo (N .u8 57) fun xp =>
 wb xp X) (fun c=>c .undef X) fun xq Y =>
 aa h false (fun wc=>ay l xq (Bo false) fun xr =>
 wc xr Y) (fun c=>c .undef Y) fun xs va =>
 aa d true (fun wd=>ay h (Bo true) xs fun xt =>
 wd xt va) (fun c=>c .undef va) fun xu vb =>
 aa d true (fun we=>we xu vb) (fun c=>c .undef vb) fun m vc =>
 aa m false (fun wf=>wf a0 vc) (fun c=>c .undef vc) fun xv vd =>
 aa m false (fun wg=>wg (ae e 0) vd) (fun c=>c .undef vd) fun xw ve =>
 aa m false (fun wi=>bL xv xw fun xx =>
 wi xx ve) (fun c=>c .undef ve) fun xy vf =>
 aa m false (fun wj=>ag .eql xy (N .u8 45) fun xz =>
 wj xz vf) (fun c=>c .undef vf) fun x0 vg =>
 aa d true (fun wk=>ay m (Bo true) x0 fun x1 =>
 wk x1 vg) (fun c=>c .undef vg) fun x2 vh =>
 ay d x2 (Bo false) fun x3 =>
 aj x3 (
 ag .add (ae e 0) (N .i64 1) fun x4 =>
 wl [x4] vh) (
 Q (ae e 0) vh)) [(N .i64 0)] M0
def tN (p1:Nat) (a0:AV) (M0:RM) (Q:ai) : Prop :=
 oM p1 a0 fun y s =>
 dm y s M0 fun e p =>
 bQ (fun x g h =>
 d9 e fun X =>
 ag .lss (ae g 0) X fun z =>
 aj z (
 dM (fun l =>
 bN e (ae g 0) 1 fun B =>
 av h B fun C =>
 ag .geq C (N .u8 65) fun d =>
 aa d true (fun c=>c e h) (fun c=>c .undef h) fun D m =>
 aa d true (fun u=>u (ae g 0) m) (fun c=>c .undef m) fun E n =>
 aa d true (fun v=>bN D E 1 fun F =>
 v F n) (fun c=>c .undef n) fun G j =>
 aa d true (fun w=>av j G fun H =>
 w H j) (fun c=>c .undef j) fun I o =>
 aa d true (fun t=>ag .leq I (N .u8 90) fun L =>
 t L o) (fun c=>c .undef o) fun O i =>
 ay d O (Bo false) fun P =>
 aj P (
 bN e (ae g 0) 1 fun R =>
 av i R fun S =>
 ag .add S (N .u8 32) fun U =>
 bN e (ae g 0) 1 fun V =>
 aO i V U 1 fun q =>
 l [] q) (
 l [] i)) (fun Y r =>
 ag .add (ae g 0) (N .i64 1) fun A =>
 x [A] r)) (
 mZ h e fun W =>
 Q W h)) [(N .i64 0)] p
def om (p1:ak) (p2:Nat) (a0:AV) (M0:RM) (Q:ai) : Prop :=
 bQ (fun wy d v =>
 dM (fun u =>
 aP (ae d 0) fun y1 =>
 ag .gtr y1 (N .i64 0) fun q =>
 aa q true (fun c=>c (ae d 0) v) (fun c=>c .undef v) fun w8 w =>
 aa q true (fun vx=>bL w8 (N .i64 0) fun w9 =>
 vx w9 w) (fun c=>c .undef w) fun xa H =>
 aa q true (fun wc=>ag .eql xa (N .u8 34) fun xb =>
 wc xb H) (fun c=>c .undef H) fun xc Z =>
 ay q xc (Bo false) fun xd =>
 aj xd (
 bQ (fun w0 g vm =>
 aP (ae d 0) fun xe =>
 ag .lss (ae g 0) xe fun h =>
 aa h true (fun vy=>vy (ae d 0) vm) (fun c=>c .undef vm) fun xf A =>
 aa h true (fun v1=>v1 (ae g 0) A) (fun c=>c .undef A) fun xg B =>
 aa h true (fun v2=>bL xf xg fun xh =>
 v2 xh B) (fun c=>c .undef B) fun xi C =>
 aa h true (fun v3=>ag .neq xi (N .u8 34) fun xj =>
 v3 xj C) (fun c=>c .undef C) fun xk D =>
 ay h xk (Bo false) fun i =>
 aa i true (fun v4=>v4 (ae d 0) D) (fun c=>c .undef D) fun xl E =>
 aa i true (fun v5=>v5 (ae g 0) E) (fun c=>c .undef E) fun xm F =>
 aa i true (fun v6=>bL xl xm fun xn =>
 v6 xn F) (fun c=>c .undef F) fun xo G =>
 aa i true (fun v7=>p1 [xo] G fun xp vs =>
 v7 xp vs) (fun c=>c .undef G) fun xq t =>
 ay i xq (Bo false) fun xr =>
 aj xr (
 ag .add (ae g 0) (N .i64 1) fun xs =>
 w0 [xs] t) (
 aP (ae d 0) fun xt =>
 ag .eql (ae g 0) xt fun j =>
 aa j false (fun v8=>v8 (ae d 0) t) (fun c=>c .undef t) fun xu I =>
 aa j false (fun v9=>v9 (ae g 0) I) (fun c=>c .undef I) fun xv L =>
 aa j false (fun wa=>bL xu xv fun xw =>
 wa xw L) (fun c=>c .undef L) fun xx O =>
 aa j false (fun wb=>ag .neq xx (N .u8 34) fun xy =>
 wb xy O) (fun c=>c .undef O) fun xz P =>
 ay j (Bo true) xz fun x0 =>
 aj x0 (
 Q (.tup [(.sc (.slice none 0 0)),(St []),(Bo false)]) P) (
 bJ (aC (ae d 0) (some (N .i64 1)) (some (ae g 0))) fun x1 =>
 ag .add (ae g 0) (N .i64 1) fun x2 =>
 u [x2,x1] P))) [(N .i64 1)] Z) (
 bQ (fun wz e R =>
 aP (ae d 0) fun x3 =>
 ag .lss (ae e 0) x3 fun l =>
 aa l true (fun wd=>wd (ae d 0) R) (fun c=>c .undef R) fun x4 S =>
 aa l true (fun we=>we (ae e 0) S) (fun c=>c .undef S) fun x5 U =>
 aa l true (fun wf=>bL x4 x5 fun x6 =>
 wf x6 U) (fun c=>c .undef U) fun x7 V =>
 aa l true (fun wg=>p1 [x7] V fun x8 vt =>
 wg x8 vt) (fun c=>c .undef V) fun x9 W =>
 ay l x9 (Bo false) fun m =>
 aa m true (fun wh=>wh (ae d 0) W) (fun c=>c .undef W) fun ya X =>
 aa m true (fun wi=>wi (ae e 0) X) (fun c=>c .undef X) fun yb Y =>
 aa m true (fun wj=>bL ya yb fun yc =>
 wj yc Y) (fun c=>c .undef Y) fun yd va =>
 aa m true (fun wk=>ag .neq yd (N .u8 34) fun ye =>
 wk ye va) (fun c=>c .undef va) fun yf vb =>
 ay m yf (Bo false) fun n =>
 aa n true (fun wl=>wl (ae d 0) vb) (fun c=>c .undef vb) fun yg vc =>
 aa n true (fun wm=>wm (ae e 0) vc) (fun c=>c .undef vc) fun yh vd =>
 aa n true (fun wn=>bL yg yh fun yi =>
 wn yi vd) (fun c=>c .undef vd) fun yj ve =>
 aa n true (fun wo=>ag .neq yj (N .u8 44) fun yk =>
 wo yk ve) (fun c=>c .undef ve) fun yl vf =>
 ay n yl (Bo false) fun o =>
 aa o true (fun wp=>wp (ae d 0) vf) (fun c=>c .undef vf) fun ym vg =>
 aa o true (fun wq=>wq (ae e 0) vg) (fun c=>c .undef vg) fun yn vh =>
 aa o true (fun wr=>bL ym yn fun yo =>
 wr yo vh) (fun c=>c .undef vh) fun yp vi =>
 aa o true (fun ws=>ag .neq yp (N .u8 59) fun yq =>
 ws yq vi) (fun c=>c .undef vi) fun yr vj =>
 ay o yr (Bo false) fun p =>
 aa p true (fun wt=>wt (ae d 0) vj) (fun c=>c .undef vj) fun ys vk =>
 aa p true (fun wu=>wu (ae e 0) vk) (fun c=>c .undef vk) fun yt vl =>
 aa p true (fun wv=>bL ys yt fun yu =>
 wv yu vl) (fun c=>c .undef vl) fun yv vn =>
 aa p true (fun ww=>ag .neq yv (N .u8 58) fun yw =>
 ww yw vn) (fun c=>c .undef vn) fun yx vo =>
 ay p yx (Bo false) fun yy =>
 aj yy (
 ag .add (ae e 0) (N .i64 1) fun yz =>
 wz [yz] vo) (
 bJ (aC (ae d 0) none (some (ae e 0))) fun y0 =>
 u [(ae e 0),y0] vo)) [(N .i64 0)] Z)) (fun vr vu =>
 ic p2 1 [(St [])] [(0,1,(ae vr 1))] fun w1 vw =>
 dm w1 vw vu fun y2 vv =>
 appW p2 1 16 [(St [])] false (ae d 1) y2 vv fun vq vp =>
 bJ (aC (ae d 0) (some (ae vr 0)) none) fun r =>
 aP r fun y3 =>
 ag .eql y3 (N .i64 0) fun s =>
 aa s false (fun wx=>wx r vp) (fun c=>c .undef vp) fun y4 x =>
 aa s false (fun vz=>bL y4 (N .i64 0) fun w2 =>
 vz w2 x) (fun c=>c .undef x) fun w3 y =>
 aa s false (fun v0=>ag .neq w3 (N .u8 44) fun w4 =>
 v0 w4 y) (fun c=>c .undef y) fun w5 z =>
 ay s (Bo true) w5 fun w6 =>
 aj w6 (
 Q (.tup [vq,r,(Bo true)]) z) (
 bJ (aC r (some (N .i64 1)) none) fun w7 =>
 wy [w7,vq] z))) [a0,(.sc (.slice none 0 0))] M0
def pK (a0:AV) (M0:RM) (Q:ai) : Prop :=
 ag .eql a0 (N .u8 9) fun d =>
 aa d false (fun c=>c a0 M0) (fun c=>c .undef M0) fun x g =>
 aa d false (fun n=>ag .geq x (N .u8 32) fun y =>
 n y g) (fun c=>c .undef g) fun z h =>
 aa d false (fun p=>p z h) (fun c=>c .undef h) fun e i =>
 aa e true (fun q=>q a0 i) (fun c=>c .undef i) fun A j =>
 aa e true (fun r=>ag .neq A (N .u8 127) fun s =>
 r s j) (fun c=>c .undef j) fun t l =>
 aa d false (fun o=>ay e t (Bo false) fun u =>
 o u l) (fun c=>c .undef l) fun v m =>
 ay d (Bo true) v fun w =>
 Q w m
def dW (p1:ak) (a0 a1:AV) (M0:RM) (Q:ai) : Prop :=
 p1 [a0,a1] M0 fun c d =>
 ag .geq c (N .i64 0) fun e =>
 aj e (
 bJ (aC a0 none (some c)) fun g =>
 aP a1 fun h =>
 ag .add c h fun i =>
 bJ (aC a0 (some i) none) fun j =>
 Q (.tup [g,j,(Bo true)]) d) (
 Q (.tup [a0,(St []),(Bo false)]) d)
def eZ (p1:ak) (a0 a1:AV) (M0:RM) (Q:ai) : Prop :=
 p1 [a0,a1] M0 fun i c =>
 aj i (
 aP a0 fun d =>
 aP a1 fun e =>
 ag .sub d e fun g =>
 bJ (aC a0 none (some g)) fun h =>
 Q h c) (
 Q a0 c)
def tO (a0 a1:AV) (M0:RM) (Q:ai) : Prop :=
 bQ (fun h d g =>
 aP a0 fun s =>
 ag .lss (ae d 0) s fun j =>
 aj j (
 bQ (fun i e c =>
 aP a1 fun m =>
 ag .lss (ae e 0) m fun n =>
 aj n (
 bL a0 (ae d 0) fun p =>
 bL a1 (ae e 0) fun q =>
 ag .eql p q fun r =>
 aj r (
 Q (Bo true) c) (
 ag .add (ae e 0) (N .i64 1) fun o =>
 i [o] c)) (
 ag .add (ae d 0) (N .i64 1) fun l =>
 h [l] c)) [(N .i64 0)] g) (
 Q (Bo false) g)) [(N .i64 0)] M0
def ul (p1 p2 p3:ak) (p4:Nat) (p5 p6 p7 p8:ak) (a0 a1:AV) (M0:RM) (Q:ai) : Prop :=
 bF .eql a0 (St []) fun h =>
 aa h false (fun c=>c a1 M0) (fun c=>c .undef M0) fun C i =>
 aa h false (fun y=>bF .eql C (St []) fun D =>
 y D i) (fun c=>c .undef i) fun E e =>
 ay h (Bo true) E fun F =>
 aj F (
 Q a0 e) (
 aP a1 fun G =>
 ag .eql G (N .i64 1) fun d =>
 aa d true (fun z=>z a1 e) (fun c=>c .undef e) fun H m =>
 aa d true (fun A=>bL H (N .i64 0) fun I =>
 A I m) (fun c=>c .undef m) fun L n =>
 aa d true (fun B=>ag .lss L (N .u8 128) fun O =>
 B O n) (fun c=>c .undef n) fun P j =>
 ay d P (Bo false) fun R =>
 aj R (
 bL a1 (N .i64 0) fun S =>
 bL a1 (N .i64 0) fun V =>
 p1 [a0,S] j fun U p =>
 p2 [U,V] p fun W q =>
 Q W q) (
 p3 [a1] j fun o r =>
 bD o 0 fun X =>
 bD o 1 fun Y =>
 dm (.row [(Bo false),(Bo false),(Bo false),(Bo false),(Bo false),(Bo false),(Bo false),(Bo false),(Bo false),(Bo false),(Bo false),(Bo false),(Bo false),(Bo false),(Bo false),(Bo false),(Bo false),(Bo false),(Bo false),(Bo false),(Bo false),(Bo false),(Bo false),(Bo false),(Bo false),(Bo false),(Bo false),(Bo false),(Bo false),(Bo false),(Bo false),(Bo false),(Bo false),(Bo false),(Bo false),(Bo false),(Bo false),(Bo false),(Bo false),(Bo false),(Bo false),(Bo false),(Bo false),(Bo false),(Bo false),(Bo false),(Bo false),(Bo false),(Bo false),(Bo false),(Bo false),(Bo false),(Bo false),(Bo false),(Bo false),(Bo false),(Bo false),(Bo false),(Bo false),(Bo false),(Bo false),(Bo false),(Bo false),(Bo false),(Bo false),(Bo false),(Bo false),(Bo false),(Bo false),(Bo false),(Bo false),(Bo false),(Bo false),(Bo false),(Bo false),(Bo false),(Bo false),(Bo false),(Bo false),(Bo false),(Bo false),(Bo false),(Bo false),(Bo false),(Bo false),(Bo false),(Bo false),(Bo false),(Bo false),(Bo false),(Bo false),(Bo false),(Bo false),(Bo false),(Bo false),(Bo false),(Bo false),(Bo false),(Bo false),(Bo false),(Bo false),(Bo false),(Bo false),(Bo false),(Bo false),(Bo false),(Bo false),(Bo false),(Bo false),(Bo false),(Bo false),(Bo false),(Bo false),(Bo false),(Bo false),(Bo false),(Bo false),(Bo false),(Bo false),(Bo false),(Bo false),(Bo false),(Bo false),(Bo false),(Bo false),(Bo false),(Bo false),(Bo false),(Bo false),(Bo false),(Bo false),(Bo false),(Bo false),(Bo false),(Bo false),(Bo false),(Bo false),(Bo false),(Bo false),(Bo false),(Bo false),(Bo false),(Bo false),(Bo false),(Bo false),(Bo false),(Bo false),(Bo false),(Bo false),(Bo false),(Bo false),(Bo false),(Bo false),(Bo false),(Bo false),(Bo false),(Bo false),(Bo false),(Bo false),(Bo false),(Bo false),(Bo false),(Bo false),(Bo false),(Bo false),(Bo false),(Bo false),(Bo false),(Bo false),(Bo false),(Bo false),(Bo false),(Bo false),(Bo false),(Bo false),(Bo false),(Bo false),(Bo false),(Bo false),(Bo false),(Bo false),(Bo false),(Bo false),(Bo false),(Bo false),(Bo false),(Bo false),(Bo false),(Bo false),(Bo false),(Bo false),(Bo false),(Bo false),(Bo false),(Bo false),(Bo false),(Bo false),(Bo false),(Bo false),(Bo false),(Bo false),(Bo false),(Bo false),(Bo false),(Bo false),(Bo false),(Bo false),(Bo false),(Bo false),(Bo false),(Bo false),(Bo false),(Bo false),(Bo false),(Bo false),(Bo false),(Bo false),(Bo false),(Bo false),(Bo false),(Bo false),(Bo false),(Bo false),(Bo false),(Bo false),(Bo false),(Bo false),(Bo false),(Bo false),(Bo false),(Bo false),(Bo false),(Bo false),(Bo false),(Bo false),(Bo false),(Bo false),(Bo false),(Bo false),(Bo false),(Bo false),(Bo false),(Bo false),(Bo false),(Bo false),(Bo false),(Bo false),(Bo false),(Bo false),(Bo false),(Bo false),(Bo false),(Bo false),(Bo false),(Bo false),(Bo false)] false p4 0) (fun x=>.ptr x 0) r fun g s =>
 aO s g X 256 fun l =>
 aj Y (
 p5 [a0,g] l fun Z t =>
 p6 [Z,g] t fun va u =>
 Q va u) (
 p7 [a0,a1] l fun vb v =>
 p8 [vb,a1] v fun vc w =>
 Q vc w)))
def pF (a0:AV) (M0:RM) (Q:ai) : Prop :=
 ag .geq a0 (N .u8 32) fun d =>
 aa d true (fun c=>c a0 M0) (fun c=>c .undef M0) fun s g =>
 aa d true (fun l=>ag .neq s (N .u8 127) fun t =>
 l t g) (fun c=>c .undef g) fun u h =>
 ay d u (Bo false) fun e =>
 aa e false (fun m=>m a0 h) (fun c=>c .undef h) fun o i =>
 aa e false (fun n=>ag .eql o (N .u8 9) fun p =>
 n p i) (fun c=>c .undef i) fun q j =>
 ay e (Bo true) q fun r =>
 Q r j
def kR (cv:(FuncId→ak)) (a0 a1:AV) (M0:RM) (Q:ai) : Prop :=
 d9 a0 fun m =>
 bQ (fun g c d =>
 ag .lss (ae c 0) m fun n =>
 aj n (
 bN a0 (ae c 0) 1 fun h =>
 av d h fun i =>
 FW cv a1 [i] d fun j e =>
 aj j (
 Q (ae c 0) e) (
 ag .add (ae c 0) (N .i64 1) fun l =>
 g [l] e)) (
 Q (N .i64 (-1)) d)) [(N .i64 0)] M0
def ll (p1 p2 p3:ak) (p4:Nat) (p5:ak) (a0 a1:AV) (M0:RM) (Q:ai) : Prop :=
 bF .eql a1 (St []) fun D =>
 aj D (
 Q (N .i64 (-1)) M0) (
 aP a1 fun E =>
 ag .eql E (N .i64 1) fun F =>
 aj F (
 bL a1 (N .i64 0) fun G =>
 Ci .i32 G fun o =>
 dM (fun e =>
 ag .geq o (N .i32 128) fun H =>
 aj H (
 e [(N .i32 65533)] M0) (
 e [o] M0)) (fun ve r =>
 p1 [a0,(ae ve 0)] r fun I s =>
 Q I s)) (
 dM (fun g =>
 aP a0 fun L =>
 p2 [L] M0 fun O j =>
 aj O (
 p3 [a1] j fun p w =>
 bD p 0 fun P =>
 bD p 1 fun R =>
 dm (.row [(Bo false),(Bo false),(Bo false),(Bo false),(Bo false),(Bo false),(Bo false),(Bo false),(Bo false),(Bo false),(Bo false),(Bo false),(Bo false),(Bo false),(Bo false),(Bo false),(Bo false),(Bo false),(Bo false),(Bo false),(Bo false),(Bo false),(Bo false),(Bo false),(Bo false),(Bo false),(Bo false),(Bo false),(Bo false),(Bo false),(Bo false),(Bo false),(Bo false),(Bo false),(Bo false),(Bo false),(Bo false),(Bo false),(Bo false),(Bo false),(Bo false),(Bo false),(Bo false),(Bo false),(Bo false),(Bo false),(Bo false),(Bo false),(Bo false),(Bo false),(Bo false),(Bo false),(Bo false),(Bo false),(Bo false),(Bo false),(Bo false),(Bo false),(Bo false),(Bo false),(Bo false),(Bo false),(Bo false),(Bo false),(Bo false),(Bo false),(Bo false),(Bo false),(Bo false),(Bo false),(Bo false),(Bo false),(Bo false),(Bo false),(Bo false),(Bo false),(Bo false),(Bo false),(Bo false),(Bo false),(Bo false),(Bo false),(Bo false),(Bo false),(Bo false),(Bo false),(Bo false),(Bo false),(Bo false),(Bo false),(Bo false),(Bo false),(Bo false),(Bo false),(Bo false),(Bo false),(Bo false),(Bo false),(Bo false),(Bo false),(Bo false),(Bo false),(Bo false),(Bo false),(Bo false),(Bo false),(Bo false),(Bo false),(Bo false),(Bo false),(Bo false),(Bo false),(Bo false),(Bo false),(Bo false),(Bo false),(Bo false),(Bo false),(Bo false),(Bo false),(Bo false),(Bo false),(Bo false),(Bo false),(Bo false),(Bo false),(Bo false),(Bo false),(Bo false),(Bo false),(Bo false),(Bo false),(Bo false),(Bo false),(Bo false),(Bo false),(Bo false),(Bo false),(Bo false),(Bo false),(Bo false),(Bo false),(Bo false),(Bo false),(Bo false),(Bo false),(Bo false),(Bo false),(Bo false),(Bo false),(Bo false),(Bo false),(Bo false),(Bo false),(Bo false),(Bo false),(Bo false),(Bo false),(Bo false),(Bo false),(Bo false),(Bo false),(Bo false),(Bo false),(Bo false),(Bo false),(Bo false),(Bo false),(Bo false),(Bo false),(Bo false),(Bo false),(Bo false),(Bo false),(Bo false),(Bo false),(Bo false),(Bo false),(Bo false),(Bo false),(Bo false),(Bo false),(Bo false),(Bo false),(Bo false),(Bo false),(Bo false),(Bo false),(Bo false),(Bo false),(Bo false),(Bo false),(Bo false),(Bo false),(Bo false),(Bo false),(Bo false),(Bo false),(Bo false),(Bo false),(Bo false),(Bo false),(Bo false),(Bo false),(Bo false),(Bo false),(Bo false),(Bo false),(Bo false),(Bo false),(Bo false),(Bo false),(Bo false),(Bo false),(Bo false),(Bo false),(Bo false),(Bo false),(Bo false),(Bo false),(Bo false),(Bo false),(Bo false),(Bo false),(Bo false),(Bo false),(Bo false),(Bo false),(Bo false),(Bo false),(Bo false),(Bo false),(Bo false),(Bo false),(Bo false),(Bo false),(Bo false),(Bo false),(Bo false),(Bo false),(Bo false),(Bo false),(Bo false),(Bo false),(Bo false),(Bo false),(Bo false),(Bo false),(Bo false),(Bo false),(Bo false),(Bo false),(Bo false),(Bo false),(Bo false),(Bo false)] false p4 0) (fun y=>.ptr y 0) w fun q x =>
 aO x q P 256 fun l =>
 aj R (
 bQ (fun A c m =>
 aP a0 fun S =>
 ag .lss (ae c 0) S fun U =>
 aj U (
 bL a0 (ae c 0) fun W =>
 p5 [q,W] m fun X n =>
 aj X (
 Q (ae c 0) n) (
 ag .add (ae c 0) (N .i64 1) fun V =>
 A [V] n)) (
 Q (N .i64 (-1)) m)) [(N .i64 0)] l) (
 g [] l)) (
 g [] j)) (fun vg t =>
 G9 a0 fun C z =>
 dm C z t fun Y u =>
 bQ (fun B vf v =>
 GU Y v fun d h =>
 bD d 0 fun Z =>
 aj Z (
 bD d 1 fun va =>
 bD d 2 fun vb =>
 p1 [a1,vb] h fun vc i =>
 ag .geq vc (N .i64 0) fun vd =>
 aj vd (
 Q va i) (
 B [] i)) (
 Q (N .i64 (-1)) h)) [] u)))
def o9 (p1 p2:ak) (p3:Nat) (p4 p5:ak) (a0 a1:AV) (M0:RM) (Q:ai) : Prop :=
 bF .eql a0 (St []) fun g =>
 aa g false (fun c=>c a1 M0) (fun c=>c .undef M0) fun z h =>
 aa g false (fun v=>bF .eql z (St []) fun A =>
 v A h) (fun c=>c .undef h) fun B e =>
 ay g (Bo true) B fun C =>
 aj C (
 Q a0 e) (
 aP a1 fun D =>
 ag .eql D (N .i64 1) fun d =>
 aa d true (fun w=>w a1 e) (fun c=>c .undef e) fun E l =>
 aa d true (fun x=>bL E (N .i64 0) fun F =>
 x F l) (fun c=>c .undef l) fun G m =>
 aa d true (fun y=>ag .lss G (N .u8 128) fun H =>
 y H m) (fun c=>c .undef m) fun I i =>
 ay d I (Bo false) fun L =>
 aj L (
 bL a1 (N .i64 0) fun O =>
 p1 [a0,O] i fun P p =>
 Q P p) (
 p2 [a1] i fun n q =>
 bD n 0 fun R =>
 bD n 1 fun S =>
 dm (.row [(Bo false),(Bo false),(Bo false),(Bo false),(Bo false),(Bo false),(Bo false),(Bo false),(Bo false),(Bo false),(Bo false),(Bo false),(Bo false),(Bo false),(Bo false),(Bo false),(Bo false),(Bo false),(Bo false),(Bo false),(Bo false),(Bo false),(Bo false),(Bo false),(Bo false),(Bo false),(Bo false),(Bo false),(Bo false),(Bo false),(Bo false),(Bo false),(Bo false),(Bo false),(Bo false),(Bo false),(Bo false),(Bo false),(Bo false),(Bo false),(Bo false),(Bo false),(Bo false),(Bo false),(Bo false),(Bo false),(Bo false),(Bo false),(Bo false),(Bo false),(Bo false),(Bo false),(Bo false),(Bo false),(Bo false),(Bo false),(Bo false),(Bo false),(Bo false),(Bo false),(Bo false),(Bo false),(Bo false),(Bo false),(Bo false),(Bo false),(Bo false),(Bo false),(Bo false),(Bo false),(Bo false),(Bo false),(Bo false),(Bo false),(Bo false),(Bo false),(Bo false),(Bo false),(Bo false),(Bo false),(Bo false),(Bo false),(Bo false),(Bo false),(Bo false),(Bo false),(Bo false),(Bo false),(Bo false),(Bo false),(Bo false),(Bo false),(Bo false),(Bo false),(Bo false),(Bo false),(Bo false),(Bo false),(Bo false),(Bo false),(Bo false),(Bo false),(Bo false),(Bo false),(Bo false),(Bo false),(Bo false),(Bo false),(Bo false),(Bo false),(Bo false),(Bo false),(Bo false),(Bo false),(Bo false),(Bo false),(Bo false),(Bo false),(Bo false),(Bo false),(Bo false),(Bo false),(Bo false),(Bo false),(Bo false),(Bo false),(Bo false),(Bo false),(Bo false),(Bo false),(Bo false),(Bo false),(Bo false),(Bo false),(Bo false),(Bo false),(Bo false),(Bo false),(Bo false),(Bo false),(Bo false),(Bo false),(Bo false),(Bo false),(Bo false),(Bo false),(Bo false),(Bo false),(Bo false),(Bo false),(Bo false),(Bo false),(Bo false),(Bo false),(Bo false),(Bo false),(Bo false),(Bo false),(Bo false),(Bo false),(Bo false),(Bo false),(Bo false),(Bo false),(Bo false),(Bo false),(Bo false),(Bo false),(Bo false),(Bo false),(Bo false),(Bo false),(Bo false),(Bo false),(Bo false),(Bo false),(Bo false),(Bo false),(Bo false),(Bo false),(Bo false),(Bo false),(Bo false),(Bo false),(Bo false),(Bo false),(Bo false),(Bo false),(Bo false),(Bo false),(Bo false),(Bo false),(Bo false),(Bo false),(Bo false),(Bo false),(Bo false),(Bo false),(Bo false),(Bo false),(Bo false),(Bo false),(Bo false),(Bo false),(Bo false),(Bo false),(Bo false),(Bo false),(Bo false),(Bo false),(Bo false),(Bo false),(Bo false),(Bo false),(Bo false),(Bo false),(Bo false),(Bo false),(Bo false),(Bo false),(Bo false),(Bo false),(Bo false),(Bo false),(Bo false),(Bo false),(Bo false),(Bo false),(Bo false),(Bo false),(Bo false),(Bo false),(Bo false),(Bo false),(Bo false),(Bo false),(Bo false),(Bo false),(Bo false),(Bo false),(Bo false),(Bo false),(Bo false),(Bo false),(Bo false),(Bo false),(Bo false),(Bo false),(Bo false),(Bo false),(Bo false),(Bo false),(Bo false),(Bo false),(Bo false),(Bo false)] false p3 0) (fun u=>.ptr u 0) q fun o r =>
 aO r o R 256 fun j =>
 aj S (
 p4 [a0,o] j fun U s =>
 Q U s) (
 p5 [a0,a1] j fun V t =>
 Q V t)))
def pQ (p1:Nat) (a0:AV) (M0:RM) (Q:ai) : Prop :=
 oM p1 a0 fun t q =>
 dm t q M0 fun e n =>
 d9 e fun F =>
 bQ (fun s g c =>
 ag .lss (ae g 0) F fun u =>
 aj u (
 dM (fun j =>
 bN e (ae g 0) 1 fun v =>
 av c v fun h =>
 ag .geq h (N .u8 65) fun i =>
 aa i true (fun d=>d h c) (fun d=>d .undef c) fun w l =>
 aa i true (fun r=>ag .leq w (N .u8 90) fun x =>
 r x l) (fun d=>d .undef l) fun y m =>
 ay i y (Bo false) fun z =>
 aj z (
 ag .add h (N .u8 97) fun A =>
 ag .sub A (N .u8 65) fun B =>
 bN e (ae g 0) 1 fun C =>
 aO m C B 1 fun o =>
 j [] o) (
 j [] m)) (fun G p =>
 ag .add (ae g 0) (N .i64 1) fun D =>
 s [D] p)) (
 mZ c e fun E =>
 Q E c)) [(N .i64 0)] n
def fC (a0 a1:AV) (M0:RM) (Q:ai) : Prop :=
 aP a0 fun B =>
 aP a1 fun C =>
 ag .geq B C fun d =>
 aa d true (fun c=>c a0 M0) (fun c=>c .undef M0) fun r e =>
 aa d true (fun m=>m a1 e) (fun c=>c .undef e) fun s g =>
 aa d true (fun o=>aP s fun t =>
 o t g) (fun c=>c .undef g) fun u h =>
 aa d true (fun p=>bJ (aC r none (some u)) fun v =>
 p v h) (fun c=>c .undef h) fun w i =>
 aa d true (fun q=>q a1 i) (fun c=>c .undef i) fun x j =>
 aa d true (fun n=>bF .eql w x fun y =>
 n y j) (fun c=>c .undef j) fun z l =>
 ay d z (Bo false) fun A =>
 Q A l
def pE (p1 p2 p3 p4:ak) (a0:AV) (M0:RM) (Q:ai) : Prop :=
 p1 [a0,(St [34])] M0 fun m h =>
 bD m 0 fun u =>
 bD m 1 fun v =>
 aj v (
 p2 [u,(St [34])] h fun e i =>
 bD e 0 fun n =>
 bD e 1 fun w =>
 bD e 2 fun g =>
 aa g true (fun d=>d n i) (fun d=>d .undef i) fun x j =>
 aa g true (fun t=>p3 [x,(St [])] j fun y q =>
 t y q) (fun d=>d .undef j) fun z r =>
 ay g z (Bo false) fun A =>
 Q (.tup [n,w,A]) r) (
 p4 [a0,(St [44,59,58])] h fun c l =>
 ag .lss c (N .i64 0) fun B =>
 aj B (
 Q (.tup [(St []),(St []),(Bo false)]) l) (
 bJ (aC a0 none (some c)) fun o =>
 bJ (aC a0 (some c) none) fun p =>
 bJ (aC a0 none (some c)) fun E =>
 p3 [E,(St [34])] l fun F s =>
 bJ (aC a0 none (some c)) fun C =>
 (C=o∧bJ (aC a0 (some c) none) fun D =>
 (D=p∧Q (.tup [o,p,F]) s))))
def dO (p1 p2 p3 p4:ak) (a0 a1:AV) (M0:RM) (Q:ai) : Prop :=
 aP a1 fun e =>
 ag .eql e (N .i64 0) fun q =>
 aa q false (fun c=>c a1 M0) (fun c=>c .undef M0) fun w2 w =>
 aa q false (fun vk=>vk a0 w) (fun c=>c .undef w) fun w3 x =>
 aa q false (fun vn=>bF .eql w2 w3 fun w4 =>
 vn w4 x) (fun c=>c .undef x) fun w5 h =>
 ay q (Bo true) w5 fun w6 =>
 aj w6 (
 Q (N .i64 0) h) (
 ag .eql e (N .i64 1) fun w7 =>
 aj w7 (
 bL a1 (N .i64 0) fun w8 =>
 p1 [a0,w8] h fun w9 vj =>
 Q w9 vj) (
 aP a0 fun xa =>
 ag .geq e xa fun xb =>
 aj xb (
 Q (N .i64 (-1)) h) (
 av h .top fun xc =>
 ag .leq e xc fun r =>
 aa r true (fun v3=>v3 a0 h) (fun c=>c .undef h) fun xd vb =>
 aa r true (fun v8=>aP xd fun xe =>
 v8 xe vb) (fun c=>c .undef vb) fun xf y =>
 aa r true (fun vl=>ag .leq xf (N .i64 64) fun xg =>
 vl xg y) (fun c=>c .undef y) fun xh z =>
 ay r xh (Bo false) fun xi =>
 aj xi (
 p2 [a0,a1] z fun xj vh =>
 Q xj vh) (
 bL a1 (N .i64 0) fun vf =>
 bL a1 (N .i64 1) fun xk =>
 aP a0 fun xl =>
 ag .sub xl e fun xm =>
 ag .add xm (N .i64 1) fun t =>
 bQ (fun v9 j s =>
 ag .lss (ae j 0) t fun xn =>
 aj xn (
 dM (fun v =>
 bL a0 (ae j 0) fun xo =>
 ag .neq xo vf fun xp =>
 aj xp (
 ag .add (ae j 0) (N .i64 1) fun xq =>
 bJ (aC a0 (some xq) (some t)) fun xr =>
 p1 [xr,vf] s fun vg A =>
 ag .lss vg (N .i64 0) fun xs =>
 aj xs (
 Q (N .i64 (-1)) A) (
 ag .add vg (N .i64 1) fun xt =>
 ag .add (ae j 0) xt fun xu =>
 v [xu] A)) (
 v [(ae j 0)] s)) (fun m B =>
 ag .add (ae m 0) (N .i64 1) fun xv =>
 bL a0 xv fun xw =>
 ag .eql xw xk fun d =>
 aa d true (fun vm=>vm a0 B) (fun c=>c .undef B) fun xx C =>
 aa d true (fun vo=>vo (ae m 0) C) (fun c=>c .undef C) fun xy D =>
 aa d true (fun vp=>vp (ae m 0) D) (fun c=>c .undef D) fun xz E =>
 aa d true (fun vq=>vq e E) (fun c=>c .undef E) fun x0 F =>
 aa d true (fun vr=>ag .add xz x0 fun x1 =>
 vr x1 F) (fun c=>c .undef F) fun x2 G =>
 aa d true (fun vs=>bJ (aC xx (some xy) (some x2)) fun x3 =>
 vs x3 G) (fun c=>c .undef G) fun x4 H =>
 aa d true (fun vt=>vt a1 H) (fun c=>c .undef H) fun x5 I =>
 aa d true (fun vu=>bF .eql x4 x5 fun x6 =>
 vu x6 I) (fun c=>c .undef I) fun x7 n =>
 ay d x7 (Bo false) fun x8 =>
 aj x8 (
 Q (ae m 0) n) (
 ag .add (ae m 0) (N .i64 1) fun g =>
 ag .add (ae j 1) (N .i64 1) fun u =>
 av n .top fun wa =>
 ag .leq e wa fun l =>
 aa l true (fun vv=>vv u n) (fun c=>c .undef n) fun wb L =>
 aa l true (fun vw=>vw g L) (fun c=>c .undef L) fun wc O =>
 aa l true (fun vx=>p3 [wc] O fun wd vi =>
 vx wd vi) (fun c=>c .undef O) fun we P =>
 aa l true (fun vy=>ag .gtr wb we fun wf =>
 vy wf P) (fun c=>c .undef P) fun wg o =>
 ay l wg (Bo false) fun wh =>
 aj wh (
 bJ (aC a0 (some g) none) fun wi =>
 p2 [wi,a1] o fun vd R =>
 ag .geq vd (N .i64 0) fun wj =>
 aj wj (
 ag .add vd g fun wk =>
 Q wk R) (
 Q (N .i64 (-1)) R)) (
 av o .top fun wl =>
 ag .gtr e wl fun i =>
 aa i true (fun vz=>vz u o) (fun c=>c .undef o) fun wm S =>
 aa i true (fun v0=>v0 g S) (fun c=>c .undef S) fun wn U =>
 aa i true (fun v1=>Jm .shr wn (N .u64 4) fun wo =>
 v1 wo U) (fun c=>c .undef U) fun wp V =>
 aa i true (fun v2=>ag .add (N .i64 4) wp fun wq =>
 v2 wq V) (fun c=>c .undef V) fun wr W =>
 aa i true (fun v4=>ag .geq wm wr fun ws =>
 v4 ws W) (fun c=>c .undef W) fun wt X =>
 ay i wt (Bo false) fun p =>
 aa p true (fun v5=>v5 g X) (fun c=>c .undef X) fun wu Y =>
 aa p true (fun v6=>v6 t Y) (fun c=>c .undef Y) fun wv Z =>
 aa p true (fun v7=>ag .lss wu wv fun ww =>
 v7 ww Z) (fun c=>c .undef Z) fun wx va =>
 ay p wx (Bo false) fun wy =>
 aj wy (
 bJ (aC a0 (some g) none) fun wz =>
 p4 [wz,a1] va fun ve vc =>
 ag .lss ve (N .i64 0) fun w0 =>
 aj w0 (
 Q (N .i64 (-1)) vc) (
 ag .add g ve fun w1 =>
 Q w1 vc)) (
 v9 [g,u] va))))) (
 Q (N .i64 (-1)) s)) [(N .i64 0),(N .i64 0)] z))))
def fD (a0 a1:AV) (M0:RM) (Q:ai) : Prop :=
 aP a0 fun R =>
 aP a1 fun S =>
 ag .geq R S fun d =>
 aa d true (fun c=>c a0 M0) (fun c=>c .undef M0) fun x e =>
 aa d true (fun p=>p a0 e) (fun c=>c .undef e) fun y g =>
 aa d true (fun u=>aP y fun z =>
 u z g) (fun c=>c .undef g) fun A l =>
 aa d true (fun v=>v a1 l) (fun c=>c .undef l) fun B m =>
 aa d true (fun w=>aP B fun C =>
 w C m) (fun c=>c .undef m) fun D n =>
 aa d true (fun q=>ag .sub A D fun E =>
 q E n) (fun c=>c .undef n) fun F h =>
 aa d true (fun r=>bJ (aC x (some F) none) fun G =>
 r G h) (fun c=>c .undef h) fun H i =>
 aa d true (fun s=>s a1 i) (fun c=>c .undef i) fun I j =>
 aa d true (fun t=>bF .eql H I fun L =>
 t L j) (fun c=>c .undef j) fun O o =>
 ay d O (Bo false) fun P =>
 Q P o
def kM (p1 p2:ak) (a0 a1:AV) (M0:RM) (Q:ai) : Prop :=
 ag .leq (N .i32 0) a1 fun m =>
 aa m true (fun c=>c a1 M0) (fun c=>c .undef M0) fun E p =>
 aa m true (fun A=>ag .lss E (N .i32 128) fun F =>
 A F p) (fun c=>c .undef p) fun G j =>
 ay m G (Bo false) fun H =>
 aj H (
 Ci .u8 a1 fun I =>
 p1 [a0,I] j fun L w =>
 Q L w) (
 ag .eql a1 (N .i32 65533) fun O =>
 aj O (
 G9 a0 fun D z =>
 dm D z j fun P x =>
 bQ (fun B vu y =>
 GU P y fun n l =>
 bD n 0 fun R =>
 aj R (
 bD n 1 fun S =>
 bD n 2 fun U =>
 ag .eql U (N .i32 65533) fun V =>
 aj V (
 Q S l) (
 B [] l)) (
 Q (N .i64 (-1)) l)) [] x) (
 p2 [a1] j fun W s =>
 gp W fun X =>
 aj X (
 Q (N .i64 (-1)) s) (
 FZ a1 fun d =>
 aP d fun Y =>
 ag .sub Y (N .i64 1) fun e =>
 bQ (fun vt g i =>
 aP a0 fun Z =>
 ag .lss (ae g 0) Z fun va =>
 aj va (
 dM (fun o =>
 bL a0 (ae g 0) fun vb =>
 bL d e fun vc =>
 ag .neq vb vc fun vd =>
 aj vd (
 ag .add (ae g 0) (N .i64 1) fun ve =>
 bJ (aC a0 (some ve) none) fun vf =>
 bL d e fun vg =>
 p1 [vf,vg] i fun t q =>
 ag .lss t (N .i64 0) fun vh =>
 aj vh (
 Q (N .i64 (-1)) q) (
 ag .add t (N .i64 1) fun vi =>
 ag .add (ae g 0) vi fun vj =>
 o [vj] q)) (
 o [(ae g 0)] i)) (fun u v =>
 bQ (fun C h r =>
 aP d fun vk =>
 ag .lss (ae h 0) vk fun vl =>
 aj vl (
 ag .sub (ae u 0) (ae h 0) fun vn =>
 bL a0 vn fun vo =>
 ag .sub e (ae h 0) fun vp =>
 bL d vp fun vq =>
 ag .neq vo vq fun vr =>
 aj vr (
 False) (
 ag .add (ae h 0) (N .i64 1) fun vm =>
 C [vm] r)) (
 ag .sub (ae u 0) e fun vs =>
 Q vs r)) [(N .i64 1)] v)) (
 Q (N .i64 (-1)) i)) [e] s)))
def jJ (a0:AV) (M0:RM) (Q:ai) : Prop :=
 ag .gtr a0 (N .i64 8) fun c =>
 Q c M0
def kK (p1:ak) (a0 a1:AV) (M0:RM) (Q:ai) : Prop :=
 p1 [a0,a1] M0 fun c d =>
 bD c 0 fun g =>
 bD c 1 fun e =>
 Q (.tup [g,e]) d
def iM (a0:AV) (M0:RM) (Q:ai) : Prop :=
 ag .leq (N .i32 0) a0 fun g =>
 aa g true (fun c=>c a0 M0) (fun c=>c .undef M0) fun s h =>
 aa g true (fun l=>ag .lss s (N .i32 55296) fun t =>
 l t h) (fun c=>c .undef h) fun u d =>
 ay g u (Bo false) fun v =>
 aj v (
 Q (Bo true) d) (
 ag .lss (N .i32 57343) a0 fun e =>
 aa e true (fun m=>m a0 d) (fun c=>c .undef d) fun o i =>
 aa e true (fun n=>ag .leq o (N .i32 1114111) fun p =>
 n p i) (fun c=>c .undef i) fun q j =>
 ay e q (Bo false) fun r =>
 aj r (
 Q (Bo true) j) (
 Q (Bo false) j))
def fF (p1:ak) (a0 a1:AV) (M0:RM) (Q:ai) : Prop :=
 p1 [a0,a1] M0 fun g c =>
 gp g fun h =>
 aj h (
 Q (.tup [a0,(Bo false)]) c) (
 aP a1 fun d =>
 bJ (aC a0 (some d) none) fun e =>
 Q (.tup [e,(Bo true)]) c)
end Go.Ab.Vl
namespace Go.Ab
open Go Go.RowKit
def RM.cell (M:RM) (b o:Nat) : Option AV:=(M.cells b).bind (·[o]?)
section
variable {M M' : RM} {K:AV→Prop} {KQ:ai}
theorem DJ {b o:Nat} {v:AV} : M.loads b o 1=some [v]↔M.cell b o=some v:=by
 unfold RM.loads RM.cell
 cases hc:M.cells b with
 | none=>simp
 | some l =>
   simp only[Option.bind_some]
   constructor
   ·intro h
    split at h
    ·rename_i hlt
     have h1:=Option.some.inj h
     have:((l.drop o).take 1)[0]?=some v:=by rw[h1]; rfl
     rw[List.getElem?_take,if_pos (by omega),List.getElem?_drop] at this
     simpa using this
    ·cases h
   ·intro h
    have hlt:=(List.getElem?_eq_some_iff.1 h).1
    rw[if_pos (by omega)]
    congr 1
    rw[List.drop_eq_getElem_cons hlt]
    simp only[List.take_succ_cons,List.take_zero]
    congr 1
    exact(List.getElem?_eq_some_iff.1 h).2
@[go_sem] theorem cZ (b o:Nat) : av M (.ptr b o) K=∃ v,M.cell b o=some v∧K v:=by
 apply propext; unfold av
 constructor
 ·rintro⟨b',o',v,h,hl,hk⟩; cases h; exact⟨v,DJ.1 hl,hk⟩
 ·rintro⟨v,hl,hk⟩; exact⟨b,o,v,rfl,DJ.2 hl,hk⟩
@[go_sem] theorem zZ (b o n:Nat) : bg M (.ptr b o) n K=∃ vs,M.loads b o n=some vs∧K (.agg vs):=by
 apply propext; unfold bg
 constructor
 ·rintro⟨b',o',v,h,hl,hk⟩; cases h; exact⟨v,hl,hk⟩
 ·rintro⟨v,hl,hk⟩; exact⟨b,o,v,rfl,hl,hk⟩
@[go_sem] theorem wN (b p:Nat) (x:AV) (n:Nat) (K:RM→Prop) : aO M (.ptr b p) x n K=(x.cells.length=n∧∃ M',M.stores b p x.cells=some M'∧K M'):=by
 apply propext; unfold aO
 constructor
 ·rintro⟨b',o',M',h,h1,h2,hk⟩; cases h; exact⟨h1,M',h2,hk⟩
 ·rintro⟨h1,M',h2,hk⟩; exact⟨b,p,M',rfl,h1,h2,hk⟩
def Ti (k:IntKind) (a b:Int) : Int:=k.wrap (BitVec.ofInt k.bits a &&& BitVec.ofInt k.bits b).toNat
def U0 (k:IntKind) (a b:Int) : Int:=k.wrap (BitVec.ofInt k.bits a ||| BitVec.ofInt k.bits b).toNat
def Tq (k:IntKind) (a b:Int) : Int:=k.wrap (BitVec.ofInt k.bits a ^^^ BitVec.ofInt k.bits b).toNat
def PV (k:IntKind) (a b:Int) : Int:=k.wrap (BitVec.ofInt k.bits a &&& ~~~BitVec.ofInt k.bits b).toNat
def Ty (k:IntKind) (a b:Int) : Int:=k.wrap (a * 2 ^ (min b.toNat k.bits))
def Tk (k:IntKind) (a b:Int) : Int:=a.fdiv (2 ^ (min b.toNat k.bits))
section
variable (k:IntKind) (a b:Int)
theorem fK {op:BinOp} {v:Value} (h:qP op k a b=some v) : ag op (N k a) (N k b) K=K (.sc v):=by
 apply propext; unfold ag
 constructor
 ·rintro⟨k',a',b',u,h1,h2,h3,hk⟩; cases h1; cases h2; rw[h] at h3; cases h3; exact hk
 ·intro hk; exact⟨k,a,b,v,rfl,rfl,h,hk⟩
@[go_sem] theorem ek:ag .add (N k a) (N k b) K=K (N k (k.wrap (a + b))):=fK k a b rfl
@[go_sem] theorem Ct:ag .sub (N k a) (N k b) K=K (N k (k.wrap (a - b))):=fK k a b rfl
@[go_sem] theorem Tt:ag .mul (N k a) (N k b) K=K (N k (k.wrap (a * b))):=fK k a b rfl
@[go_sem] theorem TT:ag .and (N k a) (N k b) K=K (N k (Ti k a b)):=fK k a b rfl
@[go_sem] theorem UZ:ag .or (N k a) (N k b) K=K (N k (U0 k a b)):=fK k a b rfl
@[go_sem] theorem UH:ag .xor (N k a) (N k b) K=K (N k (Tq k a b)):=fK k a b rfl
@[go_sem] theorem Rz:ag .andNot (N k a) (N k b) K=K (N k (PV k a b)):=fK k a b rfl
@[go_sem] theorem cz:ag .eql (N k a) (N k b) K=K (Bo (a == b)):=fK k a b rfl
@[go_sem] theorem gI:ag .neq (N k a) (N k b) K=K (Bo (a != b)):=fK k a b rfl
@[go_sem] theorem eD:ag .lss (N k a) (N k b) K=K (Bo (decide (a<b))):=fK k a b rfl
@[go_sem] theorem gJ:ag .leq (N k a) (N k b) K=K (Bo (decide (a≤b))):=fK k a b rfl
@[go_sem] theorem mf:ag .gtr (N k a) (N k b) K=K (Bo (decide (a > b))):=fK k a b rfl
@[go_sem] theorem dE:ag .geq (N k a) (N k b) K=K (Bo (decide (a ≥ b))):=fK k a b rfl
@[go_sem] theorem Uo:ag .quo (N k a) (N k b) K=(b≠0∧K (N k (k.wrap (a.tdiv b)))):=by
 apply propext; unfold ag qP
 constructor
 ·rintro⟨k',a',b',u,h1,h2,h3,hk⟩; cases h1; cases h2
  simp only at h3
  split at h3
  ·cases h3
  ·cases h3; exact⟨‹_›,hk⟩
 ·rintro⟨h0,hk⟩; exact⟨k,a,b,_,rfl,rfl,by simp only[if_neg h0],hk⟩
@[go_sem] theorem Tm:ag .rem (N k a) (N k b) K=(b≠0∧K (N k (a.tmod b))):=by
 apply propext; unfold ag qP
 constructor
 ·rintro⟨k',a',b',u,h1,h2,h3,hk⟩; cases h1; cases h2
  simp only at h3
  split at h3
  ·cases h3
  ·cases h3; exact⟨‹_›,hk⟩
 ·rintro⟨h0,hk⟩; exact⟨k,a,b,_,rfl,rfl,by simp only[if_neg h0],hk⟩
variable (l:IntKind)
@[go_sem] theorem UN:Jm .shl (N k a) (N l b) K=(0≤b∧K (N k (Ty k a b))):=by
 apply propext; unfold Jm Dm
 constructor
 ·rintro⟨k',a',l',b',u,h1,h2,h3,hk⟩; cases h1; cases h2
  split at h3
  ·cases h3
  ·cases h3; exact⟨by omega,hk⟩
 ·rintro⟨h0,hk⟩; exact⟨k,a,l,b,_,rfl,rfl,by rw[if_neg (by omega)]; rfl,hk⟩
@[go_sem] theorem UX:Jm .shr (N k a) (N l b) K=(0≤b∧K (N k (Tk k a b))):=by
 apply propext; unfold Jm Dm
 constructor
 ·rintro⟨k',a',l',b',u,h1,h2,h3,hk⟩; cases h1; cases h2
  split at h3
  ·cases h3
  ·cases h3; exact⟨by omega,hk⟩
 ·rintro⟨h0,hk⟩; exact⟨k,a,l,b,_,rfl,rfl,by rw[if_neg (by omega)]; rfl,hk⟩
@[go_sem] theorem UY {l:IntKind} {a:Int} {K:AV→Prop} : FZ (N l a) K=K (St (Utf8.encode a).data.toList):=by
 apply propext; unfold FZ
 constructor
 ·rintro⟨l',n,h,hk⟩; cases h; exact hk
 ·intro h; exact⟨_,_,rfl,h⟩
@[go_sem] theorem U5:Ci k (N l a) K=K (N k (k.wrap a)):=by
 apply propext; unfold Ci
 constructor
 ·rintro⟨l',n,h,hk⟩; cases h; exact hk
 ·intro hk; exact⟨l,a,rfl,hk⟩
@[go_sem] theorem U3 (mx:Bool) : Kc mx (N k a) (N k b) K=K (N k (if mx then(if b > a then b else a) else(if b<a then b else a))):=by
 apply propext; unfold Kc
 constructor
 ·rintro⟨k',a',b',h1,h2,hk⟩; cases h1; cases h2; exact hk
 ·intro hk; exact⟨k,a,b,rfl,rfl,hk⟩
@[go_sem] theorem U4:NP (N k a) K=K (N k (k.wrap (0 - a))):=by
 apply propext; unfold NP
 constructor
 ·rintro⟨k',a',h1,hk⟩; cases h1; exact hk
 ·intro hk; exact⟨k,a,rfl,hk⟩
end
@[go_sem] theorem dh (b:Bool) : gp (Bo b) K=K (Bo (!b)):=by
 apply propext; unfold gp
 constructor
 ·rintro⟨b',h,hk⟩; cases h; exact hk
 ·intro hk; exact⟨b,rfl,hk⟩
@[go_sem] theorem Sr (neg a b:Bool) : Au neg (Bo a) (Bo b) K=K (Bo ((a == b) != neg)):=by
 apply propext; unfold Au
 constructor
 ·rintro⟨a',b',h,h',hk⟩; cases h; cases h'; exact hk
 ·intro hk; exact⟨a,b,rfl,rfl,hk⟩
@[go_sem] theorem Hf (t:Bool) (a b:AV) : ay (Bo t) a b K=K (if t then a else b):=by
 apply propext; unfold ay
 constructor
 ·rintro⟨t',h,hk⟩; cases h; exact hk
 ·intro hk; exact⟨t,rfl,hk⟩
@[go_sem] theorem wT (b:Bool) (p q:Prop) : aj (Bo b) p q=((b=true→p)∧(b=false→q)):=rfl
@[go_sem] theorem SI {α:Type} (b want:Bool) (f g:α→Prop) (k:α) : jZ (Bo b) want f g k=if b=want then f k else g k:=rfl
@[go_sem] theorem Qz {α:Type} (want:Bool) (f g:α→Prop) (k:α) : jZ .undef want f g k=g k:=rfl
@[go_sem] theorem UL (b o:Nat) : pG (.ptr b o) K=K (.ptr b o):=by
 apply propext; unfold pG
 constructor
 ·rintro⟨b',o',h,hk⟩; cases h; exact hk
 ·intro hk; exact⟨b,o,rfl,hk⟩
@[go_sem] theorem eT (b o n:Nat) : aF (.ptr b o) n K=K (.ptr b (o + n)):=by
 apply propext; unfold aF
 constructor
 ·rintro⟨b',o',h,hk⟩; cases h; exact hk
 ·intro hk; exact⟨b,o,rfl,hk⟩
@[go_sem] theorem vX (b p len:Nat) (cap:Cap) (k:IntKind) (n:Int) (size:Nat) : bN (.slc b p len cap) (N k n) size K=(0≤n∧n<len∧K (.ptr b (p + n.toNat * size))):=by
 apply propext; unfold bN
 constructor
 ·rintro⟨b',p',l',c',k',n',h,h',h0,h1,hk⟩; cases h; cases h'; exact⟨h0,h1,hk⟩
 ·rintro⟨h0,h1,hk⟩; exact⟨b,p,len,cap,k,n,rfl,rfl,h0,h1,hk⟩
@[go_sem] theorem TH (b p:Nat) (k:IntKind) (n:Int) (len size:Nat) : Oj (.ptr b p) (N k n) len size K=(0≤n∧n<len∧K (.ptr b (p + n.toNat * size))):=by
 apply propext; unfold Oj
 constructor
 ·rintro⟨b',p',k',n',h,h',h0,h1,hk⟩; cases h; cases h'; exact⟨h0,h1,hk⟩
 ·rintro⟨h0,h1,hk⟩; exact⟨b,p,k,n,rfl,rfl,h0,h1,hk⟩
@[go_sem] theorem Tc (cs:List AV) (off:Nat) : KI (.agg cs) off K=∃ v,cs[off]?=some v∧K v:=by
 apply propext; unfold KI
 constructor
 ·rintro⟨cs',v,h,h1,hk⟩; cases h; exact⟨v,h1,hk⟩
 ·rintro⟨v,h1,hk⟩; exact⟨cs,v,rfl,h1,hk⟩
@[go_sem] theorem S9 (cs:List AV) (off n:Nat) : LG (.agg cs) off n K=(off + n≤cs.length∧K (.agg ((cs.drop off).take n))):=by
 apply propext; unfold LG
 constructor
 ·rintro⟨cs',h,h1,hk⟩; cases h; exact⟨h1,hk⟩
 ·rintro⟨h1,hk⟩; exact⟨cs,rfl,h1,hk⟩
@[go_sem] theorem Te (cs:List AV) (k:IntKind) (n:Int) (len:Nat) : Kv (.agg cs) (N k n) len K=(0≤n∧n<len∧∃ v,cs[n.toNat]?=some v∧K v):=by
 apply propext; unfold Kv
 constructor
 ·rintro⟨cs',k',n',v,h,h',h0,h1,h2,hk⟩; cases h; cases h'; exact⟨h0,h1,v,h2,hk⟩
 ·rintro⟨h0,h1,v,h2,hk⟩; exact⟨cs,k,n,v,rfl,rfl,h0,h1,h2,hk⟩
@[go_sem] theorem Td (cs:List AV) (k:IntKind) (n:Int) (len size:Nat) : KG (.agg cs) (N k n) len size K=(0≤n∧n<len∧n.toNat * size + size≤cs.length∧K (.agg ((cs.drop (n.toNat * size)).take size))):=by
 apply propext; unfold KG
 constructor
 ·rintro⟨cs',k',n',h,h',h0,h1,h2,hk⟩; cases h; cases h'; exact⟨h0,h1,h2,hk⟩
 ·rintro⟨h0,h1,h2,hk⟩; exact⟨cs,k,n,rfl,rfl,h0,h1,h2,hk⟩
@[go_sem] theorem Jo (s:List UInt8) (k:IntKind) (n:Int) : bL (St s) (N k n) K=(0≤n∧∃ b,s[n.toNat]?=some b∧K (N .u8 b.toNat)):=by
 apply propext; unfold bL
 constructor
 ·rintro⟨s',k',n',b,h,h',h0,h1,hk⟩; cases h; cases h'; exact⟨h0,b,h1,hk⟩
 ·rintro⟨h0,b,h1,hk⟩; exact⟨s,k,n,b,rfl,rfl,h0,h1,hk⟩
@[go_sem] theorem Ce (vs:List AV) (i:Nat) : bD (.tup vs) i K=∃ v,vs[i]?=some v∧K v:=by
 apply propext; unfold bD
 constructor
 ·rintro⟨cs',v,h,h1,hk⟩; cases h; exact⟨v,h1,hk⟩
 ·rintro⟨v,h1,hk⟩; exact⟨vs,v,rfl,h1,hk⟩
@[go_sem] theorem dL (v:AV) : bJ (some v) K=K v:=by
 apply propext; unfold bJ
 constructor
 ·rintro⟨v',h,hk⟩; cases h; exact hk
 ·intro hk; exact⟨v,rfl,hk⟩
@[go_sem] theorem nI (b o n:Nat) (c:Cap) : d9 (.slc b o n c) K=K (N .i64 n):=by
 apply propext; unfold d9
 constructor
 ·rintro⟨n',h,hk⟩; cases h; exact hk
 ·intro hk; exact⟨n,rfl,hk⟩
@[go_sem] theorem Oo (b:Nat) : d9 (.emp b) K=K (N .i64 0):=by
 apply propext; unfold d9
 constructor
 ·rintro⟨n',h,hk⟩; cases h; exact hk
 ·intro hk; exact⟨0,rfl,hk⟩
@[go_sem] theorem OI:d9 (.sc (.slice none 0 0)) K=K (N .i64 0):=by
 apply propext; unfold d9
 constructor
 ·rintro⟨n',h,hk⟩; cases h; exact hk
 ·intro hk; exact⟨0,rfl,hk⟩
@[go_sem] theorem bB (s:List UInt8) : aP (St s) K=K (N .i64 s.length):=by
 apply propext; unfold aP
 constructor
 ·rintro⟨s',h,hk⟩; cases h; exact hk
 ·intro hk; exact⟨s,rfl,hk⟩
@[go_sem] theorem UT (b o n c:Nat) : GX (.slc b o n (.ex c)) K=K (N .i64 c):=by
 apply propext; unfold GX
 constructor
 ·rintro⟨n',h,hk⟩; cases h; exact hk
 ·intro hk; exact⟨c,rfl,hk⟩
@[go_sem] theorem Uh:GX (.sc (.slice none 0 0)) K=K (N .i64 0):=by
 apply propext; unfold GX
 constructor
 ·rintro⟨n',h,hk⟩; cases h; exact hk
 ·intro hk; exact⟨0,rfl,hk⟩
@[go_sem] theorem UM (s:List UInt8) : isStr (St s) K=K (St s):=by
 apply propext; unfold isStr
 constructor
 ·rintro⟨s',h,hk⟩; cases h; exact hk
 ·intro hk; exact⟨s,rfl,hk⟩
@[go_sem] theorem Ip {x:AV} {s:List UInt8} (h:uY M x=some s) : mZ M x K=K (St s):=by
 apply propext; unfold mZ
 constructor
 ·rintro⟨s',h',hk⟩; rw[h] at h'; cases h'; exact hk
 ·intro hk; exact⟨s,h,hk⟩
theorem mF {op:BinOp} {a b:List UInt8} {v:AV} (h:wD op a b=some v) : bF op (St a) (St b) K=K v:=by
 apply propext; unfold bF
 constructor
 ·rintro⟨a',b',u,h1,h2,h3,hk⟩; cases h1; cases h2; rw[h] at h3; cases h3; exact hk
 ·intro hk; exact⟨a,b,v,rfl,rfl,h,hk⟩
@[go_sem] theorem NJ (a b:List UInt8) : bF .eql (St a) (St b) K=K (Bo (a == b)):=by rw[← gK]; exact mF rfl
@[go_sem] theorem jR (a b:List UInt8) : bF .neq (St a) (St b) K=K (Bo (a != b)):=by rw[bne,← gK]; exact mF rfl
@[go_sem] theorem Tx (a b:List UInt8) : bF .lss (St a) (St b) K=K (Bo (Op.bytesLess a b)):=mF rfl
@[go_sem] theorem UC (a b:List UInt8) : bF .leq (St a) (St b) K=K (Bo (Op.bytesLess a b || a == b)):=by rw[← gK]; exact mF rfl
@[go_sem] theorem Ua (a b:List UInt8) : bF .gtr (St a) (St b) K=K (Bo (!(Op.bytesLess a b || a == b))):=by rw[← gK]; exact mF rfl
@[go_sem] theorem Us (a b:List UInt8) : bF .geq (St a) (St b) K=K (Bo (!Op.bytesLess a b)):=mF rfl
@[go_sem] theorem dG (a b:List UInt8) : bF .add (St a) (St b) K=(a.length + b.length≤9223372036854775807∧K (St (a++b))):=by
 apply propext; unfold bF
 constructor
 ·rintro⟨a',b',u,h1,h2,h3,hk⟩; cases h1; cases h2
  simp only[wD] at h3
  split at h3
  ·rename_i hb; cases h3; exact⟨aL hb,hk⟩
  ·cases h3
 ·rintro⟨h0,hk⟩; exact⟨a,b,_,rfl,rfl,by simp only[wD,aJ.2 h0],hk⟩
theorem iE {neg:Bool} {tag:Nat} {x y:AV} {r:Bool} (ht:F5 x=tag) (h:DU x y=some r) : iX neg tag x y K=K (Bo (r != neg)):=by
 apply propext; unfold iX
 constructor
 ·rintro⟨_,r',h',hk⟩; rw[h] at h'; cases h'; exact hk
 ·intro hk; exact⟨ht,r,h,hk⟩
@[go_sem] theorem PQ (neg:Bool) : iX neg 2 (.sc (.slice none 0 0)) (.sc (.slice none 0 0)) K=K (Bo (!neg)):=(iE (tag:=2) (r:=true) rfl rfl).trans (by cases neg <;> rfl)
@[go_sem] theorem Qh (neg:Bool) (b:Nat) : iX neg 2 (.emp b) (.sc (.slice none 0 0)) K=K (Bo neg):=(iE (tag:=2) (r:=false) rfl rfl).trans (by cases neg <;> rfl)
@[go_sem] theorem PY (neg:Bool) (b o n:Nat) (c:Cap) : iX neg 2 (.slc b o n c) (.sc (.slice none 0 0)) K=K (Bo neg):=(iE (tag:=2) (r:=false) rfl rfl).trans (by cases neg <;> rfl)
@[go_sem] theorem P7 (neg:Bool) (b o:Nat) : iX neg 1 (.ptr b o) (.sc (.pointer none)) K=K (Bo neg):=(iE (tag:=1) (r:=false) rfl rfl).trans (by cases neg <;> rfl)
@[go_sem] theorem Ps (neg:Bool) : iX neg 1 (.sc (.pointer none)) (.sc (.pointer none)) K=K (Bo (!neg)):=(iE (tag:=1) (r:=true) rfl rfl).trans (by cases neg <;> rfl)
@[go_sem] theorem PK (neg:Bool) (b:Nat) : iX neg 3 (.map b) (.sc (.map none)) K=K (Bo neg):=(iE (tag:=3) (r:=false) rfl rfl).trans (by cases neg <;> rfl)
@[go_sem] theorem Qo (neg:Bool) (f:Fn) (xs ys:List AV) : iX neg 4 (.fn f xs ys) (.sc .nilFunc) K=K (Bo neg):=(iE (tag:=4) (r:=false) rfl rfl).trans (by cases neg <;> rfl)
@[go_sem] theorem RL (neg:Bool) (ks:List Nat) (cs ds:List AV) : yH neg ks (.agg cs) (.agg ds) K=(cs.length=ks.length∧ds.length=ks.length∧∃ r,cK ks cs ds=some r∧K (Bo (r != neg))):=by
 apply propext; unfold yH
 constructor
 ·rintro⟨a',b',r,h1,h2,h3,h4,h5,hk⟩; cases h1; cases h2; exact⟨h3,h4,r,h5,hk⟩
 ·rintro⟨h3,h4,r,h5,hk⟩; exact⟨cs,ds,r,rfl,rfl,h3,h4,h5,hk⟩
@[go_sem] theorem Oi (C:FuncId→ak) (g:FuncId) (first cap args:List AV) : FW C (.fn (.func g) first cap) args M KQ=C g (first++args++cap) M KQ:=by
 apply propext; unfold FW
 constructor
 ·rintro⟨g',f',c',h,hk⟩; cases h; exact hk
 ·intro hk; exact⟨g,first,cap,rfl,hk⟩
@[go_sem] theorem oL (cs:List AV) (parts:List (Nat × Nat × AV)) : j4 cs parts K=∃ cs',vK cs parts=some cs'∧K (.agg cs'):=rfl
@[go_sem] theorem bn (x:RB) (mk:Nat→AV) : dm x mk M KQ=KQ (mk M.next) (M.push x):=rfl
@[go_sem] theorem PS (x:RB) (mk:Nat→AV) (k:KR) : OD x mk M k=k (mk M.next) (M.push x) (some M.next):=rfl
@[go_sem] theorem TC (f:(List AV→RM→Prop)→Prop) (g:List AV→RM→Prop) : dM f g=f g:=rfl
@[go_sem] theorem Ta (x:AV) (xs:List AV) : ae (x :: xs) 0=x:=rfl
@[go_sem] theorem SS (x:AV) (xs:List AV) (n:Nat) : ae (x :: xs) (n + 1)=ae xs n:=rfl
@[go_sem] theorem Sj (b:Nat) (x:RB) (mk:Nat→AV) (v:AV) : Pq (some b) M x mk v=(M.heap b=some x∧mk b=v):=rfl
end
section
variable {M M' : RM}
theorem RM.sO {b:Nat} {l:List AV} {opn:Bool} {el fz:Nat} (h:M.heap b=some (.row l opn el fz)) : M.cells b=some l:=by simp[RM.cells,h]
theorem RM.NM {b o:Nat} {l:List AV} {opn:Bool} {el fz:Nat} (h:M.heap b=some (.row l opn el fz)) : M.cell b o=l[o]?:=by simp[RM.cell,RM.sO h]
theorem RM.oN {b o k:Nat} {l:List AV} {opn:Bool} {el fz:Nat} (h:M.heap b=some (.row l opn el fz)) (hk:o + k≤l.length) : M.loads b o k=some ((l.drop o).take k):=by
 simp[RM.loads,RM.sO h,hk]
theorem RM.Lj {b o:Nat} {l vs:List AV} {opn:Bool} {el fz:Nat} (h:M.heap b=some (.row l opn el fz)) (h1:o + vs.length≤l.length) (h2:fz≤o) (h3:vs.all oneCell=true) :
  M.stores b o vs=some (M.put b (.row (l.take o++vs++l.drop (o + vs.length)) opn el fz)):=by
 simp only[RM.stores,h]
 rw[if_pos ⟨h1,h2,h3⟩]
structure ah (bs:List Nat) (M M' : RM) : Prop where
 base:M'.base=M.base
 next:M.next≤M'.next
 heap:∀ c,c<M.next→c ∉ bs→M'.heap c=M.heap c
theorem ah.refl (bs:List Nat) (M:RM) : ah bs M M:=⟨rfl,Nat.le_refl _,fun _ _ _=>rfl⟩
theorem ah.trans {bs:List Nat} {M1 M2:RM} (h:ah bs M M1) (k:ah bs M1 M2) : ah bs M M2 :=
 ⟨k.base.trans h.base,Nat.le_trans h.next k.next,fun c hc hb=>(k.heap c (Nat.lt_of_lt_of_le hc h.next) hb).trans (h.heap c hc hb)⟩
theorem ah.push {bs:List Nat} (h:ah bs M M') (x:RB) : ah bs M (M'.push x) :=
 ⟨h.base,Nat.le_succ_of_le h.next,fun c hc hb=>by
  have:=h.next
  simp only[RM.push]; rw[if_neg (by omega)]; exact h.heap c hc hb⟩
theorem ah.put {bs:List Nat} (h:ah bs M M') {b:Nat} (x:RB) (hb:M.next≤b∨b∈bs) : ah bs M (M'.put b x) :=
 ⟨h.base,h.next,fun c hc hcb=>by
  simp only[RM.put]; rw[if_neg]
  ·exact h.heap c hc hcb
  ·rintro rfl; rcases hb with hb | hb
   ·omega
   ·exact hcb hb⟩
theorem ah.del {bs:List Nat} (h:ah bs M M') {b:Nat} (hb:M.next≤b∨b∈bs) : ah bs M (M'.del b) :=
 ⟨h.base,h.next,fun c hc hcb=>by
  simp only[RM.del]; rw[if_neg]
  ·exact h.heap c hc hcb
  ·rintro rfl; rcases hb with hb | hb
   ·omega
   ·exact hcb hb⟩
theorem ah.mono {bs cs:List Nat} (h:ah bs M M') (hs:∀ b∈bs,b∈cs) : ah cs M M':=⟨h.base,h.next,fun c hc hb=>h.heap c hc fun h=>hb (hs c h)⟩
theorem ah.jP {bs:List Nat} {M1 M2:RM} {cs:List Nat} (h:ah bs M M1) (k:ah cs M1 M2) (hn:∀ c∈cs,M.next≤c∨c∈bs) : ah bs M M2 :=
 ⟨k.base.trans h.base,Nat.le_trans h.next k.next,fun c hc hb=>by
  rw[k.heap c (Nat.lt_of_lt_of_le hc h.next) (fun hm=>by rcases hn c hm with h1 | h1; omega; exact hb h1),h.heap c hc hb]⟩
theorem ah.cells {bs:List Nat} (h:ah bs M M') {b:Nat} (hlt:b<M.next) (hb:b ∉ bs) : M'.cells b=M.cells b:=by
 simp only[RM.cells,h.heap b hlt hb,RM.lo,h.base]
theorem ah.cell {bs:List Nat} (h:ah bs M M') {b o:Nat} (hlt:b<M.next) (hb:b ∉ bs) : M'.cell b o=M.cell b o:=by
 simp only[RM.cell,h.cells hlt hb]
theorem ah.loads {bs:List Nat} (h:ah bs M M') {b o k:Nat} (hlt:b<M.next) (hb:b ∉ bs) : M'.loads b o k=M.loads b o k:=by
 simp only[RM.loads,h.cells hlt hb]
@[go_sem] theorem RM.SG (x:RB) : (M.push x).next=M.next + 1:=rfl
@[go_sem] theorem RM.TR (b:Nat) (x:RB) : (M.put b x).next=M.next:=rfl
@[go_sem] theorem RM.Uj (b:Nat) : (M.del b).next=M.next:=rfl
@[go_sem] theorem RM.aY (x:RB) : (M.push x).heap M.next=some x:=by simp[RM.push]
theorem RM.Oa {x:RB} {c:Nat} (h:c≠M.next) : (M.push x).heap c=M.heap c:=by simp[RM.push,h]
@[go_sem] theorem RM.jN (b:Nat) (x:RB) : (M.put b x).heap b=some x:=by simp[RM.put]
end
end Go.Ab
