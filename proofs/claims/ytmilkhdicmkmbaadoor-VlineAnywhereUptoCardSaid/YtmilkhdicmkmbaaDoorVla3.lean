/- Part 3 of the ground of the proofs of this seat (texts R5 to R14). By an AI agent. -/
import Derived.Test.YtmilkhdicmkmbaaDoorVla2
import Derived.Lib.UnsafeStr
import Derived.Scope
import Derived.ChangeShapes
import Derived.OpenShut
import Derived.WideKeyArgs
import GoSem.ClaimJoined
set_option linter.unusedVariables false
set_option linter.unusedSimpArgs false
namespace Go.Ab
open Go Go.RowKit
abbrev af:=AV→RM→Prop
def CP (P:Program) (f:FuncId) : Prop:=∃ fn c,P.funcs[f]?=some fn∧fn.body=some c
def dE (P:Program) (f:FuncId) (args:List AV) (M:RM) (Q:af) : Prop :=
 CP P f∧∀ (ρ:Ren) (w:World) (us:List Value),aA ρ args us→bi P ρ M w →
  Calls P f ⟨us⟩ w fun e w'=>∃ v' v M' ρ',e=.returned v'∧After P M ρ w M' ρ' w'∧aa ρ' v v'∧Q v M'
theorem dE.mono {P:Program} {f:FuncId} {args:List AV} {M:RM} {Q Q' : af} (h:dE P f args M Q) (hq:∀ v M',Q v M'→Q' v M') : dE P f args M Q' :=
 ⟨h.1,fun ρ w us a b=>(h.2 ρ w us a b).mono fun e w' ⟨v',v,M',ρ',c,d,f,g⟩=>⟨v',v,M',ρ',c,d,f,hq _ _ g⟩⟩
def jg (P:Program) (o:Oper) (e:Operand→AV) (M:RM) (K:af) : Prop :=
 ∀ (ρ:Ren) (w:World) (c:Operand→Value),bi P ρ M w→(∀ x∈o.op.operands,aa ρ (e x) (c x))→∃ M' ρ' w',After P M ρ w M' ρ' w' ∧
   ((∃ v' v,(execOp c o).run P w=.ok (.value v') w'∧aa ρ' v v'∧K v M')∨((execOp c o).run P w=.ok .skip w'∧K .undef M') ∨
     ∃ f args us,(execOp c o).run P w=.ok (.enter f ⟨us⟩) w'∧aA ρ' args us∧dE P f args M' K)
def aV (M:RM) (a x:AV) (n:Nat) (K:RM→Prop) : Prop:=∃ b p M',a=.ptr b p∧x.cells.length=n∧M.stores b p x.cells=some M'∧K M'
def lQ (M:RM) (size:Nat) (zs:List AV) (zeros:Bool) (x:AV) : Option (Nat × List AV) :=
 match zeros with
 | true=>match x with
   | .sc (.int _ n)=>if 0≤n then some (n.toNat,l7 zs n.toNat) else none
   | _=>none
 | false=>match x with
   | .slc b o len _=>match M.loads b o (len * size) with
     | some vs=>some (len,vs)
     | none=>none
   | .emp _=>some (0,[])
   | .sc (.slice none 0 0)=>some (0,[])
   | .sc (.string s)=>if size=1 then some (s.data.toList.length,s.data.toList.map fun b=>N .u8 b.toNat) else none
   | _=>none
def pQ (elem size bytes n:Nat) (new:List AV) (s:AV) (M:RM) : Option (AV × RM) :=
 match s with
 | .sc (.slice none 0 0)=>if n=0 then some (s,M) else if new.all oneCell=true then some (.slc M.next 0 n (.op size),M.push (.row new true elem 0)) else none
 | .emp _=>if n=0 then some (s,M) else none
 | .slc b o len (.ex c)=>if n=0 then(if len≤c then some (s,M) else none) else if len + n≤c then(match M.stores b (o + len * size) new with
   | some M'=>some (.slc b o (len + n) (.ex c),M')
   | none=>none)
   else match M.loads b o (len * size) with
    | some old=>if (len + n) * bytes≤140737488355328∧len + n≤140737488355328∧(old++new).all oneCell=true then some (.slc M.next 0 (len + n) (.op size),M.push (.row (old++new) true elem 0)) else none
    | none=>none
 | .slc b o len (.op esz)=>if n=0 then some (s,M) else match M.heap b with
   | some (.row l opn el fz)=>if opn=true∧esz=size then
     (if o + (len + n) * size≤l.length then(match M.stores b (o + len * size) new with
      | some M'=>some (.slc b o (len + n) (.op esz),M')
      | none=>none)
     else if el=elem∧(len + n) * bytes≤140737488355328∧len + n≤140737488355328∧o=0∧l.length=len * size∧fz≤len * size∧new.all oneCell=true then
      some (.slc M.next 0 (len + n) (.op size),(M.del b).push (.row (l++new) true elem fz)) else none) else none
   | _=>none
 | _=>none
def appW (elem size bytes:Nat) (zs:List AV) (zeros:Bool) (s x:AV) (M:RM) (K:af) : Prop :=
 ∃ n new,lQ M size zs zeros x=some (n,new)∧n * bytes≤140737488355328∧n≤140737488355328∧∃ v M',pQ elem size bytes n new s M=some (v,M')∧K v M'
def firstM (M:RM) (size k:Nat) : AV→Option (List AV)
 | .slc b o _ _=>M.loads b o (k * size)
 | .sc (.string s)=>if size=1 then some ((s.data.toList.take k).map fun b=>N .u8 b.toNat) else none
 | _=>none
def IU (size:Nat) (d x:AV) (M:RM) : Option (AV × RM) :=
 match d with
 | .slc b o dn _=>match uk x with
   | some sn=>if Nat.min sn dn=0 then some (N .i64 0,M) else match firstM M size (Nat.min sn dn) x with
     | some vs=>match M.stores b o vs with
       | some M'=>some (N .i64 (Nat.min sn dn:Nat),M')
       | none=>none
     | none=>none
   | none=>none
 | .emp _ | .sc (.slice none 0 0)=>match uk x with
   | some _=>some (N .i64 0,M)
   | none=>none
 | _=>none
def PY (size:Nat) (d x:AV) (M:RM) (K:af) : Prop:=∃ v M',IU size d x M=some (v,M')∧K v M'
def Ld (zs:List AV) (x:AV) (M:RM) (K:af) : Prop :=
 (∃ b p n cap M',x=.slc b p n cap∧M.stores b p (l7 zs n)=some M'∧K .undef M')∨(∃ b,x=.emp b∧K .undef M)∨(x=.sc (.slice none 0 0)∧K .undef M)
def Eo (C:FuncId→List AV→RM→af→Prop) (f:AV) (args:List AV) (M:RM) (K:af) : Prop:=∃ g first cap,f=.fn (.func g) first cap∧C g (first++args++cap) M K
def Ig (P:Program) (g:FuncId) (args:List AV) (M:RM) (v:AV) : Prop :=
 ∀ (ρ:Ren) (w:World) (us:List Value),aA ρ args us→bi P ρ M w→∃ u,(callFunc g ⟨us⟩).run P w=.ok (.value u) w∧aa ρ v u
def Oi (P:Program) (g:FuncId) (args:List AV) (M:RM) (v:AV) (M' : RM) : Prop :=
 ∀ (ρ:Ren) (w:World) (us:List Value),aA ρ args us→bi P ρ M w→∃ ρ' w' u,(callFunc g ⟨us⟩).run P w=.ok (.value u) w'∧After P M ρ w M' ρ' w'∧aa ρ' v u
def tH (P:Program) (g:FuncId) (args:List AV) (M:RM) (K:af) : Prop :=
 (∃ v,BP P g args=some (.value v)∧K v M) ∨
 ((∃ fn t elem size tr,P.funcs[g]?=some fn∧fn.body=none∧Extern.findNext fn=none∧Extern.find fn=some (Extern.SlicesOverlaps.overlaps #[t,t] #[tr])∧P.underlying t=some (.slice elem)∧aG P elem=some size) ∧
   (∃ ba oa na ca bb ob nb cb la ea fa lb opb eb fb,args=[.slc ba oa na ca,.slc bb ob nb cb]∧ba≠bb∧M.heap ba=some (.row la false ea fa)∧M.heap bb=some (.row lb opb eb fb)∧fa=0∧oa + 1≤la.length∧1≤lb.length)∧K (Bo false) M) ∨
 ((∃ fn,P.funcs[g]?=some fn∧fn.body=none∧Extern.findNext fn=none∧Extern.find fn=some Extern.AbiNoEscape.same)∧∃ v,args=[v]∧K v M) ∨
 (∃ v,Ig P g args M v∧K v M) ∨
 ∃ v M',Oi P g args M v M'∧K v M'
def EI (x:AV) (M:RM) (K:af) : Prop:=∃ b s pos,x=.ptr b 0∧M.heap b=some (.fP s pos) ∧
 if pos<s.length then K (.tup [Bo true,N .i64 pos,N .i32 (Utf8.decode ⟨⟨s⟩⟩ pos).1]) (M.put b (.fP s (pos + (Utf8.decode ⟨⟨s⟩⟩ pos).2))) else K (.tup [Bo false]) M
def H8 (x:AV) (M:RM) (K:af) : Prop:=∃ m es cl,x=.map m∧M.heap m=some (.map es cl)∧K (.ptr M.next 0) (M.push (.iter (some m) cl [] cl))
def Kl (x:AV) (M:RM) (K:af) : Prop:=∃ b m since seen stepped es cl,x=.ptr b 0∧M.heap b=some (.iter (some m) since seen stepped)∧M.heap m=some (.map es cl) ∧
 (seen=[]∨es=[]∨∃ n∈es,n.2.2<stepped)∧(∀ n∈es,n.2.2 ∉ seen→K (.tup [Bo true,n.1,n.2.1]) (M.put b (.iter (some m) since (seen++[n.2.2]) cl)))∧((∀ n∈es,n.2.2 ∉ seen→since≤n.2.2)→K (.tup [Bo false]) M)
def P8 (x:AV) (M:RM) (K:af) : Prop:=∃ b p n c l el,x=.slc b p n (.ex c)∧M.heap b=some (.row l false el 0)∧K x (M.put b (.row l false el (l.length + 1)))
def Ng (el:Nat) (x n:AV) (M:RM) (K:af) : Prop :=
 (∃ b k l opn fz s,x=.ptr b 0∧n=N .i64 ((k + 1:Nat) : Int)∧k≤4611686018427387904∧M.heap b=some (.row l opn el fz)∧k + 1≤l.length∧bu byteOf (l.take (k + 1))=some s∧K (St s) (M.del b)) ∨
 (x=.sc (.pointer none)∧n=N .i64 0∧K (St []) M)
def F8 (k v:AV) : List (AV × AV × Nat)→Nat→List (AV × AV × Nat)
 | [],_=>[]
 | (_,_,n) :: es,0=>(k,v,n) :: es
 | x :: es,i + 1=>x :: F8 k v es i
def Rv (es:List (AV × AV × Nat)) (c:Nat) (k v:AV) : Option (Nat × AV)→RB
 | some (i,_)=>.map (F8 k v es i) c
 | none=>.map (es++[(k,v,c)]) (c + 1)
def Im (a:Bool) (ks:List Nat) (M:RM) (m k v:AV) (K:RM→Prop) : Prop :=
 ∃ b es c kc r,m=.map b∧M.heap b=some (.map es c)∧dX a k=some kc∧kc.length=ks.length∧l6 a ks kc es 0=some r∧K (M.put b (Rv es c k v r))
def Rz (es:List (AV × AV × Nat)) (c:Nat) : Option (Nat × AV)→RB
 | some (i,_)=>.map (es.eraseIdx i) c
 | none=>.map es c
def Hm (a:Bool) (ks:List Nat) (M:RM) (m k:AV) (K:af) : Prop :=
 ∃ b es c kc r,m=.map b∧M.heap b=some (.map es c)∧dX a k=some kc∧kc.length=ks.length∧l6 a ks kc es 0=some r∧K (.tup []) (M.put b (Rz es c r))
def eQ (P:Program) (o:Oper) (e:Operand→AV) (M:RM) (K:af) : Prop :=
 match o.op with
 | .store t a x=>match aG P t with
   | some n=>aV M (e a) (e x) n (K .undef)
   | none=>False
 | .call { callee:=.builtin .append,args,argTypes } => match argTypes[0]?,args with
   | some t,⟨[s,x]⟩=>match P.underlying t,jm P argTypes with
     | some (.slice elem),some zeros=>match aG P elem,pI P elem,eU P elem with
       | some size,some bytes,some zs=>match Nat.ble 1 size,Nat.beq zs.length size with
         | true,true=>appW elem size bytes zs zeros (e s) (e x) M K
         | _,_=>False
       | _,_,_=>False
     | _,_=>False
   | _,_=>False
 | .call { callee:=.builtin .copy,args,argTypes } => match argTypes[0]?,args with
   | some t,⟨[s,x]⟩=>match P.underlying t with
     | some (.slice elem)=>match aG P elem with
       | some size=>PY size (e s) (e x) M K
       | none=>False
     | _=>False
   | _,_=>False
 | .call { callee:=.builtin .clear,args,argTypes } => match argTypes[0]?,args with
   | some t,⟨[x]⟩=>match P.underlying t with
     | some (.slice elem)=>match aG P elem,eU P elem with
       | some size,some zs=>match Nat.ble 1 size,Nat.beq zs.length size with
         | true,true=>Ld zs (e x) M K
         | _,_=>False
       | _,_=>False
     | _=>False
   | _,_=>False
 | .call { callee:=.builtin .unsafeString,args,argTypes } => match argTypes[0]?,args with
   | some t,⟨[x,n]⟩=>match P.underlying t with
     | some (.pointer el)=>match P.underlying el,Nat.beq (P.cellsOf el) 1 with
       | some (.int .u8),true=>Ng el (e x) (e n) M K
       | _,_=>False
     | _=>False
   | _,_=>False
 | .call { callee:=.value (.func g),args,.. } => match P.funcs[g]? with
   | some fn=>match fn.body with
     | some _=>dE P g (args.toList.map e) M K
     | none=>tH P g (args.toList.map e) M K
   | none=>False
 | .call { callee:=.value f,args,.. } => Eo (dE P) (e f) (args.toList.map e) M K
 | .next it true=>EI (e it) M K
 | .next it false=>Kl (e it) M K
 | .range t x=>match P.underlying t with
   | some (.map _ _)=>H8 (e x) M K
   | _=>False
 | .mapUpdate t m k x=>match P.underlying t with
   | some (.map kt _)=>match fO P 10 kt,bB P kt with
     | some ks,some a=>Im a ks M (e m) (e k) (e x) (K .undef)
     | _,_=>False
   | _=>False
 | .call { callee:=.builtin .delete,args,argTypes } => match argTypes[0]?,args with
   | some t,⟨[m,k]⟩=>match P.underlying t with
     | some (.map kt _)=>match fO P 10 kt,bB P kt with
       | some ks,some a=>Hm a ks M (e m) (e k) K
       | _,_=>False
     | _=>False
   | _,_=>False
 | .convert src dst x=>match Nat.beq src dst,P.underlying src with
   | true,some (.slice el)=>match P.underlying el with
     | some (.int .u8)=>P8 (e x) M K
     | _=>False
   | _,_=>False
 | _=>False
section
variable {P:Program} {ρ:Ren} {o:Oper} {e:Operand→AV} {c:Operand→Value} {M:RM} {w:World} {K:af}
structure Cb (P:Program) : Prop where
 ng:∀ (f:FuncId) (fn:Func),P.funcs[f]?=some fn→fn.name ≠ "runtime.NumGoroutine"
 mixed:P.follows .mixedOrders=true
theorem Md (hw:bi P ρ M w) {elem size:Nat} {zs:List AV} {zeros:Bool} {x:AV} {u:Value} {n:Nat} {new:List AV} (hx:aa ρ x u) (hzs:eU P elem=some zs) (h1:1≤size) (h2:zs.length=size)
  (h:lQ M size zs zeros x=some (n,new)) : ∃ us,Ai P ρ w elem size zeros u n new us:=by
 unfold lQ at h
 split at h
 ·split at h <;> first | (cases h; done) | skip
  rename_i k m
  split at h <;> first | (cases h; done) | skip
  rename_i hm
  cases h
  obtain⟨it,z,hi,hz,hr⟩:=eY (ρ:=ρ) hzs
  obtain⟨rfl,_⟩:=av hx
  have hl:=hr.length
  simp only[Array.length_toList] at hl
  refine⟨(Builtin.zeroCells z.cells m.toNat).toList,by rw[← AJ]; exact sG hr (by omega) _,by rw[Array.length_toList,size_zeroCells,← hl,h2],(by simp only[if_true]; exact⟨k,by congr 1; omega⟩),(fun e=>by cases e),fun _=>⟨it,z,hi,hz,rfl⟩⟩
 ·split at h <;> first | (cases h; done) | skip
  ·rename_i b o len cap
   split at h <;> first | (cases h; done) | skip
   rename_i xs hl
   cases h
   obtain⟨i,cp,hb,rfl⟩:=dh hx
   obtain⟨vs,hr,hlen,hcell⟩:=RM.dZ hw hb hl
   refine⟨vs,hr,hlen,by simp[Builtin.lenOf],fun _ w' hw'=>?_,fun e=>by cases e⟩
   have:=run_loadCells_list (P:=P) w' ⟨i.cb,i.sh + o,none⟩ vs (fun j v hj=>by rw[← hcell j v hj]; simp[World.cell?,hw'])
   rw[hlen] at this
   simp[Builtin.firstCells,this]
  ·cases h
   cases hx with
   | emp b ad c =>
   exact⟨[],.nil,by simp,by simp[Builtin.lenOf],fun _ _ _=>by simp[Builtin.firstCells,loadCells,loadCellsFrom],fun e=>by cases e⟩
  ·cases h
   obtain⟨rfl,_⟩:=av hx
   exact⟨[],.nil,by simp,by simp[Builtin.lenOf],fun _ _ _=>by simp[Builtin.firstCells],fun e=>by cases e⟩
  ·rename_i s
   split at h <;> first | (cases h; done) | skip
   rename_i hsz
   cases h
   subst hsz
   obtain⟨rfl,_⟩:=av hx
   refine⟨_,DX s,by simp,by simp[Builtin.lenOf],fun _ _ _=>?_,fun e=>by cases e⟩
   simp only[Builtin.firstCells,Sem.run_pure]
   congr 1
   have:(s.extract 0 s.data.toList.length)=s:=by
    have h:s.data.toList.length=s.size:=by rw[Array.length_toList]; rfl
    rw[h]; simp
   rw[this]
   apply Array.ext'
   simp
def DoesM (P:Program) (ρ:Ren) (M:RM) (w:World) (run:World→Result Value) (v:AV) (M' : RM) : Prop :=
 ∃ ρ' w' v',run w=.ok v' w'∧After P M ρ w M' ρ' w'∧aa ρ' v v'
variable {A:AW} {M' : RM} {A' : AW}
theorem F6 (h:nG P ρ M w A) {run:World→Result Value} {v:AV} (hd:uj P M.base ρ A w run v A') (hlo:M'.base=M.base) (hn:A'.next=M'.next)
  (hb:∀ b x,M'.heap b=some x→(∃ y,A'.heap.get b=some y∧pJ x y)∨∃ c,x=.ro c∧M.heap b=some x) : DoesM P ρ M w run v M':=by
 obtain⟨ρ',w',v',h1,h2,h3,h4,h5⟩:=hd
 exact⟨ρ',w',v',h1,gm h h2 h3 hlo hn h4 hb,h5⟩
theorem iE (h:nG P ρ M w A) : ∀ b x,M.heap b=some x→(∃ y,A.heap.get b=some y∧pJ x y)∨∃ c,x=.ro c∧M.heap b=some x:=by
 intro b x hx
 rcases h.blk b x hx with h1 | ⟨c,rfl,_⟩
 ·exact .inl h1
 ·exact .inr ⟨c,rfl,hx⟩
theorem zD {l:List AV} {t:Tree AV} (h:ig .leaf 0 l=some t) : pJ (.row l true 0 0) (.row l.length t [] true 0 0)∧∀ (k:Nat) (v:AV),l[k]?=some v→cellAt t [] l.length k=some v:=by
 obtain⟨_,hget⟩:=dC _ _ _ h
 have:∀ (k:Nat) (v:AV),l[k]?=some v→cellAt t [] l.length k=some v:=fun k v hk=>by
  have hlt:=(List.getElem?_eq_some_iff.1 hk).1
  exact rM hlt (by rw[hget,if_pos (by omega)]; simpa using hk)
 exact⟨⟨rfl,rfl,rfl,rfl,this⟩,this⟩
theorem I4 (h:nG P ρ M w A) {elem size bytes n:Nat} {zeros:Bool} {x:Value} {new:List AV} {us:List Value} (h1:1≤size) {s v:AV} {u:Value} (hs:aa ρ s u) (hn:Ai P ρ w elem size zeros x n new us)
  {t:TypeId} {ts:Array TypeId} {ty:TypeId} (ht:ts[0]?=some t) (hu:P.underlying t=some (.slice elem)) (hzs:jm P ts=some zeros)
  {it:TypeInfo} {z:Value} (hi:P.info? elem=some it) (hz:it.zero=some z) (hsi:it.size=size) (hzc:z.cells.size=size) (hb:it.bytes=bytes) (hnb:n * bytes≤140737488355328) (hnl:n≤140737488355328)
  (ha:pQ elem size bytes n new s M=some (v,M')) : DoesM P ρ M w (fun w=>(Builtin.append_ ts ty #[u,x]).run P w) v M':=by
 have key:∀ {A' : AW},iN elem size bytes n new s A=some (v,A')→M'.base=M.base→A'.next=M'.next →
   (∀ b x,M'.heap b=some x→(∃ y,A'.heap.get b=some y∧pJ x y)∨∃ c,x=.ro c∧M.heap b=some x)→DoesM P ρ M w (fun w=>(Builtin.append_ ts ty #[u,x]).run P w) v M' :=
  fun hA a b c=>F6 h (vE h.rel h.size h1 hs hn ht hu hzs hi hz hsi hzc hb hnb hnl hA) a b c
 have hnw:new.length=n * size:=by rw[hn.rel.length,hn.len]
 unfold pQ at ha
 split at ha
 ·split at ha
  ·rename_i h0
   cases ha
   exact key (by simp only[iN,h0]) rfl h.next (iE h)
  ·rename_i h0
   split at ha <;> first | (cases ha; done) | skip
   rename_i hall
   cases ha
   obtain⟨tr,htr⟩:=jc new .leaf 0 hall
   obtain⟨_,hcell⟩:=zD htr
   cases n with
   | zero=>exact absurd rfl h0
   | succ n =>
   obtain⟨k1,k2,k3⟩:=RM.wL h (x:=.row new true elem 0) (y:=.row ((n + 1) * size) tr [] true elem 0) ⟨hnw,rfl,rfl,rfl,fun k v hk=>by rw[← hnw]; exact hcell k v hk⟩
   exact key (by simp only[iN,htr,h.next]) k1 k2 k3
 ·split at ha <;> first | (cases ha; done) | skip
  rename_i h0
  cases ha
  exact key (by simp only[iN,h0]) rfl h.next (iE h)
 ·rename_i b o len cc
  split at ha
  ·rename_i h0
   split at ha <;> first | (cases ha; done) | skip
   rename_i hle
   cases ha
   subst h0
   cases hs with
   | eD _ _ _ _ i hbi =>
   have hus:us=[]:=List.eq_nil_of_length_eq_zero (by simpa using hn.len)
   refine⟨ρ,w,_,qf hn ht hu hzs hi hsi hb hnb hnl (by omega) (w1:=w) (by simp[hus,storeCells]),After.refl ⟨A,h⟩, ?_⟩
   exact .eD _ _ _ _ i hbi
  rename_i hn0
  split at ha
  ·rename_i hle
   split at ha <;> first | (cases ha; done) | skip
   rename_i M1 hst
   cases ha
   obtain⟨A1,a1,a2,a3,a4,a5⟩:=RM.Au h hst
   exact key (by simp only[iN,aC.2 hle,a1]) a2 a3 a5
  ·rename_i hle
   split at ha <;> first | (cases ha; done) | skip
   rename_i old hl
   split at ha <;> first | (cases ha; done) | skip
   rename_i hcond
   obtain⟨c1,c2,c3⟩:=hcond
   cases ha
   cases hs with
   | eD _ _ _ _ i hbi =>
   obtain⟨vs,hr,hlen,hcell⟩:=RM.dZ ⟨A,h⟩ hbi hl
   obtain⟨tr,htr⟩:=jc (old++new) .leaf 0 c3
   obtain⟨_,hget⟩:=dC _ _ _ htr
   obtain⟨_,hrow⟩:=zD htr
   have hol:old.length=len * size:=by rw[hr.length,hlen]
   have htot:(old++new).length=(len + n) * size:=by rw[List.length_append,hol,hnw,← Nat.add_mul]
   have hr2:=zT hn (ty:=ty) ht hu hzs hi hz hsi hb hnb hnl hle c1 c2 (ad:=some ⟨i.cb,i.sh + o,none⟩) (vs:=vs) (fun w' hw'=>by
    have:=run_loadCells_list (P:=P) w' ⟨i.cb,i.sh + o,none⟩ vs (fun j v hj=>by rw[← hcell j v hj]; simp[World.cell?,hw'])
    rw[hlen] at this
    simp[Builtin.firstCells,this])
   have hge:=grownCap_ge w (len + n) cc elem
   have lW:=hn.len
   obtain⟨k1,k2,k3⟩:=RM.wL h (x:=.row (old++new) true elem 0) (y:=.row ((len + n) * size) tr [] true elem 0) ⟨htot,rfl,rfl,rfl,fun k v hk=>by rw[← htot]; exact hrow k v hk⟩
   have hsz:aG P elem=some size:=by simp[aG,hi,hsi]
   have hd:=tL h.rel h.size h1 hsz (cap:=grownCap w (len + n) cc elem) (need:=len + n) (tree:=tr) (z:=[]) (fz:=0) (cs:=⟨vs⟩++⟨us⟩++Builtin.zeroCells z.cells (grownCap w (len + n) cc elem - (len + n)))
    (run:=fun w=>(Builtin.append_ ts ty #[.slice (some ⟨i.cb,i.sh + o,none⟩) len cc,x]).run P w) (by
     simp only[Array.size_append,List.size_toArray,size_zeroCells,hzc,hlen,lW,← Nat.add_mul]
     congr 1; omega) hge (fun k y hk=>by
     obtain⟨hk1,hk2⟩:=iO hk
     rw[hget,if_pos (by omega),Nat.sub_zero] at hk2
     rw[mV]
     by_cases hlt:k<vs.length
     ·rw[if_pos hlt]
      rw[List.getElem?_append_left (by omega)] at hk2
      exact hr.get hk2
     ·rw[if_neg hlt,if_pos (by rw[hlen,lW,← Nat.add_mul]; omega)]
      rw[List.getElem?_append_right (by omega),hr.length] at hk2
      exact hn.rel.get hk2) hr2
   rw[h.next] at hd
   exact F6 h hd k1 k2 k3
 ·rename_i b o len esz
  split at ha
  ·rename_i h0
   cases ha
   exact key (by simp only[iN,h0]) rfl h.next (iE h)
  ·rename_i h0
   cases n with
   | zero=>exact absurd rfl h0
   | succ n =>
   split at ha <;> first | (cases ha; done) | skip
   rename_i l opn el fz hh
   split at ha <;> first | (cases ha; done) | skip
   rename_i hc
   obtain⟨rfl,rfl⟩:=hc
   rcases h.blk b _ hh with⟨y,hy,hle⟩ | ⟨c,e,_⟩
   ·cases y <;> first | exact hle.elim | skip
    rename_i kn tree zs Aw iA fz'
    obtain⟨q1,rfl,rfl,rfl,q5⟩:=hle
    have hbo:(true && Nat.beq esz esz)=true:=by simp
    split at ha
    ·rename_i hroom
     split at ha <;> first | (cases ha; done) | skip
     rename_i M1 hst
     cases ha
     obtain⟨A1,a1,a2,a3,a4,a5⟩:=RM.Au h hst
     exact key (by simp only[iN,hy,hbo,aC.2 (show o + (len + (n + 1)) * esz≤kn by omega),a1]) a2 a3 a5
    ·rename_i hroom
     split at ha <;> first | (cases ha; done) | skip
     rename_i hcond
     obtain⟨rfl,c2,c3,rfl,c5,c6,c8⟩:=hcond
     cases ha
     obtain⟨tr,htr⟩:=jc new tree (len * esz) c8
     obtain⟨_,hget⟩:=dC _ _ _ htr
     have hl:A.loads b 0 (len * esz)=some ((l.drop 0).take (len * esz)):=by
      unfold AW.loads; rw[hy]; exact uS q5 _ _ (by omega)
     refine key (A' := { next:=A.next + 1,heap:=(A.heap.del b).set A.next (.row ((len + (n + 1)) * esz) tr zs true iA fz') }) ?_ rfl (by simp[RM.push,RM.del,h.next]) ?_
     ·simp only[iN,hy,hbo,J5 (show ¬ 0 + (len + (n + 1)) * esz≤kn by omega),hl,htr,h.next]
      rw[kK rfl,aC.2 c2,aC.2 c3,kK rfl,kK (show kn=len * esz by omega),aC.2 c6]
      rfl
     ·intro d y hd
      change (if d=M.next then some (RB.row (l++new) true iA fz') else if d=b then none else M.heap d)=some y at hd
      simp only[Tree.aL,Tree.ny,h.next]
      by_cases e1:d=M.next
      ·subst e1
       rw[if_pos rfl] at hd ⊢
       cases hd
       refine .inl ⟨_,rfl,by rw[List.length_append,c5,hnw,← Nat.add_mul],rfl,rfl,rfl,fun k v hk=>?_⟩
       rw[kg hget]
       by_cases hin:len * esz≤k∧k<len * esz + new.length
       ·rw[if_pos hin,if_pos (by rw[Nat.add_mul]; omega)]
        rw[List.getElem?_append_right (by omega),c5] at hk
        exact hk
       ·rw[if_neg hin]
        have hkl:k<l.length:=by
         have:=(List.getElem?_eq_some_iff.1 hk).1
         rw[List.length_append] at this; omega
        rw[List.getElem?_append_left hkl] at hk
        rw[← q5 k v hk]
        exact xX (by rw[Nat.add_mul]; omega) (by omega)
      ·rw[if_neg e1] at hd ⊢
       by_cases e2:d=b
       ·subst e2; rw[if_pos rfl] at hd; cases hd
       ·rw[if_neg e2] at hd ⊢
        exact iE h d y hd
   ·cases e
 ·cases ha
theorem JD {run:World→Result Value} {v:AV} (h:DoesM P ρ M w run v M') (hr:∀ v' w',run w=.ok v' w'→(execOp c o).run P w=.ok (.value v') w') (hk:K v M') :
  ∃ M' ρ' w',After P M ρ w M' ρ' w' ∧
  ((∃ v' v,(execOp c o).run P w=.ok (.value v') w'∧aa ρ' v v'∧K v M')∨((execOp c o).run P w=.ok .skip w'∧K .undef M') ∨
    ∃ f args us,(execOp c o).run P w=.ok (.enter f ⟨us⟩) w'∧aA ρ' args us∧dE P f args M' K):=by
 obtain⟨ρ',w',v',h1,h2,h3⟩:=h
 exact⟨M',ρ',w',h2,.inl ⟨v',v,hr _ _ h1,h3,hk⟩⟩
theorem CR (hw:bi P ρ M w) {b p:Nat} {i:dH} {xs:List AV} {vs:List Value} (hb:ρ b=some i) (hv:aA ρ xs vs) (h:M.stores b p xs=some M') :
  ∃ w',(∀ off,off=i.sh + p→(storeCells ⟨i.cb,off,none⟩ vs).run P w=.ok () w')∧After P M ρ w M' ρ w':=by
 obtain⟨A,hA⟩:=hw
 obtain⟨A1,a1,a2,a3,a4,a5⟩:=RM.Au hA h
 obtain⟨w1,hrun,hw1,hstep,hnext⟩:=kG hA.rel hb hv a1
 exact⟨w1,hrun,gm hA hstep hw1 a2 a3 (by omega) a5⟩
theorem G7 {x:AV} {M' : RM} {b p:Nat} (h:M.stores b p x.cells=some M') : ∀ (_:x=.top),False:=by
 intro e0
 unfold RM.stores at h
 split at h <;> first | (cases h; done) | skip
 split at h <;> first | (cases h; done) | skip
 rename_i hc
 rw[e0] at hc
 simp[AV.cells,oneCell] at hc
theorem JH {t:TypeId} {a x:Operand} (hop:o.op=.store t a x) {n:Nat} (hs:aG P t=some n) {K:RM→Prop} (h:aV M (e a) (e x) n K) : jg P o e M (fun _ M'=>K M'):=by
 obtain⟨b,p,M',hea,hn,hst,hk⟩:=h
 intro ρ w c hw he
 have ha:aa ρ (e a) (c a):=he a (by rw[hop]; simp[Op.operands])
 have hx:aa ρ (e x) (c x):=he x (by rw[hop]; simp[Op.operands])
 rw[hea] at ha
 obtain⟨i,hb,hc⟩:=bC ha
 have hcl:=hx.cells (G7 hst)
 have hlen:=hcl.length
 simp only[Array.length_toList] at hlen
 obtain⟨w1,hrun,haft⟩:=CR hw hb hcl hst
 refine⟨M',ρ,w1,haft,.inr (.inl ⟨?_,hk⟩)⟩
 simp only[execOp,hop,Instr.storeAt,Instr.sureAddr,hc,Sem.run_bind,Sem.run_pure,Result.andThen_ok,storeVar,aX hs]
 rw[if_neg (by omega)]
 rw[hrun _ rfl]
 rfl
theorem jg.mono (h:jg P o e M K) {K' : af} (hk:∀ v M',K v M'→K' v M') : jg P o e M K':=by
 intro ρ w c hw he
 obtain⟨M',ρ',w',h1,h2⟩:=h ρ w c hw he
 refine⟨M',ρ',w',h1, ?_⟩
 rcases h2 with⟨v',v,a,b,d⟩ | ⟨a,b⟩ | ⟨f,args,us,a,b,d⟩
 ·exact .inl ⟨v',v,a,b,hk _ _ d⟩
 ·exact .inr (.inl ⟨a,hk _ _ b⟩)
 ·exact .inr (.inr ⟨f,args,us,a,b,d.mono hk⟩)
theorem IC (hw:bi P ρ M w) {x:AV} {u:Value} {size k:Nat} {vs:List AV} (hx:aa ρ x u) (h:firstM M size k x=some vs) : ∃ us,aA ρ vs us∧(Builtin.firstCells size k u).run P w=.ok ⟨us⟩ w:=by
 unfold firstM at h
 split at h <;> first | (cases h; done) | skip
 ·obtain⟨i,cp,hb,rfl⟩:=dh hx
  obtain⟨us,hr,hlen,_,hrun⟩:=RM.ik (P:=P) hw hb h
  exact⟨us,hr,by simp only[Builtin.firstCells]; exact hrun⟩
 ·rename_i s
  split at h <;> first | (cases h; done) | skip
  cases h
  obtain⟨rfl,_⟩:=av hx
  have hr:aA ρ ((s.data.toList.take k).map fun b=>AV.sc (.int .u8 b.toNat)) ((s.data.toList.take k).map fun b=>Value.int .u8 b.toNat):=by
   generalize s.data.toList.take k=l
   induction l with
   | nil=>exact .nil
   | cons b l ih=>exact .cons _ _ _ _ (.sc _ rfl) ih
  refine⟨_,hr, ?_⟩
  simp only[Builtin.firstCells,Sem.run_pure]
  congr 1
  apply Array.ext'
  simp[ByteArray.data_extract]
theorem J6 {t elem:TypeId} {d x:Operand} {ts:Array TypeId} (hop:o.op=.call { callee:=.builtin .copy,args:=⟨[d,x]⟩,argTypes:=ts }) (ht:ts[0]?=some t) (hu:P.underlying t=some (.slice elem))
  {size:Nat} (hs:aG P elem=some size) {v:AV} (h:IU size (e d) (e x) M=some (v,M')) (hk:K v M') : jg P o e M K:=by
 intro ρ w c hw he
 have hd:aa ρ (e d) (c d):=he d (by rw[hop]; simp[Op.operands,Call.operands])
 have hx:aa ρ (e x) (c x):=he x (by rw[hop]; simp[Op.operands,Call.operands])
 have key:∀ {dA:Option Addr} {dl dc sn:Nat} {us:List Value} {w1:World},c d=.slice dA dl dc→(Builtin.lenOf (c x)).run P w=.ok sn w→(Builtin.firstCells size (Nat.min sn dl) (c x)).run P w=.ok ⟨us⟩ w →
   (match dA with | some a=>(storeCells a us).run P w=.ok () w1 | none=>w1=w)→(execOp c o).run P w=.ok (.value (.int .i64 (Nat.min sn dl:Nat))) w1:=by
  intro dA dl dc sn us w1 hcd hl hf hst
  have:(Builtin.copy_ ts o.type #[c d,c x]).run P w=.ok (.int .i64 (Nat.min sn dl:Nat)) w1:=by
   simp only[Builtin.copy_,ht,List.getElem?_toArray,List.getElem?_cons_zero,List.getElem?_cons_succ,Sem.run_bind,run_underlying hu,Result.andThen_ok,hcd,hl,aX hs,hf]
   cases dA with
   | none=>simp only at hst; subst hst; rfl
   | some a=>simp only at hst; simp only[Sem.run_bind,hst,Result.andThen_ok,Sem.run_pure,goInt]
  simp only[execOp,hop,resolve,invoke,builtin,Sem.run_bind,Sem.run_pure,Result.andThen_ok]
  rw[show(Array.map c ⟨[d,x]⟩) = #[c d,c x] by simp,this]
  rfl
 unfold IU at h
 split at h <;> first | (cases h; done) | skip
 ·rename_i b p dn cap hed
  rw[hed] at hd
  obtain⟨i,cp,hb,hcd⟩:=dh hd
  split at h <;> first | (cases h; done) | skip
  rename_i sn hsn
  have hl:=mO (P:=P) hx hsn w
  split at h
  ·rename_i hm
   cases h
   refine⟨M,ρ,w,After.refl hw,.inl ⟨_,_,key hcd hl (by rw[hm]; exact fQ hx hsn w) (w1:=w) rfl, ?_,hk⟩⟩
   rw[hm]; exact .sc _ rfl
  ·split at h <;> first | (cases h; done) | skip
   rename_i vs hvs
   split at h <;> first | (cases h; done) | skip
   rename_i M1 hst
   cases h
   obtain⟨us,hr,hf⟩:=IC hw hx hvs
   obtain⟨w1,hrun,haft⟩:=CR hw hb hr hst
   exact⟨M',ρ,w1,haft,.inl ⟨_,_,key hcd hl hf (w1:=w1) (hrun _ rfl),.sc _ rfl,hk⟩⟩
 ·rename_i b hed
  rw[hed] at hd
  generalize hcd:c d=cd at hd
  cases hd with
  | emp _ ad cp =>
  split at h <;> first | (cases h; done) | skip
  rename_i sn hsn
  cases h
  have hl:=mO (P:=P) hx hsn w
  have hm:Nat.min sn 0=0:=Nat.min_zero _
  refine⟨M,ρ,w,After.refl hw,.inl ⟨_,_,key hcd hl (by rw[hm]; exact fQ hx hsn w) (w1:=w) rfl, ?_,hk⟩⟩
  rw[hm]; exact .sc _ rfl
 ·rename_i hed
  rw[hed] at hd
  have hcd:=(av hd).1
  split at h <;> first | (cases h; done) | skip
  rename_i sn hsn
  cases h
  have hl:=mO (P:=P) hx hsn w
  have hm:Nat.min sn 0=0:=Nat.min_zero _
  refine⟨M,ρ,w,After.refl hw,.inl ⟨_,_,key hcd hl (by rw[hm]; exact fQ hx hsn w) (w1:=w) rfl, ?_,hk⟩⟩
  rw[hm]; exact .sc _ rfl
theorem JW {t elem:TypeId} {x:Operand} {ts:Array TypeId} (hop:o.op=.call { callee:=.builtin .clear,args:=⟨[x]⟩,argTypes:=ts }) (ht:ts[0]?=some t) (hu:P.underlying t=some (.slice elem))
  {size:Nat} {zs:List AV} (hs:aG P elem=some size) (hzs:eU P elem=some zs) (c1:1≤size) (c2:zs.length=size) (h:Ld zs (e x) M K) : jg P o e M K:=by
 intro ρ w c hw he
 have hx:aa ρ (e x) (c x):=he x (by rw[hop]; simp[Op.operands,Call.operands])
 rcases h with⟨b,p,n,cap,M',hex,hst,hk⟩ | ⟨b,hex,hk⟩ | ⟨hex,hk⟩
 ·obtain⟨it,z,hi,hz,hr⟩:=eY (ρ:=ρ) hzs
  have hl:=hr.length
  simp only[Array.length_toList] at hl
  rw[hex] at hx
  obtain⟨i,cp,hb,hcx⟩:=dh hx
  have hrel:=sG hr (by omega) n
  rw[AJ] at hrel
  obtain⟨w1,hrun,haft⟩:=CR hw hb hrel hst
  refine⟨M',ρ,w1,haft,.inl ⟨.tuple #[],.undef,nT (t:=t) hop ?_,.tup _ _ .nil,hk⟩⟩
  have hrun:=hrun _ rfl
  cases n with
  | zero =>
    have he:(Builtin.zeroCells z.cells 0).toList=[]:=by simp[Builtin.zeroCells]
    rw[he] at hrun
    simp only[storeCells,Sem.run_pure] at hrun
    cases hrun
    simp only[Builtin.clear_,ht,List.getElem?_toArray,List.getElem?_cons_zero,Sem.run_bind,run_underlying hu,Result.andThen_ok,hcx,Sem.run_pure]
  | succ n =>
    simp only[Builtin.clear_,ht,List.getElem?_toArray,List.getElem?_cons_zero,Sem.run_bind,run_underlying hu,Result.andThen_ok,hcx,zeroValue,typeInfo,run_program,hi,hz,Sem.run_pure,hrun]
 ·rw[hex] at hx
  generalize hcx:c x=cx at hx
  cases hx with
  | emp _ ad cp =>
  refine⟨M,ρ,w,After.refl hw,.inl ⟨.tuple #[],.undef,nT (t:=t) hop ?_,.tup _ _ .nil,hk⟩⟩
  simp only[Builtin.clear_,ht,List.getElem?_toArray,List.getElem?_cons_zero,Sem.run_bind,run_underlying hu,Result.andThen_ok,hcx,Sem.run_pure]
 ·rw[hex] at hx
  refine⟨M,ρ,w,After.refl hw,.inl ⟨.tuple #[],.undef,nT (t:=t) hop ?_,.tup _ _ .nil,hk⟩⟩
  simp only[Builtin.clear_,ht,List.getElem?_toArray,List.getElem?_cons_zero,Sem.run_bind,run_underlying hu,Result.andThen_ok,(av hx).1,Sem.run_pure]
theorem Nk:∀ {xs:List AV} {us vs:List Value},aA ρ xs vs→bu bH xs=some us→vs=us
 | [],us,_,h,hu=>by simp[bu] at hu; subst hu; exact h.lD
 | x :: xs,us,_,.cons _ v _ vs a b,hu=>by
   simp only[bu] at hu
   split at hu
   ·rename_i y hy
    split at hu
    ·rename_i ys hys
     cases hu
     rw[ic a hy,Nk b hys]
    ·cases hu
   ·cases hu
theorem CJ {m:Nat} : ∀ {ks:List Nat} {cs ds:List AV} {us vs:List Value},aA ρ cs us→aA ρ ds vs→cs.length=ks.length→ds.length=ks.length→bD ks cs ds=some true→us.length=vs.length∧(vs.zip us).all (fun(x,y)=>Instr.sameBits m x y)=true
 | [],[],[],[],[],_,_,_,_,_=>⟨rfl,rfl⟩
 | [],_ :: _,_,_,_,_,_,h,_,_=>by simp at h
 | [],[],_ :: _,_,_,_,_,_,h,_=>by simp at h
 | _ :: _,[],_,_,_,_,_,h,_,_=>by simp at h
 | _ :: _,_ :: _,[],_,_,_,_,_,h,_=>by simp at h
 | k :: ks,x :: cs,y :: ds,_,_,.cons _ u _ us hx hc,.cons _ v _ vs hy hd,h1,h2,h=>by
   simp only[bD] at h
   split at h <;> first | (cases h; done) | skip
   rename_i hce
   obtain⟨i1,i2⟩:=CJ (m:=m) hc hd (by simpa using h1) (by simpa using h2) h
   refine⟨by simp[i1], ?_⟩
   rw[List.zip_cons_cons,List.all_cons,i2,Bool.and_true]
   unfold mg at hce
   split at hce <;> first | (cases hce; done) | skip
   ·split at hce <;> first | (cases hce; done) | skip
    rename_i e0
    subst e0
    rw[(av hx).1,(av hy).1]
    simp only[Option.some.injEq] at hce
    have hce:=eq_of_beq hce
    subst hce
    simp[Instr.sameBits]
   ·rw[(av hx).1,(av hy).1]
    simp only[Option.some.injEq] at hce
    simp only[Instr.sameBits]
    rw[bytes_beq,eX]
    have hce:=eq_of_beq hce
    rw[hce]; simp
   ·rw[(av hx).1,(av hy).1]
    simp only[Option.some.injEq] at hce
    have hce:=eq_of_beq hce
    subst hce
    simp[Instr.sameBits]
theorem Lu {a:Bool} {ks:List Nat} {x y:AV} {xv yv:Value} {cs ds:List AV} (hx:dX a x=some cs) (hy:dX a y=some ds) (rx:aa ρ x xv) (ry:aa ρ y yv) (l1:cs.length=ks.length) (l2:ds.length=ks.length) (h:bD ks cs ds=some true) : Instr.sameBits 10000 yv xv=true:=by
 obtain⟨us,r1,h1,h1'⟩:=jQ hx rx
 obtain⟨vs,r2,h2,h2'⟩:=jQ hy ry
 cases a with
 | true =>
   rw[h1 rfl,h2 rfl]
   obtain⟨i1,i2⟩:=CJ (m:=9999) r1 r2 l1 l2 h
   show(_ && _)=true
   rw[Bool.and_eq_true]
   exact⟨by simp[i1],i2⟩
 | false =>
   have e1:=h1' rfl
   have e2:=h2' rfl
   subst e1 e2
   have:=(CJ (m:=10000) r1 r2 l1 l2 h).2
   simpa using this
theorem Aa {a:Bool} {ks:List Nat} {cs:List AV} : ∀ {es:List (AV × AV × Nat)} {fs:List MapEntry} {i j:Nat} {va:AV},aQ ρ es fs→l6 a ks cs es i=some (some (j,va))→∃ n f ka ds,j=i + n∧fs[n]?=some f∧aa ρ ka f.key∧dX a ka=some ds∧ds.length=ks.length∧bD ks cs ds=some true
 | [],_,_,_,_,_,h=>by simp[l6] at h
 | _ :: _,[],_,_,_,h,_=>h.elim
 | (ka,v,n) :: es,f :: fs,i,j,va,⟨h1,h2,h3,h4⟩,h=>by
   simp only[l6] at h
   split at h <;> first | (cases h; done) | skip
   rename_i ds hds
   split at h <;> first | (cases h; done) | skip
   rename_i hdl
   split at h <;> first | (cases h; done) | skip
   ·rename_i hn
    simp only[Option.some.injEq,Prod.mk.injEq] at h
    obtain⟨rfl,rfl⟩:=h
    exact⟨0,f,ka,ds,rfl,rfl,h1,hds,hdl,hn⟩
   ·obtain⟨m,g,kb,d2,e1,e2,e3⟩:=Aa h4 h
    exact⟨m + 1,g,kb,d2,by omega,by simpa using e2,e3⟩
theorem FQ {k v:AV} {kv vv:Value} (hk:aa ρ k kv) (hv:aa ρ v vv) : ∀ {es:List (AV × AV × Nat)} {fs:List MapEntry} {i:Nat},aQ ρ es fs→aQ ρ (F8 k v es i) (fs.modify i fun e => { e with key:=kv,val:=vv })
 | [],[],_,_=>by simp[F8]; trivial
 | [],_ :: _,_,h=>h.elim
 | _ :: _,[],_,h=>h.elim
 | (a,b,n) :: es,g :: fs,0,h=>⟨hk,hv,h.2.2.1,h.2.2.2⟩
 | (a,b,n) :: es,g :: fs,i + 1,h=>⟨h.1,h.2.1,h.2.2.1,FQ hk hv h.2.2.2⟩
theorem DC:∀ {es:List (AV × AV × Nat)} {fs:List MapEntry} {i:Nat},aQ ρ es fs→aQ ρ (es.eraseIdx i) (fs.eraseIdx i)
 | [],[],_,_=>trivial
 | [],_ :: _,_,h=>h.elim
 | _ :: _,[],_,h=>h.elim
 | _ :: _,_ :: _,0,h=>h.2.2.2
 | (a,b,n) :: es,g :: fs,i + 1,h=>⟨h.1,h.2.1,h.2.2.1,DC h.2.2.2⟩
theorem oU {r clock:Nat} {fs:Array MapEntry} (o:Obj) (h:w.heap[r]?=some (.map fs clock)) : (setObj r o).run P w=.ok () { w with heap:=w.heap.setIfInBounds r o } := by
 simp only[setObj,Sem.run,h]
theorem map_set (hA:nG P ρ M w A) {b:Nat} {i:dH} {es es' : List (AV × AV × Nat)} {cl cl' : Nat} {fs fs' : Array MapEntry} (hb:ρ b=some i) (hg:M.heap b=some (.map es cl)) (hob:w.heap[i.cb]?=some (.map fs cl)) (he:aQ ρ es' fs'.toList) :
  After P M ρ w (M.put b (.map es' cl')) ρ { w with heap:=w.heap.setIfInBounds i.cb (.map fs' cl') } := by
 rcases hA.blk b _ hg with⟨y,hy,hle⟩ | ⟨_,e0,_⟩
 ·obtain⟨q1,q2⟩:=je hA.rel (x:=.map es' cl') hb hy (w' := { w with heap:=w.heap.setIfInBounds i.cb (.map fs' cl') }) rfl rfl rfl (by simp)
   (fun j hj=>by simp[Array.getElem?_setIfInBounds,Ne.symm hj]) (by
    have:=(Array.getElem?_eq_some_iff.1 hob).1
    simp[Array.getElem?_setIfInBounds,this]) ⟨fs',rfl,he⟩
  refine gm hA q2 q1 rfl hA.next (Nat.le_refl _) ?_
  intro d y hd
  simp only[RM.put] at hd
  simp only[Tree.aL]
  by_cases e2:d=b
  ·subst e2; rw[if_pos rfl] at hd ⊢; cases hd; exact .inl ⟨_,rfl,rfl,rfl⟩
  ·rw[if_neg e2] at hd ⊢; exact iE hA d y hd
 ·cases e0
theorem Bf (hA:nG P ρ M w A) {b:Nat} {i:dH} {es:List (AV × AV × Nat)} {cl:Nat} (hb:ρ b=some i) (hg:M.heap b=some (.map es cl)) : ∃ fs:Array MapEntry,w.heap[i.cb]?=some (.map fs cl)∧aQ ρ es fs.toList:=by
 rcases hA.blk b _ hg with⟨y,hy,hle⟩ | ⟨_,e0,_⟩
 ·cases y <;> first | exact hle.elim | skip
  obtain⟨rfl,rfl⟩:=hle
  obtain⟨ob,hob,fs,rfl,hfs⟩:=hA.rel.blk b i _ hb hy
  exact⟨fs,hob,hfs⟩
 ·cases e0
theorem GD {t kt et:TypeId} {x:Operand} (hop:o.op=.range t x) (hu:P.underlying t=some (.map kt et)) (h:H8 (e x) M K) : jg P o e M K:=by
 obtain⟨m,es,cl,hx,hg,hk⟩:=h
 intro ρ w c hw he
 have hxr:aa ρ (e x) (c x):=he x (by rw[hop]; simp[Op.operands])
 rw[hx] at hxr
 obtain⟨A,hA⟩:=hw
 generalize hcx:c x=cx at hxr
 cases hxr with
 | map _ i hb =>
 obtain⟨fs,hob,hfs⟩:=Bf hA hb hg
 have hnew:ρ A.next=none:=hA.rel.fresh (Nat.le_refl _)
 have hne:m≠A.next:=fun e=>by rw[e,hnew] at hb; cases hb
 obtain⟨q1,q2⟩:=wW hA.rel (Nat.le_trans (show M.base.n≤M.lo from Nat.le_refl _) hA.size) (x:=.iter (some m) cl [] cl) (ob:=.mapIter (some i.cb) cl #[] cl) (i:=⟨w.heap.size,0,0,0⟩) rfl
  ⟨rfl,some i.cb,rfl,i,by rw[Ren.add,if_neg hne]; exact hb,rfl⟩
 obtain⟨k1,k2,k3⟩:=RM.wL hA (x:=.iter (some m) cl [] cl) (y:=.iter (some m) cl [] cl) ⟨rfl,rfl,rfl,rfl⟩
 refine⟨M.push (.iter (some m) cl [] cl),ρ.add A.next ⟨w.heap.size,0,0,0⟩,_,gm hA q2 q1 k1 k2 (by simp[AW.push]) k3,.inl ⟨.pointer (some ⟨w.heap.size,0,none⟩),.ptr M.next 0, ?_, ?_,hk⟩⟩
 ·have hgo:=oZ (P:=P) hob
  simp only[execOp,hop,hcx,Instr.range,Sem.run_bind,run_underlying hu,Result.andThen_ok,hgo]
  rfl
 ·have:=aa.ptr (ρ:=ρ.add A.next ⟨w.heap.size,0,0,0⟩) M.next 0 ⟨w.heap.size,0,0,0⟩ (by rw[← hA.next]; simp[Ren.add])
  simpa using this
theorem Bg {ρ:Ren} : ∀ {es:List (AV × AV × Nat)} {fs:List MapEntry},aQ ρ es fs→∀ f∈fs,∃ n∈es,aa ρ n.1 f.key∧aa ρ n.2.1 f.val∧f.born=n.2.2
 | [],[],_,f,hf=>by cases hf
 | (k,v,n) :: es,g :: fs,⟨a,b,c,d⟩,f,hf=>by
   rcases List.mem_cons.1 hf with rfl | hf
   ·exact⟨_,List.mem_cons_self ..,a,b,c⟩
   ·obtain⟨n,h1,h2⟩:=Bg d f hf
    exact⟨n,List.mem_cons_of_mem _ h1,h2⟩
 | _ :: _,[],h,_,_=>h.elim
 | [],_ :: _,h,_,_=>h.elim
theorem tZ {ρ:Ren} : ∀ {es:List (AV × AV × Nat)} {fs:List MapEntry},aQ ρ es fs→∀ n∈es,∃ f∈fs,f.born=n.2.2
 | [],[],_,f,hf=>by cases hf
 | (k,v,m) :: es,g :: fs,⟨a,b,c,d⟩,n,hn=>by
   rcases List.mem_cons.1 hn with rfl | hn
   ·exact⟨_,List.mem_cons_self ..,c⟩
   ·obtain⟨f,h1,h2⟩:=tZ d n hn
    exact⟨f,List.mem_cons_of_mem _ h1,h2⟩
 | _ :: _,[],h,_,_=>h.elim
 | [],_ :: _,h,_,_=>h.elim
theorem Gy (n:Nat) (hn:1≤n) (w:World) : ∃ k w1,k<n∧(choose (.mapNext n)).run P w=.ok k w1∧(w1=w∨w1=w.drew):=by
 by_cases h:n≤1
 ·refine⟨0,w,by omega, ?_,.inl rfl⟩
  have hf:Question.forced (.mapNext n)=true:=by simp[Question.forced,h]
  simp[choose,Sem.run,hf]
 ·have hf:Question.forced (.mapNext n)=false:=by simp only[Question.forced,decide_eq_false_iff_not]; exact h
  refine⟨(Question.mapNext n).cut (w.tape w.drawn (.mapNext n)),w.drew, ?_, ?_,.inr rfl⟩
  ·simp only[Question.cut]; exact Nat.mod_lt _ (by omega)
  ·simp only[choose,Sem.run,hf]; rfl
theorem IX {it:Operand} (hop:o.op=.next it false) (h:Kl (e it) M K) : jg P o e M K:=by
 obtain⟨b,m,since,seen,stepped,es,cl,hx,hgb,hgm,hst,hall,hend⟩:=h
 intro ρ w c hw he
 have hxr:aa ρ (e it) (c it):=he it (by rw[hop]; simp[Op.operands])
 rw[hx] at hxr
 obtain⟨i,hb,hcx⟩:=bC hxr
 obtain⟨A,hA⟩:=hw
 rcases hA.blk b _ hgb with⟨y,hy,hle⟩ | ⟨_,e0,_⟩
 rotate_left
 ·cases e0
 cases y <;> first | exact hle.elim | skip
 obtain⟨rfl,rfl,rfl,rfl⟩:=hle
 obtain⟨ob,hob,hsh,m',rfl,j,hj,rfl⟩:=hA.rel.blk b i _ hb hy
 obtain⟨fs,Rb,hfs⟩:=Bf hA hj hgm
 rename_i since' seen' Ay
 have sZ:c it=.pointer (some ⟨i.cb,0,none⟩):=by rw[hcx,hsh]
 have hget:(getObj i.cb).run P w=.ok (.mapIter (some j.cb) since' ⟨seen'⟩ Ay) w:=by simp[getObj,Sem.run,hob]
 have Jd:(getObj j.cb).run P w=.ok (.map fs cl) w:=by simp[getObj,Sem.run,Rb]
 have hguard:(!(⟨seen'⟩ : Array Nat).isEmpty && !fs.isEmpty && fs.all fun f=>decide (f.born ≥ Ay))=false:=by
  rcases hst with rfl | rfl | ⟨n,hn,hlt⟩
  ·rfl
  ·have:fs = #[]:=by
    cases hfl:fs.toList with
    | nil=>exact Array.toList_eq_nil_iff.1 hfl
    | cons f r=>rw[hfl] at hfs; exact hfs.elim
   subst this; simp
  ·obtain⟨f,hf,hfb⟩:=tZ hfs n hn
   rw[Bool.and_eq_false_iff]
   right
   rw[Array.all_eq_false]
   obtain⟨q,hq,rfl⟩:=List.getElem_of_mem hf
   refine⟨q,by simpa using hq, ?_⟩
   simp only[Array.getElem_toList] at hfb
   simp only[decide_eq_true_eq]
   omega
 obtain⟨left,hleft⟩ : ∃ left,left=fs.filter fun f=>!(⟨seen'⟩ : Array Nat).contains f.born:=⟨_,rfl⟩
 obtain⟨old,hold⟩ : ∃ old,old=left.filter fun f=>decide (f.born<since'):=⟨_,rfl⟩
 obtain⟨new,hnew⟩ : ∃ new,new=left.filter fun f=>decide (f.born ≥ since'):=⟨_,rfl⟩
 obtain⟨pF,IQ⟩ : ∃ pF:Array (Option MapEntry),pF=(if old.isEmpty then #[none] else #[])++(old++new).map some:=⟨_,rfl⟩
 have hsize:1≤pF.size:=by
  rw[IQ]
  by_cases h0:old.isEmpty
  ·simp[h0]
  ·have:0<old.size:=by
    rcases Nat.eq_zero_or_pos old.size with h | h
    ·rw[Array.isEmpty_iff_size_eq_zero] at h0; exact absurd h h0
    ·exact h
   simp[h0]; omega
 obtain⟨k,w1,hk,hch,hw1⟩:=Gy (P:=P) pF.size hsize w
 have hA1:nG P ρ M w1 A:=by
  rcases hw1 with rfl | rfl
  ·exact hA
  ·exact⟨hA.next,hA.rel.drew,hA.size,hA.blk,hA.old⟩
 have hs1:Step M.lo M.next ρ w ρ w1:=by
  rcases hw1 with rfl | rfl
  ·exact Step.refl _ _ _
  ·exact Step.drew
 have hh1:w1.heap=w.heap:=by rcases hw1 with rfl | rfl <;> rfl
 have hrun:∀ {R:Value→Sem Value},(Instr.next (c it) false o.type).run P w=(match pF[k]? with
   | some (some f)=>(setObj i.cb (.mapIter (some j.cb) since' ((⟨seen'⟩ : Array Nat).push f.born) cl)).run P w1 |>.andThen fun _ w2=>(.ok (.tuple #[.bool true,f.key,f.val]) w2:Result Value)
   | some none=>.ok (.tuple #[.bool false]) w1
   | none=>(stuck "Next: no such candidate" : Sem Value).run P w1):=by
  intro _
  simp only[Instr.next,sZ,Sem.run_bind,hget,Result.andThen_ok,Jd]
  rw[hguard]
  simp only[Bool.false_eq_true,if_false]
  rw[← hleft,← hold,← hnew,← IQ]
  simp only[Sem.run_bind,hch,Result.andThen_ok]
  rcases hck:pF[k]? with _ | (_ | f)
  ·rfl
  ·rfl
  ·simp only[Sem.run_bind,Sem.run_pure]
 have Qb:∃ x,pF[k]?=some x∧(x=none∧old = #[]∨∃ f,x=some f∧f∈left):=by
  refine⟨pF[k],Array.getElem?_eq_getElem hk, ?_⟩
  have hm:pF[k]∈pF:=Array.getElem_mem hk
  generalize pF[k]=x at hm
  rw[IQ,Array.mem_append] at hm
  rcases hm with hm | hm
  ·by_cases h0:old.isEmpty
   ·simp only[h0,if_true] at hm
    exact .inl ⟨by simpa using hm,Array.isEmpty_iff.1 h0⟩
   ·simp[h0] at hm
  ·obtain⟨f,hf,rfl⟩:=Array.mem_map.1 hm
   refine .inr ⟨f,rfl, ?_⟩
   rcases Array.mem_append.1 hf with hf | hf
   ·rw[hold] at hf; exact(Array.mem_filter.1 hf).1
   ·rw[hnew] at hf; exact(Array.mem_filter.1 hf).1
 have Nc:∀ f∈fs.toList,f∈left↔f.born ∉ seen':=fun f hf=>by
  rw[hleft,Array.mem_filter]
  constructor
  ·rintro⟨_,h⟩ hm
   simp[hm] at h
  ·intro h
   exact⟨Array.mem_def.2 hf,by simpa using h⟩
 obtain⟨x,hx1,hx2⟩:=Qb
 rcases hx2 with⟨rfl,PO⟩ | ⟨f,rfl,hfl⟩
 ·refine⟨M,ρ,w1,⟨hs1,⟨A,hA1⟩,rfl,Nat.le_refl _⟩,.inl ⟨.tuple #[.bool false],.tup [Bo false], ?_,.tup _ _ (.cons _ _ _ _ (.sc _ rfl) .nil),hend fun n hn hns=>?_⟩⟩
  ·have:=hrun (R:=fun _=>pure (.bool true))
   rw[hx1] at this
   simp only[execOp,hop,Sem.run_bind,this,Result.andThen_ok,Sem.run_pure]
  ·obtain⟨f,hf,hfb⟩:=tZ hfs n hn
   rw[← hfb] at hns
   have h1:=(Nc f hf).2 hns
   rcases Nat.lt_or_ge f.born since' with h | h
   ·have:f∈old:=by rw[hold,Array.mem_filter]; exact⟨h1,by simpa using h⟩
    rw[PO] at this; simp at this
   ·rw[← hfb]; exact h
 ·have hff:f∈fs.toList:=by
   rw[hleft,Array.mem_filter] at hfl
   exact Array.mem_def.1 hfl.1
  have hns:=(Nc f hff).1 hfl
  obtain⟨n,hn,hnk,hnv,hnb⟩:=Bg hfs f hff
  rw[hnb] at hns
  have hlt:=(Array.getElem?_eq_some_iff.1 hob).1
  obtain⟨q1,q2⟩:=je hA1.rel (x:=.iter (some m) since' (seen'++[n.2.2]) cl) (ob:=.mapIter (some j.cb) since' ⟨seen'++[n.2.2]⟩ cl) hb hy (w' := { w1 with heap:=w1.heap.setIfInBounds i.cb (.mapIter (some j.cb) since' ⟨seen'++[n.2.2]⟩ cl) }) rfl rfl rfl (by simp)
   (fun q hq=>by simp[Array.getElem?_setIfInBounds,Ne.symm hq]) (by simp[Array.getElem?_setIfInBounds,hh1,hlt]) ⟨hsh,some j.cb,rfl,j,hj,rfl⟩
  have haf:=gm (M':=M.put b (.iter (some m) since' (seen'++[n.2.2]) cl)) hA1 q2 q1 rfl hA1.next (Nat.le_refl _) (by
   intro d y hd
   simp only[RM.put] at hd
   simp only[Tree.aL]
   by_cases e2:d=b
   ·subst e2; rw[if_pos rfl] at hd ⊢; cases hd; exact .inl ⟨_,rfl,rfl,rfl,rfl,rfl⟩
   ·rw[if_neg e2] at hd ⊢; exact iE hA1 d y hd)
  refine⟨M.put b (.iter (some m) since' (seen'++[n.2.2]) cl),ρ,_,⟨hs1.trans haf.step (Nat.le_refl _),haf.rel,haf.base,haf.next⟩,.inl ⟨.tuple #[.bool true,f.key,f.val],.tup [Bo true,n.1,n.2.1], ?_,.tup _ _ (.cons _ _ _ _ (.sc _ rfl) (.cons _ _ _ _ hnk (.cons _ _ _ _ hnv .nil))),hall n hn hns⟩⟩
  have:=hrun (R:=fun _=>pure (.bool true))
  rw[hx1] at this
  have QV:w1.heap[i.cb]?=some (.mapIter (some j.cb) since' ⟨seen'⟩ Ay):=by rw[hh1]; exact hob
  simp only[execOp,hop,Sem.run_bind,this,setObj,Sem.run,QV,Result.andThen_ok,Sem.run_pure]
  rw[hnb]
  simp
theorem Ha {t kt et:TypeId} {m k x:Operand} (hop:o.op=.mapUpdate t m k x) (hu:P.underlying t=some (.map kt et)) {ks:List Nat} {a:Bool} (hf:fO P 10 kt=some ks) (ha:bB P kt=some a) (h:Im a ks M (e m) (e k) (e x) (K .undef)) : jg P o e M K:=by
 obtain⟨b,es,cl,kc,r,hem,hg,hkc,hl,hr,hk⟩:=h
 intro ρ w c hw he
 have hm:aa ρ (e m) (c m):=he m (by rw[hop]; simp[Op.operands])
 have hkr:aa ρ (e k) (c k):=he k (by rw[hop]; simp[Op.operands])
 have hx:aa ρ (e x) (c x):=he x (by rw[hop]; simp[Op.operands])
 rw[hem] at hm
 generalize hcm:c m=um at hm
 cases hm with
 | map _ i hb =>
 obtain⟨A,hA⟩:=hw
 obtain⟨fs,hob,hfs⟩:=Bf hA hb hg
 obtain⟨r',hr1,hr2⟩:=rE (w:=w) hf ha hkc hl hkr hfs hr
 have hck:=qi (em:=false) (w:=w) hf ha hkc hl hkr
 have hgo:=oZ (P:=P) hob
 cases r with
 | some p =>
   obtain⟨j,va⟩:=p
   cases r' with
   | none=>exact hr2.elim
   | some q =>
     obtain⟨j',vv⟩:=q
     obtain⟨rfl,_⟩:=hr2
     obtain⟨n,f,ka,ds,hj,hfn,hka,hds,hdl,hfe⟩:=Aa hfs hr
     rw[Nat.zero_add] at hj
     subst hj
     have hfj:fs[j']?=some f:=by rw[← Array.getElem?_toList]; exact hfn
     have hsame:=Lu hkc hds hkr hka hl hdl hfe
     refine⟨_,ρ,_,map_set hA (es':=F8 (e k) (e x) es j') (cl':=cl) (fs':=fs.modify j' fun e => { e with key:=c k,val:=c x }) hb hg hob (by rw[Array.toList_modify]; exact FQ hkr hx hfs),.inr (.inl ⟨?_,hk⟩)⟩
     simp only[execOp,hop,hcm,Instr.mapUpdate,Sem.run_bind,run_underlying hu,Result.andThen_ok,hgo,hck,hr1,hfj,Option.map_some,Option.getD_some,Instr.keyThatStays,hsame,if_true,Sem.run_pure,oU _ hob]
 | none =>
   cases r' with
   | some q=>exact hr2.elim
   | none =>
     refine⟨_,ρ,_,map_set hA (es':=es++[(e k,e x,cl)]) (cl':=cl + 1) (fs':=fs.push { key:=c k,val:=c x,born:=cl }) hb hg hob (by rw[Array.toList_push]; exact z8 (f := { key:=c k,val:=c x,born:=cl }) hkr hx hfs),.inr (.inl ⟨?_,hk⟩)⟩
     simp only[execOp,hop,hcm,Instr.mapUpdate,Sem.run_bind,run_underlying hu,Result.andThen_ok,hgo,hck,hr1,Sem.run_pure,oU _ hob]
theorem GX {t kt et:TypeId} {m k:Operand} {ts:Array TypeId} (hop:o.op=.call { callee:=.builtin .delete,args:=⟨[m,k]⟩,argTypes:=ts }) (ht:ts[0]?=some t) (hu:P.underlying t=some (.map kt et)) {ks:List Nat} {a:Bool} (hf:fO P 10 kt=some ks) (ha:bB P kt=some a) (h:Hm a ks M (e m) (e k) K) : jg P o e M K:=by
 obtain⟨b,es,cl,kc,r,hem,hg,hkc,hl,hr,hk⟩:=h
 intro ρ w c hw he
 have hm:aa ρ (e m) (c m):=he m (by rw[hop]; simp[Op.operands,Call.operands])
 have hkr:aa ρ (e k) (c k):=he k (by rw[hop]; simp[Op.operands,Call.operands])
 rw[hem] at hm
 generalize hcm:c m=um at hm
 cases hm with
 | map _ i hb =>
 obtain⟨A,hA⟩:=hw
 obtain⟨fs,hob,hfs⟩:=Bf hA hb hg
 obtain⟨r',hr1,hr2⟩:=rE (w:=w) hf ha hkc hl hkr hfs hr
 have hck:=qi (em:=fs.isEmpty) (w:=w) hf ha hkc hl hkr
 have hgo:=oZ (P:=P) hob
 have oD:∀ {w' : World},(Builtin.delete_ ts o.type #[.map (some i.cb),c k]).run P w=.ok (.tuple #[]) w'→(execOp c o).run P w=.ok (.value (.tuple #[])) w':=fun {w'} hrun=>by
  simp only[execOp,hop,resolve,invoke,builtin,Sem.run_bind,Sem.run_pure,Result.andThen_ok,List.map_toArray,List.map_cons,List.map_nil,hcm,hrun]
 cases r with
 | some p =>
   obtain⟨j,va⟩:=p
   cases r' with
   | none=>exact hr2.elim
   | some q =>
     obtain⟨j',vv⟩:=q
     obtain⟨rfl,_⟩:=hr2
     obtain⟨n,f,ka,ds,hj,hfn,hka,hds,hdl,hfe⟩:=Aa hfs hr
     rw[Nat.zero_add] at hj
     subst hj
     refine⟨_,ρ,_,map_set hA (es':=es.eraseIdx j') (cl':=cl) (fs':=fs.eraseIdxIfInBounds j') hb hg hob (by rw[show(fs.eraseIdxIfInBounds j').toList=fs.toList.eraseIdx j' by simp]; exact DC hfs),.inl ⟨_,.tup [],oD ?_,.tup _ _ .nil,hk⟩⟩
     simp only[Builtin.delete_,ht,Sem.run_bind,run_underlying hu,Result.andThen_ok,hgo,hck,hr1,Sem.run_pure,oU _ hob,List.getElem?_toArray,List.getElem?_cons_zero,List.getElem?_cons_succ]
 | none =>
   cases r' with
   | some q=>exact hr2.elim
   | none =>
     refine⟨_,ρ,_,map_set hA (es':=es) (cl':=cl) (fs':=fs) hb hg hob hfs,.inl ⟨_,.tup [],oD ?_,.tup _ _ .nil,hk⟩⟩
     simp only[Builtin.delete_,ht,Sem.run_bind,run_underlying hu,Result.andThen_ok,hgo,hck,hr1,Sem.run_pure,oU _ hob,List.getElem?_toArray,List.getElem?_cons_zero,List.getElem?_cons_succ]
theorem zN (hP:Cb P) (he0:∀ g,e (.func g)=.fn (.func g) [] []) (h:eQ P o e M K) : jg P o e M K:=by
 cases hop:o.op
 case store t a x =>
  simp only[eQ,hop] at h
  split at h <;> first | (cases h; done) | skip
  rename_i n hs
  intro ρ w c hw he
  obtain⟨M',ρ',w',h1,h2⟩:=JH hop hs h ρ w c hw he
  obtain⟨b,p,M1,hea,hn,hst,hk⟩:=h
  refine⟨M',ρ',w',h1, ?_⟩
  rcases h2 with⟨v',v,a1,b1,d1⟩ | ⟨a1,b1⟩ | ⟨f,args,us,a1,b1,d1⟩
  ·exfalso
   have hz:=a1
   simp only[execOp,hop,Sem.run_bind] at hz
   revert hz
   generalize (Instr.storeAt t (c a) (c x)).run P w=r
   cases r <;> simp[Result.andThen]
  ·exact .inr (.inl ⟨a1,b1⟩)
  ·exfalso
   have hz:=a1
   simp only[execOp,hop,Sem.run_bind] at hz
   revert hz
   generalize (Instr.storeAt t (c a) (c x)).run P w=r
   cases r <;> simp[Result.andThen]
 case mapUpdate t m k x =>
  simp only[eQ,hop] at h
  split at h <;> first | (cases h; done) | skip
  rename_i kt et hu
  split at h <;> first | (cases h; done) | skip
  rename_i ks a hf ha
  exact Ha hop hu hf ha h
 case range t x =>
  simp only[eQ,hop] at h
  split at h <;> first | (cases h; done) | skip
  rename_i kt et hu
  exact GD hop hu h
 case next it str =>
  cases str
  ·simp only[eQ,hop] at h
   exact IX hop h
  simp only[eQ,hop] at h
  obtain⟨b,s,pos,hex,hg,hk⟩:=h
  intro ρ w c hw he
  have hx:aa ρ (e it) (c it):=he it (by rw[hop]; simp[Op.operands])
  rw[hex] at hx
  obtain⟨i,hb,hcx⟩:=bC hx
  obtain⟨A,hA⟩:=hw
  rcases hA.blk b _ hg with⟨y,hy,hle⟩ | ⟨_,e0,_⟩
  ·cases y <;> first | exact hle.elim | skip
   obtain⟨rfl,rfl⟩:=hle
   rename_i pos
   obtain⟨ob,hob,hsh,rfl⟩:=hA.rel.blk b i _ hb hy
   have hget:(getObj i.cb).run P w=.ok (.stringIter ⟨⟨s⟩⟩ pos) w:=by simp[getObj,Sem.run,hob]
   have sZ:c it=.pointer (some ⟨i.cb,0,none⟩):=by rw[hcx,hsh]
   by_cases hlt:pos<s.length
   ·rw[if_pos hlt] at hk
    have hlt' : pos<(⟨⟨s⟩⟩ : ByteArray).size:=hlt
    obtain⟨q1,q2⟩:=je hA.rel (x:=.fP ⟨⟨s⟩⟩ (pos + (Utf8.decode ⟨⟨s⟩⟩ pos).2)) hb hy (w' := { w with heap:=w.heap.setIfInBounds i.cb (.stringIter ⟨⟨s⟩⟩ (pos + (Utf8.decode ⟨⟨s⟩⟩ pos).2)) }) rfl rfl rfl (by simp)
     (fun j hj=>by simp[Array.getElem?_setIfInBounds,Ne.symm hj]) (by
      have:=(Array.getElem?_eq_some_iff.1 hob).1
      simp[Array.getElem?_setIfInBounds,this]) ⟨hsh,rfl⟩
    refine⟨M.put b (.fP s (pos + (Utf8.decode ⟨⟨s⟩⟩ pos).2)),ρ,_,gm hA q2 q1 rfl hA.next (Nat.le_refl _) ?_,.inl ⟨.tuple #[.bool true,.int .i64 pos,.int .i32 (Utf8.decode ⟨⟨s⟩⟩ pos).1],_, ?_,.tup _ _ (.cons _ _ _ _ (.sc _ rfl) (.cons _ _ _ _ (.sc _ rfl) (.cons _ _ _ _ (.sc _ rfl) .nil))),hk⟩⟩
    ·intro d y hd
     simp only[RM.put] at hd
     simp only[Tree.aL]
     by_cases e2:d=b
     ·subst e2; rw[if_pos rfl] at hd ⊢; cases hd; exact .inl ⟨_,rfl,rfl,rfl⟩
     ·rw[if_neg e2] at hd ⊢; exact iE hA d y hd
    ·simp only[execOp,hop,Instr.next,sZ,Sem.run_bind,hget,Result.andThen_ok]
     rw[if_pos hlt']
     simp only[Sem.run_bind,setObj,Sem.run,hob,Result.andThen_ok,Sem.run_pure,goInt]
   ·rw[if_neg hlt] at hk
    have hlt' : ¬ pos<(⟨⟨s⟩⟩ : ByteArray).size:=hlt
    refine⟨M,ρ,w,After.refl ⟨A,hA⟩,.inl ⟨.tuple #[.bool false],_, ?_,.tup _ _ (.cons _ _ _ _ (.sc _ rfl) .nil),hk⟩⟩
    simp only[execOp,hop,Instr.next,sZ,Sem.run_bind,hget,Result.andThen_ok]
    rw[if_neg hlt']
    rfl
  ·cases e0
 case convert src dst x =>
  simp only[eQ,hop] at h
  split at h <;> first | (cases h; done) | skip
  rename_i el hsd hu
  split at h <;> first | (cases h; done) | skip
  rename_i hel
  obtain⟨b,p,n,cp,l,elem,hex,hg,hk⟩:=h
  have hsd:=aH hsd
  subst hsd
  intro ρ w c hw he
  have hx:aa ρ (e x) (c x):=he x (by rw[hop]; simp[Op.operands])
  obtain⟨A,hA⟩:=hw
  rcases hA.blk b _ hg with⟨y,hy,hle⟩ | ⟨_,e0,_⟩
  ·cases y <;> first | exact hle.elim | skip
   rename_i nn tree zs Aw iA fz'
   obtain⟨h1,rfl,rfl,rfl,h5⟩:=hle
   have hx':=hx
   rw[hex] at hx
   obtain⟨i,cp',hb,hcx⟩:=dh hx
   obtain⟨ob,hob,cc,fr,rfl,hrow⟩:=hA.rel.blk b i _ hb hy
   obtain⟨hf1,hf2⟩:=hrow.mark rfl rfl
   obtain⟨hq1,_⟩:=H7 (P:=P) hob hf1 (e:=.slice (some ⟨i.cb,i.sh + p,none⟩) n cp') hu hel
   have hlt:=(Array.getElem?_eq_some_iff.1 hob).1
   obtain⟨q1,q2⟩:=je hA.rel (x:=.row nn tree zs false iA (nn + 1)) (ob:=.cells cc iA (cc.size,cc.size + 1)) hb hy (w' := { w with heap:=w.heap.setIfInBounds i.cb (.cells cc iA (cc.size,cc.size + 1)) }) rfl rfl rfl (by simp)
    (fun j hj=>by simp[Array.getElem?_setIfInBounds,Ne.symm hj]) (by simp[Array.getElem?_setIfInBounds,hlt])
    ⟨cc,_,rfl,⟨hrow.size,hrow.val,fun k _ hk h2=>by omega,fun _ h0=>by omega,hrow.opn,hrow.sh0⟩⟩
   refine⟨M.put b (.row l false iA (l.length + 1)),ρ,_,gm hA q2 q1 rfl hA.next (Nat.le_refl _) ?_,.inl ⟨_,_,by simp only[execOp,hop,Sem.run_bind,hcx,hq1,Result.andThen_ok,Sem.run_pure],hcx▸hx',hk⟩⟩
   intro d y hd
   simp only[RM.put] at hd
   simp only[Tree.aL]
   by_cases e2:d=b
   ·subst e2; rw[if_pos rfl] at hd ⊢; cases hd; exact .inl ⟨_,rfl,h1,rfl,rfl,by rw[h1],h5⟩
   ·rw[if_neg e2] at hd ⊢; exact iE hA d y hd
  ·cases e0
 case call cl =>
  obtain⟨callee,args,ts⟩:=cl
  cases callee with
  | builtin b =>
    cases b
    case unsafeString =>
     simp only[eQ,hop] at h
     split at h <;> first | (cases h; done) | skip
     rename_i t x n ht
     split at h <;> first | (cases h; done) | skip
     rename_i el hu
     split at h <;> first | (cases h; done) | skip
     rename_i hel hc1
     have hc1:=aH hc1
     intro ρ w c hw he
     obtain⟨A,hA⟩:=hw
     have hX:vB P ⟨[],[],[]⟩:=⟨hP.ng,fun f h=>(by cases h),fun f h=>(by cases h)⟩
     rcases h with⟨b,k,l,opn,fz,s,hex,hen,hk0,hg,hkl,hs,hk⟩ | ⟨hex,hen,hk⟩
     ·rcases hA.blk b _ hg with⟨y,hy,hle⟩ | ⟨_,e0,_⟩
      ·cases y <;> first | exact hle.elim | skip
       rename_i nn tree zs Aw iA fz'
       obtain⟨h1,rfl,rfl,rfl,h5⟩:=hle
       have hl:A.loads b 0 (k + 1)=some (l.take (k + 1)):=by
        unfold AW.loads
        rw[hy]
        simpa using uS h5 (k + 1) 0 (by omega)
       have hlies:liesAt P P.depth iA (nn / P.cellsOf iA) 0 iA (k + 1)=true:=Lib.liesAt_bytes hc1 _ _ (by rw[hc1,Nat.div_one]; omega)
       have heff:fM P ⟨[],[],[]⟩ o e A=some (.value (St s),{ A with heap:=A.heap.del b }):=by
        simp only[fM,hop,ht,hu,hel,hex,hen,dJ,hy,hl,bytesOf,hs,hlies,aC.2 hk0]
       obtain⟨ρ',w',q1,q2,q3,v',hrun,hv⟩:=gG hX hA.rel hA.size he heff
       refine⟨M.del b,ρ',w',gm hA q1 q2 rfl hA.next q3 fun d z hd=>?_,.inl ⟨v',_,hrun,hv,hk⟩⟩
       simp only[RM.del] at hd
       simp only[Tree.ny]
       by_cases e2:d=b
       ·rw[if_pos e2] at hd; cases hd
       ·rw[if_neg e2] at hd ⊢; exact iE hA d z hd
      ·cases e0
     ·have heff:fM P ⟨[],[],[]⟩ o e A=some (.value (St []),A):=by
       simp only[fM,hop,ht,hu,hel,hex,hen,dJ]
      obtain⟨ρ',w',q1,q2,q3,v',hrun,hv⟩:=gG hX hA.rel hA.size he heff
      exact⟨M,ρ',w',gm hA q1 q2 rfl hA.next q3 fun d z hd=>iE hA d z hd,.inl ⟨v',_,hrun,hv,hk⟩⟩
    case append =>
     simp only[eQ,hop] at h
     split at h <;> first | (cases h; done) | skip
     rename_i t s x ht
     split at h <;> first | (cases h; done) | skip
     rename_i elem zeros hu hz
     split at h <;> first | (cases h; done) | skip
     rename_i size bytes zs hs1 hb1 hz1
     split at h <;> first | (cases h; done) | skip
     rename_i c1 c2
     have c1:=aF c1; have c2:=aH c2
     obtain⟨n,new,hnew,c3,c4,v,M',hM,hk⟩:=h
     intro ρ w c hw he
     have hs:aa ρ (e s) (c s):=he s (by rw[hop]; simp[Op.operands,Call.operands])
     have hx:aa ρ (e x) (c x):=he x (by rw[hop]; simp[Op.operands,Call.operands])
     obtain⟨us,hn⟩:=Md (P:=P) hw hx hz1 c1 c2 hnew
     obtain⟨it,z,hi,hzz,hr⟩:=eY (ρ:=ρ) hz1
     have hl:=hr.length
     simp only[Array.length_toList] at hl
     obtain⟨A,hA⟩:=hw
     refine JD (I4 hA c1 hs hn (ty:=o.type) ht hu hz hi hzz (by simpa [aG,hi] using hs1) (by omega) (by simpa [pI,hi] using hb1) c3 c4 hM) (fun v' w' hr=>?_) hk
     simp only[execOp,hop,resolve,invoke,builtin,Sem.run_bind,Sem.run_pure,Result.andThen_ok]
     rw[show(Array.map c ⟨[s,x]⟩) = #[c s,c x] by simp,hr]
     rfl
    case copy =>
     simp only[eQ,hop] at h
     split at h <;> first | (cases h; done) | skip
     rename_i t s x ht
     split at h <;> first | (cases h; done) | skip
     rename_i elem hu
     split at h <;> first | (cases h; done) | skip
     rename_i size hsz
     obtain⟨v,M',hM,hk⟩:=h
     exact J6 hop ht hu hsz hM hk
    case delete =>
     simp only[eQ,hop] at h
     split at h <;> first | (cases h; done) | skip
     rename_i t m k ht
     split at h <;> first | (cases h; done) | skip
     rename_i kt et hu
     split at h <;> first | (cases h; done) | skip
     rename_i ks a hf ha
     exact GX hop ht hu hf ha h
    case clear =>
     simp only[eQ,hop] at h
     split at h <;> first | (cases h; done) | skip
     rename_i t x ht
     split at h <;> first | (cases h; done) | skip
     rename_i elem hu
     split at h <;> first | (cases h; done) | skip
     rename_i size zs hs hzs
     split at h <;> first | (cases h; done) | skip
     rename_i c1 c2
     exact JW hop ht hu hs hzs (aF c1) (aH c2) h
    all_goals (simp only[eQ,hop] at h)
  | value f =>
    have hrun:∀ {c:Operand→Value} {w:World} {g:FuncId} {us vs:List Value},c f=.func (.func g) ⟨us⟩ ⟨vs⟩→(execOp c o).run P w=(callFunc g ⟨us++args.toList.map c++vs⟩).run P w:=by
     intro c w g us vs hcf
     simp only[execOp,hop,resolve,hcf,Deferred.ofValue,invoke,Sem.run_bind,Sem.run_pure,Result.andThen_ok]
     congr 2
     apply Array.ext'
     simp
    have ha:∀ {ρ:Ren} {c:Operand→Value},(∀ x∈o.op.operands,aa ρ (e x) (c x))→∀ x∈args.toList,aa ρ (e x) (c x):=fun he x hx=>he x (by rw[hop]; simp[Op.operands,Call.operands]; exact .inr (by simpa using hx))
    have gen:∀ (g:FuncId) (first cap:List AV),e f=.fn (.func g) first cap→dE P g (first++args.toList.map e++cap) M K→jg P o e M K:=by
     intro g first cap hef hcall ρ w c hw he
     have hf:aa ρ (e f) (c f):=he f (by rw[hop]; simp[Op.operands,Call.operands])
     rw[hef] at hf
     generalize hcf:c f=cf at hf
     cases hf with
     | fn _ _ _ us vs hp hfi hca =>
     obtain⟨⟨fn,cd,hfn,hcd⟩,hall⟩:=hcall
     refine⟨M,ρ,w,After.refl hw,.inr (.inr ⟨g,_,us++args.toList.map c++vs, ?_,(hfi.append (aA.nA _ (ha he))).append hca,⟨⟨fn,cd,hfn,hcd⟩,hall⟩⟩)⟩
     rw[hrun hcf]
     exact EH hfn (hP.ng _ _ hfn) hcd w
    cases f with
    | func g =>
      simp only[eQ,hop] at h
      split at h <;> first | (cases h; done) | skip
      rename_i fn hfn
      split at h
      ·rename_i cd hcd
       exact gen g [] [] (he0 g) (by simpa using h)
      ·rename_i hcd
       have start:∀ {ρ:Ren} {w:World} {c:Operand→Value},(∀ x∈o.op.operands,aa ρ (e x) (c x))→(execOp c o).run P w=(callFunc g ⟨args.toList.map c⟩).run P w:=by
        intro ρ w c he
        have hf:aa ρ (e (.func g)) (c (.func g)):=he _ (by rw[hop]; simp[Op.operands,Call.operands])
        rw[he0] at hf
        generalize hcf:c (.func g)=cf at hf
        cases hf with
        | fn _ _ _ us vs hp hfi hca =>
        cases hfi.lD
        cases hca.lD
        rw[hrun hcf]
        simp only[List.nil_append,List.append_nil]
       rcases h with⟨v,hv,hk⟩ | ⟨⟨fn',t,elem,size,tr,g1,g2,g3,g4,g5,g6⟩,⟨ba,oa,na,ca,bb,ob,nb,cb,la,ea,fa,lb,opb,eb,fb,hargs,hne,hla,hlb,q1,q2,q3⟩,hk⟩ | ⟨⟨fn',g1,g2,g3,g4⟩,v,hargs,hk⟩ | ⟨v,ML,hk⟩ | ⟨v,M2,ML,hk⟩
       ·intro ρ w c hw he
        unfold BP at hv
        rw[hfn] at hv
        simp only[hcd] at hv
        split at hv <;> first | (cases hv; done) | skip
        rename_i h1
        split at hv <;> first | (cases hv; done) | skip
        rename_i s ws h2 hws
        split at hv <;> first | (cases hv; done) | skip
        rename_i u hu
        split at hv <;> first | (cases hv; done) | skip
        rename_i y hy
        cases hv
        have hval:=Nk (aA.nA _ (ha he)) hws
        refine⟨M,ρ,w,After.refl hw,.inl ⟨u,v, ?_,d9 hy,hk⟩⟩
        rw[start he,hval]
        exact uU hfn (hP.ng _ _ hfn) hcd h1 h2 (fun w=>df hu w) w
       ·intro ρ w c hw he
        have hl:=aA.nA _ (ha he)
        rw[hargs] at hl
        obtain⟨A,hA⟩:=hw
        rcases hA.blk ba _ hla with⟨ya,hya,OI⟩ | ⟨_,e0,_⟩
        ·rcases hA.blk bb _ hlb with⟨yb,hyb,Pj⟩ | ⟨_,e0,_⟩
         ·cases ya <;> first | exact OI.elim | skip
          cases yb <;> first | exact Pj.elim | skip
          obtain⟨r1,rfl,rfl,rfl,r5⟩:=OI
          obtain⟨s1,rfl,rfl,rfl,s5⟩:=Pj
          have hov:nJ A [.slc ba oa na ca,.slc bb ob nb cb]=some (.sc (.bool false)):=by
           simp only[nJ,wT hne,hya,hyb]
           subst q1
           rw[aC.2 (by omega),aC.2 (by omega)]
           rfl
          obtain⟨_,hr⟩:=vV (tr:=tr) hA.rel hl hov g5 g6
          refine⟨M,ρ,w,After.refl ⟨A,hA⟩,.inl ⟨.bool false,Bo false, ?_,.sc _ rfl,hk⟩⟩
          rw[start he]
          exact lX g1 (hP.ng _ _ g1) g2 g3 g4 hr
         ·cases e0
        ·cases e0
       ·intro ρ w c hw he
        have hl:=aA.nA _ (ha he)
        rw[hargs] at hl
        generalize hal:args.toList.map c=al at hl
        cases hl with
        | cons _ u _ us2 h1 hr =>
        cases hr
        refine⟨M,ρ,w,After.refl hw,.inl ⟨u,v, ?_,h1,hk⟩⟩
        rw[start he,hal]
        exact lX g1 (hP.ng _ _ g1) g2 g3 g4 rfl
       ·intro ρ w c hw he
        obtain⟨u,hrun,hv⟩:=ML ρ w _ (aA.nA _ (ha he)) hw
        exact⟨M,ρ,w,After.refl hw,.inl ⟨u,v,by rw[start he]; exact hrun,hv,hk⟩⟩
       ·intro ρ w c hw he
        obtain⟨ρ',w',u,hrun,haf,hv⟩:=ML ρ w _ (aA.nA _ (ha he)) hw
        exact⟨M2,ρ',w',haf,.inl ⟨u,v,by rw[start he]; exact hrun,hv,hk⟩⟩
    | tmp t => 
      simp only[eQ,hop] at h
      obtain⟨g,first,cap,hef,hcall⟩:=h
      exact gen g first cap hef hcall
    | const v =>
      simp only[eQ,hop] at h
      obtain⟨g,first,cap,hef,hcall⟩:=h
      exact gen g first cap hef hcall
    | global v =>
      simp only[eQ,hop] at h
      obtain⟨g,first,cap,hef,hcall⟩:=h
      exact gen g first cap hef hcall
  | invoke r m=>simp only[eQ,hop] at h
 all_goals (simp only[eQ,hop] at h)
end
def EU (nt:Nat) (T:Tree AV) (d:Option Tmp) (v:AV) (K:Tree AV→Prop) : Prop :=
 match d with
 | none=>K T
 | some d=>match Nat.ble (d + 1) nt with
   | true=>K (T.set d v)
   | false=>False
def dG (x:RB) (mk:Nat→AV) (M:RM) (K:af) : Prop:=K (mk M.next) (M.push x)
def Kb (P:Program) (o:Oper) (e:Operand→AV) (M:RM) (K:af) : Prop :=
 match kindOf P o with
 | .pure | .read=>bN P o e M (fun v=>K v M)
 | .alloc=>kW P o e (fun x mk=>dG x mk M K)
 | .kR=>eQ P o e M K
def jv {α:Type} (x:AV) (want:Bool) (f g:α→Prop) (k:α) : Prop :=
 match x with
 | .sc (.bool b)=>if b=want then f k else g k
 | .tup []=>g k
 | _=>False
def CF (P:Program) (nt:Nat) (ops:Array Oper) : List Oper→Tree AV→RM→(Tree AV→RM→Prop)→Prop
 | [],T,M,K=>K T M
 | o :: rest,T,M,K=>match o.guard with
   | none=>Kb P o (iK T) M (fun v M'=>EU nt T o.dst v (fun T'=>CF P nt ops rest T' M' K))
   | some (j,want)=>match (ops[j]?).bind (·.dst) with
     | none=>False
     | some d=>jv ((T.get d).getD .top) want (Kb P o (iK T) M) (fun k=>k .undef M) (fun v M'=>EU nt T o.dst v (fun T'=>CF P nt ops rest T' M' K))
section
variable {P:Program} {ρ:Ren} {M:RM} {w:World} {nt:Nat} {T:Tree AV} {a:Act}
theorem FV (h:cO ρ nt T a) {d:Option Tmp} {v:AV} {v' : Value} {K:Tree AV→Prop} (hv:aa ρ v v') (hp:EU nt T d v K) : ∃ T',cO ρ nt T' (a.put d v')∧K T'∧∀ t,d≠some t→T'.get t=T.get t:=by
 cases d with
 | none=>exact⟨T,yE h hv rfl,hp,fun _ _=>rfl⟩
 | some d =>
   simp only[EU] at hp
   split at hp
   ·rename_i hb
    exact⟨T.set d v,yE h hv (by simp only[CZ,hb]),hp,fun t ht=>by rw[Tree.aL,if_neg (fun e=>ht (by rw[e]))]⟩
   ·cases hp
theorem Lv (hP:Cb P) {o:Oper} {e:Operand→AV} {K:af} (he0:∀ g,e (.func g)=.fn (.func g) [] []) (h:Kb P o e M K) : jg P o e M K:=by
 unfold Kb at h
 have val:bN P o e M (fun v=>K v M)→jg P o e M K:=by
  intro h ρ w c hw he
  obtain⟨v,hg,hk⟩:=rG h
  have hg:iy P o e M v:=by rcases hg with hg | ⟨_,hg⟩ <;> first | exact hg M | exact hg
  obtain⟨v',h1,h2⟩:=hg ρ w c M (RM.Sub.refl M) hw he
  exact⟨M,ρ,w,After.refl hw,.inl ⟨v',v,h1,h2,hk⟩⟩
 split at h
 ·exact val h
 ·exact val h
 ·obtain⟨x,mk,hm,hk⟩:=rV h
  intro ρ w c hw he
  obtain⟨ρ',w',u,h1,h2,h3⟩:=Gu hw he hm
  exact⟨_,ρ',w',h2,.inl ⟨u,_,h1,h3,hk⟩⟩
 ·exact zN hP he0 h
theorem Io {o:Oper} {e:Operand→AV} {K:af} (h:jg P o e M K) (hw:bi P ρ M w) (he:∀ x∈o.op.operands,aa ρ (e x) (a.eval x)) {K' : Act→World→Prop} {Q:Exit→Act→World→Prop}
  (hK:∀ v v' M' ρ' w',After P M ρ w M' ρ' w'→aa ρ' v v'→K v M'→K' (a.put o.dst v') w') : o.wp P a w K' Q:=by
 obtain⟨M',ρ',w',haft,h2⟩:=h ρ w a.eval hw he
 rcases h2 with⟨v',v,h1,h3,hk⟩ | ⟨h1,hk⟩ | ⟨f,args,us,h1,h3,hb,hc⟩
 ·exact gQ o h1 (hK _ _ _ _ _ haft h3 hk)
 ·exact Az o h1 (hK _ _ _ _ _ haft (.tup _ _ .nil) hk)
 ·refine wE o h1 (hc ρ' w' us h3 haft.rel) fun e w'' hR=>?_
  obtain⟨v',v,M2,ρ2,rfl,k1,k2,k3⟩:=hR
  exact⟨v',rfl,hK _ _ _ _ _ (haft.trans k1) k2 k3⟩
theorem IW {α:Type} {x:AV} {u:Value} {want:Bool} {f g:α→Prop} {k:α} (h:jv x want f g k) (hx:aa ρ x u) : (u=.bool want∧f k)∨((∀ b,u=.bool b→b≠want)∧g k):=by
 unfold jv at h
 split at h <;> first | (cases h; done) | skip
 ·obtain⟨rfl,_⟩:=av hx
  split at h
  ·rename_i e; subst e; exact .inl ⟨rfl,h⟩
  ·rename_i e; exact .inr ⟨fun b hb=>by cases hb; exact e,h⟩
 ·obtain⟨vs,rfl,hr⟩:=sO hx
  exact .inr ⟨fun b hb=>(by cases hb),h⟩
theorem tX (hP:Cb P) {ops:Array Oper} {Q:Exit→Act→World→Prop} {K:Tree AV→RM→Prop} {M0:RM} {ρ0:Ren} {w0:World} {T0:Tree AV}
  (hQ:∀ T' M' ρ' a' w',After P M0 ρ0 w0 M' ρ' w'→cO ρ' nt T' a'→K T' M'→(∀ t,(∀ o∈ops.toList,o.dst≠some t)→T'.get t=T0.get t)→Q .normal a' w') :
  ∀ (l:List Oper) (i:Nat) {ρ:Ren} {M:RM} {w:World} {T:Tree AV} {a:Act},ops.toList.drop i=l→cO ρ nt T a→After P M0 ρ0 w0 M ρ w→(∀ t,(∀ o∈ops.toList,o.dst≠some t)→T.get t=T0.get t)→CF P nt ops l T M K →
    wpOps P ops Q (List.range' i l.length) a w
 | [],i,ρ,M,w,T,a,_,hA,hw,hkp,h=>hQ T M ρ a w hw hA h hkp
 | o :: rest,i,ρ,M,w,T,a,hl,hA,hw,hkp,h=>by
   have ho:ops[i]?=some o:=by
    have:ops.toList[i]?=some o:=by
     have h0:(ops.toList.drop i)[0]?=some o:=by rw[hl]; rfl
     rw[List.getElem?_drop] at h0; exact h0
    rw[← Array.getElem?_toList]; exact this
   have hom:o∈ops.toList:=by
    have h1:ops.toList[i]?=some o:=by rw[Array.getElem?_toList]; exact ho
    exact List.mem_of_getElem? h1
   have hl' : ops.toList.drop (i + 1)=rest:=by
    rw[← List.drop_drop (i:=1) (j:=i)] <;> rw[hl]; rfl
   rw[List.length_cons,List.range'_succ,wpOps_cons]
   unfold wpOp
   simp only[ho]
   simp only[CF] at h
   have he:∀ x∈o.op.operands,aa ρ (iK T x) (a.eval x):=fun x _=>qX hA x
   have next:Kb P o (iK T) M (fun v M'=>EU nt T o.dst v (fun T'=>CF P nt ops rest T' M' K))→o.wp P a w (wpOps P ops Q (List.range' (i + 1) rest.length)) Q:=by
    intro h
    refine Io (Lv hP (fun _=>rfl) h) hw.rel he fun v v' M' ρ' w' haft hv hk=>?_
    obtain⟨T',hT,hk,hkt⟩:=FV (hA.mono (haft.le hw.rel)) hv hk
    exact tX hP hQ rest (i + 1) hl' hT (hw.trans haft) (fun t ht=>by rw[hkt t (ht o hom),hkp t ht]) hk
   split at h
   ·rename_i hg
    have:Region.wanted o (yielded ops a.tmps)=true:=by simp[Region.wanted,hg]
    rw[this]
    exact .inl (next h)
   ·rename_i j want hg
    split at h <;> first | (cases h; done) | skip
    rename_i d hd
    have hyv:yielded ops a.tmps j=match a.tmps[d]? with | some (.bool b)=>some b | _=>none:=by
     unfold yielded; rw[hd]; rfl
    have hget:∀ t:Bool,a.tmps.getD d undef=.bool t↔a.tmps[d]?=some (.bool t):=by
     intro t
     rw[Array.getD_eq_getD_getElem?]
     cases hx:a.tmps[d]? with
     | none=>simp[undef]
     | some y=>simp
    rcases IW h (hA.val d) with⟨hu,hf⟩ | ⟨hn,hk⟩
    ·have:Region.wanted o (yielded ops a.tmps)=true:=by
      simp only[Region.wanted,hg,hyv,(hget want).1 hu]; simp
     rw[this]
     exact .inl (next hf)
    ·have:Region.wanted o (yielded ops a.tmps)=false:=by
      simp only[Region.wanted,hg,hyv]
      cases hx:a.tmps[d]? with
      | none=>rfl
      | some y =>
        cases y <;> try rfl
        rename_i b
        have:=hn b ((hget b).2 hx)
        simpa using this
     rw[this]
     simp only[Bool.false_eq_true,if_false]
     obtain⟨T',hT,hk,hkt⟩:=FV (v':=undef) hA (.tup _ _ .nil) hk
     exact tX hP hQ rest (i + 1) hl' hT hw (fun t ht=>by rw[hkt t (ht o hom),hkp t ht]) hk
end
structure jM where
 vals:Tree AV
 M:RM
 aJ:Tree (Option Nat)
abbrev KR:=AV→RM→Option Nat→Prop
def guardOf (ops:Array Oper) (wr:Tree Nat) (vals:Tree AV) (r:Row) : Option (Option (AV × Bool)) :=
 match r.o.guard with
 | none=>some none
 | some (j,want)=>match (ops[j]?).bind (·.dst) with
   | none=>none
   | some d=>match Nat.testBit r.m j,wr.get d with
     | true,some j'=>match Nat.beq j' j with
       | true=>some (some ((vals.get j).getD .top,want))
       | false=>none
     | _,_=>none
abbrev ae (x:AV) (want:Bool) (f g:af→Prop) (k:af) : Prop:=jv x want f g k
abbrev bM (x:AV) (want:Bool) (f g:KR→Prop) (k:KR) : Prop:=jv x want f g k
abbrev KT (x:AV) (want:Bool) (f g:Prop→Prop) (k:Prop) : Prop:=jv x want f g k
def pq {α:Type} (g:Option (Option (AV × Bool))) (f skip:α→Prop) (k:α) : Prop :=
 match g with
 | none=>False
 | some none=>f k
 | some (some (x,want))=>jv x want f skip k
def MK (x:RB) (mk:Nat→AV) (M:RM) (k:KR) : Prop:=k (mk M.next) (M.push x) (some M.next)
def Ni (b:Option Nat) (M:RM) (x:RB) (mk:Nat→AV) (v:AV) : Prop :=
 match b with
 | some b=>M.heap b=some x∧mk b=v
 | none=>False
def Pf (P:Program) (r:Row) (e:Operand→AV) (M:RM) (k:KR) : Prop :=
 match r.kd with
 | .pure | .read=>bN P r.o e M (fun v=>k v M none)
 | .alloc=>kW P r.o e (fun x mk=>MK x mk M k)
 | .kR=>False
def xH (P:Program) (ops:Array Oper) (T0:Tree AV) (wr:Tree Nat) (lev:Nat) : List Row→jM→(jM→Prop)→Prop
 | [],s,K=>K s
 | r :: rest,s,K=>match Nat.beq r.lev lev && !fe r.kd with
   | false=>xH P ops T0 wr lev rest s K
   | true=>pq (guardOf ops wr s.vals r) (Pf P r (dR T0 wr s.vals r.m) s.M) (fun k=>k .undef s.M none) (fun v M' b=>xH P ops T0 wr lev rest { vals:=s.vals.set r.i v,M:=M',aJ:=s.aJ.set r.i b } K)
def IJ (P:Program) (ops:Array Oper) (T0:Tree AV) (wr:Tree Nat) (r:Row) (s:jM) (K:Prop) : Prop :=
 match r.kd with
 | .read=>pq (guardOf ops wr s.vals r) (fun k=>bN P r.o (dR T0 wr s.vals r.m) s.M (fun v=>v=(s.vals.get r.i).getD .top∧k)) (fun k=>k) K
 | .alloc=>pq (guardOf ops wr s.vals r) (fun k=>kW P r.o (dR T0 wr s.vals r.m) (fun x mk=>Ni ((s.aJ.get r.i).getD none) s.M x mk ((s.vals.get r.i).getD .top)∧k)) (fun k=>k) K
 | _=>K
def Dp (P:Program) (ops:Array Oper) (T0:Tree AV) (ri:RI) (lev:Nat) : List Row→jM→Prop→Prop
 | [],_,K=>K
 | r :: rest,s,K=>match Nat.ble r.lev lev && !fe r.kd && fK ri.ms ri.es (lev + 1) r with
   | false=>Dp P ops T0 ri lev rest s K
   | true=>IJ P ops T0 ri.wr r s (Dp P ops T0 ri lev rest s K)
def nS (P:Program) (ops:Array Oper) (T0:Tree AV) (ri:RI) : Nat→List Nat→jM→(jM→Prop)→Prop
 | lev,[],s,K=>xH P ops T0 ri.wr lev ri.rows s K
 | lev,x :: rest,s,K=>xH P ops T0 ri.wr lev ri.rows s (fun s1=>match nth ri.rows x with
   | none=>False
   | some r=>pq (guardOf ops ri.wr s1.vals r) (eQ P r.o (dR T0 ri.wr s1.vals r.m) s1.M) (fun k=>k .undef s1.M)
     (fun v M'=>Dp P ops T0 ri lev ri.rows { vals:=s1.vals.set x v,M:=M',aJ:=s1.aJ } (nS P ops T0 ri (lev + 1) rest { vals:=s1.vals.set x v,M:=M',aJ:=s1.aJ } K)))
def Ji (P:Program) (nt:Nat) (ops:Array Oper) (T:Tree AV) (M:RM) (K:Tree AV→RM→Prop) : Prop :=
 match oG P nt ops with
 | none=>False
 | some ri=>match ri.rows.all (lL ri) with
   | false=>False
   | true=>nS P ops T ri 0 ri.es { vals:=.leaf,M,aJ:=.leaf } (fun s=>K (rU T s.vals ri.rows) s.M)
def H6 (g:Option (AV × Bool)) : Prop:=match g with | none=>True | some (x,want)=>x=Bo want
def AQ (g:Option (AV × Bool)) : Prop:=match g with | none=>False | some (x,want)=>x=.undef∨∃ b,x=Bo b∧b≠want
theorem mi {α:Type} {g:Option (Option (AV × Bool))} {f skip:α→Prop} {k:α} (h:pq g f skip k) : ∃ g',g=some g'∧((H6 g'∧f k)∨(AQ g'∧skip k)):=by
 unfold pq at h
 split at h <;> first | (cases h; done) | skip
 ·exact⟨none,rfl,.inl ⟨trivial,h⟩⟩
 ·rename_i x want
  refine⟨_,rfl, ?_⟩
  unfold jv at h
  split at h <;> first | (cases h; done) | skip
  ·split at h
   ·rename_i e; subst e; exact .inl ⟨rfl,h⟩
   ·rename_i b e; exact .inr ⟨.inr ⟨b,rfl,e⟩,h⟩
  ·exact .inr ⟨.inl rfl,h⟩
section
variable {P:Program} {nt:Nat} {ops:Array Oper} {ri:RI} {T0:Tree AV}
def lU (P:Program) (ops:Array Oper) (T0:Tree AV) (wr:Tree Nat) (s:jM) (r:Row) : Prop :=
 ∃ g,guardOf ops wr s.vals r=some g∧((H6 g∧∃ v,s.vals.get r.i=some v∧match r.kd with
   | .pure=>∀ M,iy P r.o (dR T0 wr s.vals r.m) M v
   | .read=>iy P r.o (dR T0 wr s.vals r.m) s.M v
   | .alloc=>∃ x mk b,wZ P r.o (dR T0 wr s.vals r.m) x mk∧s.aJ.get r.i=some (some b)∧s.M.heap b=some x∧mk b=v
   | .kR=>False)∨(AQ g∧s.vals.get r.i=some .undef))
theorem iy.sub {o:Oper} {e:Operand→AV} {M M' : RM} {v:AV} (h:iy P o e M v) (hs:M.Sub M') : iy P o e M' v :=
 fun ρ w c M2 h2 hw he=>h ρ w c M2 (hs.trans h2) hw he
theorem qR {vals BJ:Tree AV} {wr:Tree Nat} {m:Nat} (h:∀ j,Nat.testBit m j=true→BJ.get j=vals.get j) : dR T0 wr BJ m=dR T0 wr vals m:=by
 funext x
 cases x with
 | tmp t =>
   simp only[dR]
   cases hw:wr.get t with
   | none=>rfl
   | some j =>
     simp only
     cases hb:Nat.testBit m j with
     | false=>rfl
     | true=>simp only[h j hb]
 | const v=>rfl
 | global g=>rfl
 | func f=>rfl
theorem jT {vals BJ:Tree AV} {wr:Tree Nat} {r:Row} (h:∀ j,Nat.testBit r.m j=true→BJ.get j=vals.get j) : guardOf ops wr BJ r=guardOf ops wr vals r:=by
 unfold guardOf
 split
 ·rfl
 ·rename_i j want hg
  split
  ·rfl
  ·split
   ·rename_i hb _
    simp only[h j hb]
   ·rfl
theorem lU.keep {wr:Tree Nat} {s s' : jM} {r:Row} (h:lU P ops T0 wr s r) (hv:∀ j,Nat.testBit r.m j=true∨j=r.i→s'.vals.get j=s.vals.get j) (hb:s'.aJ.get r.i=s.aJ.get r.i) (hs:s.M.Sub s'.M) : lU P ops T0 wr s' r:=by
 obtain⟨g,hg,h⟩:=h
 have hi:=hv r.i (.inr rfl)
 have he:dR T0 wr s'.vals r.m=dR T0 wr s.vals r.m:=qR fun j hj=>hv j (.inl hj)
 refine⟨g,by rw[← hg]; exact jT fun j hj=>hv j (.inl hj), ?_⟩
 rcases h with⟨hon,v,hvi,hk⟩ | ⟨hoff,hvi⟩
 ·refine .inl ⟨hon,v,by rw[hi]; exact hvi, ?_⟩
  rw[he]
  cases hkd:r.kd with
  | pure=>rw[hkd] at hk; exact hk
  | read=>rw[hkd] at hk; exact hk.sub hs
  | alloc =>
    rw[hkd] at hk
    obtain⟨x,mk,b,h1,h2,h3,h4⟩:=hk
    exact⟨x,mk,b,h1,by rw[hb]; exact h2,hs.2 _ _ h3,h4⟩
  | kR=>rw[hkd] at hk; exact hk
 ·exact .inr ⟨hoff,by rw[hi]; exact hvi⟩
def Fr (M:RM) : Prop:=∀ b,M.next≤b→M.heap b=none
theorem Fr.push {M:RM} (h:Fr M) (x:RB) : Fr (M.push x):=by
 intro b hb
 simp only[RM.push] at hb ⊢
 rw[if_neg (by omega)]
 exact h b (by omega)
theorem Fr.sub {M:RM} (h:Fr M) (x:RB) : M.Sub (M.push x):=by
 refine⟨rfl,fun b y hy=>?_⟩
 simp only[RM.push]
 split
 ·rename_i e; subst e; rw[h _ (Nat.le_refl _)] at hy; cases hy
 ·exact hy
theorem bi.fr {ρ:Ren} {M:RM} {w:World} (h:bi P ρ M w) : Fr M:=by
 intro b hb
 have hlo:=h.lo_le
 obtain⟨A,hA⟩:=h
 cases hx:M.heap b with
 | none=>rfl
 | some x =>
   rcases hA.blk b x hx with⟨y,hy,_⟩ | ⟨c,_,hlt,_⟩
   ·have:=hA.rel.top b y hy
    rw[hA.next] at this; omega
   ·omega
theorem CG {ρ:Ren} {M:RM} {w:World} {o:Oper} {e:Operand→AV} {x:RB} {mk:Nat→AV} (h:bi P ρ M w) (hm:wZ P o e x mk) : bi P ρ (M.push x) w:=by
 obtain⟨y,_,hle⟩:=hm
 exact h.Ob x y hle
structure IK (P:Program) (ops:Array Oper) (T0:Tree AV) (ri:RI) (lev:Nat) (i0:Nat) (s s' : jM) : Prop where
 keep:∀ j,(∀ r,ri.rows[j]?=some r→i0≤j→¬ (r.lev=lev∧fe r.kd=false))→s'.vals.get j=s.vals.get j∧s'.aJ.get j=s.aJ.get j
 done:∀ j r,ri.rows[j]?=some r→i0≤j→r.lev=lev→fe r.kd=false→lU P ops T0 ri.wr s' r
 sub:s.M.Sub s'.M
 fr:Fr s'.M
 rel:∀ ρ w,bi P ρ s.M w→bi P ρ s'.M w
 next:s.M.next≤s'.M.next
 aJ:∀ j b,s'.aJ.get j=some (some b)→s.aJ.get j=some (some b)∨(s.M.next≤b∧b<s'.M.next∧i0≤j∧∃ r,ri.rows[j]?=some r)
 qL:∀ j1 j2 b,s'.aJ.get j1=some (some b)→s'.aJ.get j2=some (some b)→s.M.next≤b→j1=j2
theorem qO (ht:iI P nt ops ri) {lev:Nat} {K:jM→Prop} : ∀ (rows:List Row) (i0:Nat) (s:jM),ri.rows.drop i0=rows→Fr s.M→(∀ j b,s.aJ.get j=some (some b)→b<s.M.next)→xH P ops T0 ri.wr lev rows s K→∃ s',K s'∧IK P ops T0 ri lev i0 s s'
 | [],i0,s,hd,hf,hbd,h=>by
   refine⟨s,h,fun _ _=>⟨rfl,rfl⟩,fun j r hr hj=>?_,RM.Sub.refl _,hf,fun _ _ h=>h,Nat.le_refl _,fun j b hb=>.inl hb,fun j1 j2 b h1 _ hb=>absurd (hbd j1 b h1) (by omega)⟩
   have hlen:ri.rows.length≤i0:=List.drop_eq_nil_iff.1 hd
   have:=(List.getElem?_eq_some_iff.1 hr).1
   omega
 | r :: rows,i0,s,hd,hf,hbd,h=>by
   have hri:ri.rows[i0]?=some r:=by
    have h0:(ri.rows.drop i0)[0]?=some r:=by rw[hd]; rfl
    rw[List.getElem?_drop] at h0; exact h0
   have hd' : ri.rows.drop (i0 + 1)=rows:=by
    rw[← List.drop_drop (i:=1) (j:=i0)] <;> rw[hd]; rfl
   obtain⟨e1,e2,e3,e4,e5⟩:=ht.row hri
   simp only[xH] at h
   split at h
   ·rename_i hk
    obtain⟨s',hK,hp⟩:=qO ht rows (i0 + 1) s hd' hf hbd h
    have hne:¬ (r.lev=lev∧fe r.kd=false):=by
     rintro⟨a,b⟩
     rw[kK a,b] at hk
     cases hk
    refine⟨s',hK,fun j hj=>hp.keep j fun r' hr' hj'=>hj r' hr' (by omega),fun j r' hr' hj hl he=>?_,hp.sub,hp.fr,hp.rel,hp.next,fun j b hb=>(hp.aJ j b hb).imp id fun⟨a,b,c,d⟩=>⟨a,b,by omega,d⟩,hp.qL⟩
    rcases Nat.lt_or_ge i0 j with hlt | hge
    ·exact hp.done j r' hr' hlt hl he
    ·have:j=i0:=by omega
     subst this
     rw[hri] at hr'; cases hr'
     exact absurd ⟨hl,he⟩ hne
   ·rename_i hk
    simp only[Bool.and_eq_true,Bool.not_eq_true'] at hk
    have nX:=aH hk.1
    obtain⟨g,hg,hcase⟩:=mi h
    -- whatever the row gives
    have fin:∀ (v:AV) (M' : RM) (b:Option Nat),s.M.Sub M'→Fr M'→s.M.next≤M'.next→(∀ ρ w,bi P ρ s.M w→bi P ρ M' w)→(∀ b',b=some b'→s.M.next≤b'∧b'<M'.next) →
      (∀ s2:jM,(∀ j,Nat.testBit r.m j=true→s2.vals.get j=s.vals.get j)→s2.vals.get r.i=some v→s2.aJ.get r.i=some b→M'.Sub s2.M→lU P ops T0 ri.wr s2 r) →
      xH P ops T0 ri.wr lev rows { vals:=s.vals.set r.i v,M:=M',aJ:=s.aJ.set r.i b } K→∃ s',K s'∧IK P ops T0 ri lev i0 s s':=by
     intro v M' b hsub hfr hnx hrel hb hok h
     obtain⟨s',hK,hp⟩:=qO ht rows (i0 + 1) _ hd' hfr (fun j b' hj=>by
      rw[Tree.aL] at hj
      split at hj
      ·cases hj; exact(hb b' rfl).2
      ·exact Nat.lt_of_lt_of_le (hbd j b' hj) hnx) h
     have ET:=hp.keep r.i (fun r' hr' hj'=>by omega)
     simp only[Tree.aL,if_true] at ET
     refine⟨s',hK,fun j hj=>?_,fun j r' hr' hj hl he=>?_,hsub.trans hp.sub,hp.fr,fun ρ w h=>hp.rel ρ w (hrel ρ w h),Nat.le_trans hnx hp.next,fun j b' hb'=>?_,fun j1 j2 b' h1 h2 hb'=>?_⟩
     ·have hji:j≠r.i:=fun e=>hj r (by rw[e,e1]; exact hri) (by omega) ⟨nX,hk.2⟩
      obtain⟨k1,k2⟩:=hp.keep j fun r' hr' hj'=>hj r' hr' (by omega)
      simp only[Tree.aL,if_neg hji] at k1 k2
      exact⟨k1,k2⟩
     ·rcases Nat.lt_or_ge i0 j with hlt | hge
      ·exact hp.done j r' hr' hlt hl he
      ·have:j=i0:=by omega
       subst this
       rw[hri] at hr'; cases hr'
       refine hok s' (fun q hq=>?_) ET.1 ET.2 hp.sub
       have hqlt:q<j:=by
        have hc:Closed ops.toList (fun i=>i<j):=fun i o ho hi e he' hb'=>by have:=ht.oV i o ho e he' hb'; omega
        exact ht.ahead hc hri (fun e he' hb'=>ht.oV j r.o e2 e he' hb') hq
       have hqi:q≠r.i:=by omega
       have:=(hp.keep q fun r' hr' hj'=>by omega).1
       rw[this]
       simp only[Tree.aL,if_neg hqi]
     ·rcases hp.aJ j b' hb' with k | ⟨k1,k2,k3,k4⟩
      ·simp only[Tree.aL] at k
       split at k
       ·rename_i e
        cases k
        obtain⟨q1,q2⟩:=hb b' rfl
        exact .inr ⟨q1,Nat.lt_of_lt_of_le q2 hp.next,by omega,r,by rw[e,e1]; exact hri⟩
       ·exact .inl k
      ·simp only at k1
       exact .inr ⟨by omega,k2,by omega,k4⟩
     ·rcases Nat.lt_or_ge b' M'.next with hlt | hge
      ·have q:∀ j,s'.aJ.get j=some (some b')→j=r.i:=by
        intro j hj
        rcases hp.aJ j b' hj with k | ⟨k1,_⟩
        ·simp only[Tree.aL] at k
         split at k
         ·assumption
         ·have:=hbd j b' k; omega
        ·simp only at k1; omega
       rw[q j1 h1,q j2 h2]
      ·exact hp.qL j1 j2 b' h1 h2 hge
    rcases hcase with⟨hon,hv⟩ | ⟨hoff,hv⟩
    ·unfold Pf at hv
     have val:(r.kd=.pure∨r.kd=.read)→bN P r.o (dR T0 ri.wr s.vals r.m) s.M (fun v=>xH P ops T0 ri.wr lev rows { vals:=s.vals.set r.i v,M:=s.M,aJ:=s.aJ.set r.i none } K)→∃ s',K s'∧IK P ops T0 ri lev i0 s s':=by
      intro hkd hv
      obtain⟨v,hgv,hk2⟩:=rG hv
      refine fin v s.M none (RM.Sub.refl _) hf (Nat.le_refl _) (fun _ _ h=>h) (fun b' h=>by cases h) (fun s2 q1 q2 q3 q4=>?_) hk2
      refine⟨g,by rw[← hg]; exact jT q1,.inl ⟨hon,v,q2, ?_⟩⟩
      rw[qR q1]
      rcases hkd with hkd | hkd
      ·rw[hkd]
       rcases hgv with hgv | ⟨hrd,_⟩
       ·exact hgv
       ·rw[← e5,hkd] at hrd; cases hrd
      ·rw[hkd]
       rcases hgv with hgv | ⟨_,hgv⟩
       ·exact hgv _
       ·exact hgv.sub q4
     split at hv
     ·exact val (.inl ‹_›) hv
     ·exact val (.inr ‹_›) hv
     ·rename_i hkd
      obtain⟨x,mk,hm,hk2⟩:=rV hv
      refine fin (mk s.M.next) (s.M.push x) (some s.M.next) (hf.sub x) (hf.push x) (by simp[RM.push]) (fun ρ w h=>CG h hm) (fun b' h=>by cases h; simp[RM.push]) (fun s2 q1 q2 q3 q4=>?_) hk2
      refine⟨g,by rw[← hg]; exact jT q1,.inl ⟨hon,_,q2, ?_⟩⟩
      rw[qR q1,hkd]
      exact⟨x,mk,s.M.next,hm,q3,q4.2 _ _ (by simp[RM.push]),rfl⟩
     ·cases hv
    ·refine fin .undef s.M none (RM.Sub.refl _) hf (Nat.le_refl _) (fun _ _ h=>h) (fun b' h=>by cases h) (fun s2 q1 q2 q3 q4=>?_) hv
     exact⟨g,by rw[← hg]; exact jT q1,.inr ⟨hoff,q2⟩⟩
end
section
variable {P:Program} {nt:Nat} {ops:Array Oper} {ri:RI} {T0:Tree AV}
theorem Jf {wr:Tree Nat} {r:Row} {s s0:jM} {K:Prop} (h:IJ P ops T0 wr r s K) (hold:lU P ops T0 wr s0 r) (hv:∀ j,Nat.testBit r.m j=true∨j=r.i→s.vals.get j=s0.vals.get j) (hb:s.aJ.get r.i=s0.aJ.get r.i) :
  K∧lU P ops T0 wr s r:=by
 obtain⟨g,hg,hold⟩:=hold
 have hi:=hv r.i (.inr rfl)
 have he:dR T0 wr s.vals r.m=dR T0 wr s0.vals r.m:=qR fun j hj=>hv j (.inl hj)
 have hg' : guardOf ops wr s.vals r=some g:=by rw[← hg]; exact jT fun j hj=>hv j (.inl hj)
 have Ew:AQ g→H6 g→False:=by
  intro h1 h2
  unfold AQ at h1
  unfold H6 at h2
  split at h1
  ·exact h1
  ·simp only at h2
   rcases h1 with h1 | ⟨b,h1,h3⟩
   ·rw[h2] at h1; cases h1
   ·rw[h2] at h1; cases h1; exact h3 rfl
 have I6:∀ {K'},K'→AQ g∧s0.vals.get r.i=some .undef→K'∧lU P ops T0 wr s r:=fun k h=>⟨k,g,hg',.inr ⟨h.1,by rw[hi]; exact h.2⟩⟩
 unfold IJ at h
 cases hkd:r.kd with
 | pure =>
   rw[hkd] at h
   refine⟨h,g,hg', ?_⟩
   rcases hold with⟨hon,v,hvi,hk⟩ | ⟨hoff,hvi⟩
   ·refine .inl ⟨hon,v,by rw[hi]; exact hvi, ?_⟩
    rw[hkd] at hk ⊢
    rw[he]; exact hk
   ·exact .inr ⟨hoff,by rw[hi]; exact hvi⟩
 | kR =>
   rcases hold with⟨hon,v,hvi,hk⟩ | ho
   ·rw[hkd] at hk; exact hk.elim
   ·rw[hkd] at h; exact I6 h ho
 | read =>
   rw[hkd] at h
   obtain⟨g2,hg2,hcase⟩:=mi h
   rw[hg'] at hg2; cases hg2
   rcases hold with⟨hon,v,hvi,hk⟩ | ho
   ·rcases hcase with⟨_,hn⟩ | ⟨hoff,_⟩
    ·obtain⟨v',hgv,hv',hK⟩:=rG hn
     have hgv:iy P r.o (dR T0 wr s.vals r.m) s.M v':=by rcases hgv with hgv | ⟨_,hgv⟩ <;> first | exact hgv _ | exact hgv
     rw[hi,hvi] at hv'
     simp only[Option.getD_some] at hv'
     subst hv'
     refine⟨hK,g,hg',.inl ⟨hon,v',by rw[hi]; exact hvi, ?_⟩⟩
     rw[hkd]; exact hgv
    ·exact(Ew hoff hon).elim
   ·rcases hcase with⟨hon,_⟩ | ⟨_,hK⟩
    ·exact(Ew ho.1 hon).elim
    ·exact I6 hK ho
 | alloc =>
   rw[hkd] at h
   obtain⟨g2,hg2,hcase⟩:=mi h
   rw[hg'] at hg2; cases hg2
   rcases hold with⟨hon,v,hvi,hk⟩ | ho
   ·rcases hcase with⟨_,hn⟩ | ⟨hoff,_⟩
    ·obtain⟨x,mk,hm,hx,hK⟩:=rV hn
     rw[hkd] at hk
     obtain⟨x0,mk0,b,_,h2,_,_⟩:=hk
     rw[hb,h2] at hx
     simp only[Option.getD_some] at hx
     rw[hi,hvi] at hx
     simp only[Option.getD_some] at hx
     refine⟨hK,g,hg',.inl ⟨hon,v,by rw[hi]; exact hvi, ?_⟩⟩
     rw[hkd]
     exact⟨x,mk,b,hm,by rw[hb]; exact h2,hx.1,hx.2⟩
    ·exact(Ew hoff hon).elim
   ·rcases hcase with⟨hon,_⟩ | ⟨_,hK⟩
    ·exact(Ew ho.1 hon).elim
    ·exact I6 hK ho
theorem AB {lev:Nat} {s s0:jM} {K:Prop} : ∀ (rows:List Row),Dp P ops T0 ri lev rows s K →
  (∀ r∈rows,fe r.kd=false→r.lev≤lev→fK ri.ms ri.es (lev + 1) r=true→lU P ops T0 ri.wr s0 r∧(∀ j,Nat.testBit r.m j=true∨j=r.i→s.vals.get j=s0.vals.get j)∧s.aJ.get r.i=s0.aJ.get r.i) →
  K∧∀ r∈rows,fe r.kd=false→r.lev≤lev→fK ri.ms ri.es (lev + 1) r=true→lU P ops T0 ri.wr s r
 | [],h,_=>⟨h,fun r hr=>by cases hr⟩
 | r :: rows,h,ho=>by
   simp only[Dp] at h
   split at h
   ·rename_i hc
    obtain⟨h1,h2⟩:=AB rows h fun r' hr'=>ho r' (.tail _ hr')
    refine⟨h1,fun r' hr' e1 e2 e3=>?_⟩
    rcases List.mem_cons.1 hr' with e | hr'
    ·subst e
     rw[aC.2 e2,e1,e3] at hc
     cases hc
    ·exact h2 r' hr' e1 e2 e3
   ·rename_i hc
    simp only[Bool.and_eq_true,Bool.not_eq_true'] at hc
    obtain⟨⟨c1,c2⟩,c3⟩:=hc
    obtain⟨o1,o2,o3⟩:=ho r (.head _) c2 (aF c1) c3
    obtain⟨h1,h2⟩:=Jf h o1 o2 o3
    obtain⟨h3,h4⟩:=AB rows h1 fun r' hr'=>ho r' (.tail _ hr')
    refine⟨h3,fun r' hr' e1 e2 e3=>?_⟩
    rcases List.mem_cons.1 hr' with e | hr'
    ·subst e; exact h2
    ·exact h4 r' hr' e1 e2 e3
theorem NK {ρ:Ren} {i:dH} {x:RB} {y y' : bO} {ob:Obj} (h:pJ x y) (h' : pJ x y') (hb:eT P ρ i y ob) : eT P ρ i y' ob:=by
 cases x with
 | row l opn elem fz =>
   cases y <;> first | exact h.elim | skip
   cases y' <;> first | exact h'.elim | skip
   obtain⟨rfl,rfl,rfl,rfl,h5⟩:=h
   obtain⟨h1,rfl,rfl,rfl,h5'⟩:=h'
   subst h1
   obtain⟨c,fr,rfl,hr⟩:=hb
   refine⟨c,fr,rfl,hr.size,fun k u hk=>?_,hr.free,hr.mark,hr.opn,hr.sh0⟩
   have hlt:=qW hk
   have hv:l[k]?=some l[k]:=by simp[hlt]
   have e1:=h5' k _ hv
   rw[hk] at e1; cases e1
   exact hr.val k _ (h5 k _ hv)
 | ro c=>cases y <;> exact h.elim
 | map es c =>
   cases y <;> first | exact h.elim | skip
   cases y' <;> first | exact h'.elim | skip
   obtain⟨rfl,rfl⟩:=h
   obtain⟨rfl,rfl⟩:=h'
   exact hb
 | iter m a b c =>
   cases y <;> first | exact h.elim | skip
   cases y' <;> first | exact h'.elim | skip
   obtain⟨rfl,rfl,rfl,rfl⟩:=h
   obtain⟨rfl,rfl,rfl,rfl⟩:=h'
   exact hb
 | fP s p =>
   cases y <;> first | exact h.elim | skip
   cases y' <;> first | exact h'.elim | skip
   obtain⟨rfl,rfl⟩:=h
   obtain⟨rfl,rfl⟩:=h'
   exact hb
theorem Li {ρ:Ren} {M:RM} {w:World} {b:Nat} {x:RB} {y:bO} {ob:Obj} {i:dH} (hw:bi P ρ M w) (hi:i.cb=w.heap.size) (hb:ρ b=none) (hlt:b<M.next) (hx:M.heap b=some x) (hle:pJ x y)
  (hrel:eT P ρ i y ob) : bi P (ρ.add b i) M (w.alloc ob)∧Step M.lo b ρ w (ρ.add b i) (w.alloc ob):=by
 obtain⟨A,hA⟩:=hw
 rcases hA.blk b x hx with⟨y',hy',FL⟩ | ⟨c,rfl,_⟩
 ·obtain⟨h1,h2⟩:=zS hA.rel hA.size hi hb (by rw[hA.next]; exact hlt) hy' ((NK hle FL hrel).mono (Ren.lZ hb))
  have:=hA.size
  refine⟨⟨A,hA.next,h1,by simp; omega,fun c z hz=>?_,fun c hc=>?_⟩,h2⟩
  ·rcases hA.blk c z hz with k | ⟨d,rfl,hlt,elem,fr,hh⟩
   ·exact .inl k
   ·exact .inr ⟨d,rfl,hlt,elem,fr,by rw[heap_alloc_old w ob c (by omega)]; exact hh⟩
  ·unfold Ren.add
   rw[if_neg (fun e=>by subst e; rw[hA.old _ hc] at hb; cases hb)]
   exact hA.old c hc
 ·cases y <;> exact hle.elim
structure wD (P:Program) (nt:Nat) (ops:Array Oper) (ri:RI) (T0:Tree AV) (M0:RM) (ρ0:Ren) (w0:World) (k:Nat) (done rest:List Nat) (s:jM) (S:Nat→Prop) (ρ:Ren) (a:Act) (w:World) : Prop where
 es:ri.es=done++rest
 len:done.length=k
 closed:Closed ops.toList S
 dn:∀ x∈done,S x
 rs:∀ x∈rest,¬ S x
 lev:∀ (j:Nat) (r:Row),ri.rows[j]?=some r→fe r.kd=false→S j→r.lev≤k
 size:a.tmps.size=nt
 defers:a.defers=[]
 slot:yV ρ T0 ri.wr s.vals S a
 gX:bi P ρ s.M w
 step:Step M0.lo M0.next ρ0 w0 ρ w
 base:s.M.base=M0.base
 next:M0.next≤s.M.next
 bid:∀ j b,s.aJ.get j=some (some b)→M0.next≤b∧b<s.M.next∧(¬ S j→ρ b=none)∧j<ops.size
 qL:∀ j1 j2 b,s.aJ.get j1=some (some b)→s.aJ.get j2=some (some b)→j1=j2
variable {M0:RM} {ρ0:Ren} {w0:World} {k:Nat} {done rest:List Nat} {s:jM} {S:Nat→Prop} {ρ:Ren} {a:Act} {w:World}
theorem Lj (ht:iI P nt ops ri) (hI:wD P nt ops ri T0 M0 ρ0 w0 k done rest s S ρ a w) {i:Nat} {r:Row} (hr:ri.rows[i]?=some r) (hns:¬ S i) (hd:∀ e∈r.o.after.toList,Region.binds .any e=true→S e.on)
  (hok:lL ri r=true) : ∀ x∈r.o.op.operands,aa ρ (dR T0 ri.wr s.vals r.m x) (a.eval x):=by
 intro x hx
 have hx' : xU ri r x=true:=by
  unfold lL at hok
  exact List.all_eq_true.1 hok x (by simpa using hx)
 cases x with
 | tmp t =>
   obtain⟨h1,h2⟩:=hI.slot t
   simp only[dR,Act.eval]
   simp only[xU] at hx'
   cases hw:ri.wr.get t with
   | none =>
     simp only
     exact h2 fun j hj=>by rw[hw] at hj; cases hj
   | some j =>
     rw[hw] at hx'
     simp only
     cases hb:Nat.testBit r.m j with
     | true =>
       simp only
       exact h1 j hw (ht.ahead hI.closed hr hd hb)
     | false =>
       simp only
       refine h2 fun j' hj'=>?_
       rw[hw] at hj'; cases hj'
       simp only[hb,Bool.false_or,Bool.or_eq_true] at hx'
       obtain⟨e1,_⟩:=ht.row hr
       rcases hx' with hx' | hx'
       ·rw[aH hx',e1]; exact hns
       ·intro hS
        rw[aT,e1] at hx'
        obtain⟨o,ho,_⟩:=ht.wrs t j hw
        exact hns (ht.r9 hI.closed hS ho hx')
 | const v =>
   simp only[dR,iK,Act.eval]
   cases hv:eZ v with
   | none=>exact .top _
   | some u=>exact d9 hv
 | global g=>exact .top _
 | func f=>exact .fn _ _ _ _ _ rfl .nil .nil
theorem Bi (ht:iI P nt ops ri) (hI:wD P nt ops ri T0 M0 ρ0 w0 k done rest s S ρ a w) {i:Nat} {r:Row} (hr:ri.rows[i]?=some r) (hd:∀ e∈r.o.after.toList,Region.binds .any e=true→S e.on) {g:Option (AV × Bool)}
  (hg:guardOf ops ri.wr s.vals r=some g) : (H6 g→Region.wanted r.o (yielded ops a.tmps)=true)∧(AQ g→Region.wanted r.o (yielded ops a.tmps)=false):=by
 unfold guardOf at hg
 unfold Region.wanted
 split at hg
 ·rename_i hgu; simp only[hgu]; cases hg
  exact⟨fun _=>trivial,fun h=>h.elim⟩
 ·rename_i j want hgu
  simp only[hgu]
  split at hg <;> first | (cases hg; done) | skip
  rename_i d hdst
  split at hg <;> first | (cases hg; done) | skip
  rename_i j' hb hwr
  split at hg <;> first | (cases hg; done) | skip
  rename_i he
  cases hg
  have he:=aH he
  subst he
  have hv:=(hI.slot d).1 j' hwr (ht.ahead hI.closed hr hd hb)
  have hyv:yielded ops a.tmps j'=match a.tmps[d]? with | some (.bool b)=>some b | _=>none:=by
   unfold yielded; rw[hdst]; rfl
  have hget:∀ t:Bool,a.tmps.getD d undef=.bool t↔a.tmps[d]?=some (.bool t):=by
   intro t
   rw[Array.getD_eq_getD_getElem?]
   cases hx:a.tmps[d]? with
   | none=>simp[undef]
   | some y=>simp
  have off:(∀ b,a.tmps.getD d undef=.bool b→b≠want)→(yielded ops a.tmps j' == some want)=false:=by
   intro hn
   rw[hyv]
   cases hx:a.tmps[d]? with
   | none=>rfl
   | some y =>
     cases y <;> try rfl
     rename_i b
     have:=hn b ((hget b).2 hx)
     simpa using this
  constructor
  ·intro hon
   simp only[H6] at hon
   rw[hon] at hv
   have hc:=(av hv).1
   rw[hyv,(hget want).1 hc]; simp
  ·intro hoff
   simp only[AQ] at hoff
   refine off fun b hb'=>?_
   rcases hoff with hu | ⟨b',hu,hne⟩
   ·rw[hu] at hv
    obtain⟨vs,hc,hrl⟩:=sO hv
    rw[hc] at hb'; cases hb'
   ·rw[hu] at hv
    rw[(av hv).1] at hb'; cases hb'; exact hne
def Et (P:Program) (ops:Array Oper) (T0:Tree AV) (ri:RI) (k:Nat) (s:jM) (K:jM→Prop) : List Nat→Prop
 | []=>K s
 | x :: rest=>∃ r,nth ri.rows x=some r∧pq (guardOf ops ri.wr s.vals r) (eQ P r.o (dR T0 ri.wr s.vals r.m) s.M) (fun k=>k .undef s.M)
    (fun v M'=>Dp P ops T0 ri k ri.rows { vals:=s.vals.set x v,M:=M',aJ:=s.aJ } (nS P ops T0 ri (k + 1) rest { vals:=s.vals.set x v,M:=M',aJ:=s.aJ } K))
theorem zB (ht:iI P nt ops ri) {K:jM→Prop} {es:List Nat} (hf:Fr s.M) (hbd:∀ j b,s.aJ.get j=some (some b)→b<s.M.next) (h:nS P ops T0 ri k es s K) :
  ∃ s1,Et P ops T0 ri k s1 K es∧IK P ops T0 ri k 0 s s1:=by
 cases es with
 | nil =>
   rw[nS] at h
   exact qO ht ri.rows 0 s rfl hf hbd h
 | cons x rest =>
   rw[nS] at h
   obtain⟨s1,hk,hp⟩:=qO ht ri.rows 0 s rfl hf hbd h
   refine⟨s1, ?_,hp⟩
   split at hk
   ·cases hk
   ·rename_i r hr
    exact⟨r,hr,hk⟩
def Ot (P:Program) (ops:Array Oper) (T0:Tree AV) (ri:RI) (k:Nat) (s:jM) : Prop:=∀ r∈ri.rows,fe r.kd=false→fK ri.ms ri.es k r=true→lU P ops T0 ri.wr s r
theorem uN {acc:List Nat} : ∀ (es:List Edge) (e:Edge),e∈es→Region.binds .any e=true→Nat.testBit (iU acc es) e.on=true∧∀ j,Nat.testBit ((nth acc e.on).getD 0) j=true→Nat.testBit (iU acc es) j=true
 | [],e,h,_=>by cases h
 | x :: es,e,h,hb=>by
   simp only[iU]
   rcases List.mem_cons.1 h with rfl | h
   ·rw[hb]
    simp only
    refine⟨?_,fun j hj=>?_⟩
    ·rw[Nat.testBit_or,Nat.testBit_or,Nat.testBit_two_pow]; simp
    ·rw[Nat.testBit_or,Nat.testBit_or,hj]; simp
   ·obtain⟨h1,h2⟩:=uN (acc:=acc) es e h hb
    split
    ·refine⟨?_,fun j hj=>?_⟩
     ·rw[Nat.testBit_or,h1]; simp
     ·rw[Nat.testBit_or,h2 j hj]; simp
    ·exact⟨h1,h2⟩
theorem DT (ht:iI P nt ops ri) {q:Nat} {r:Row} (hq:ri.rows[q]?=some r) : ∃ pre,(∀ i,i<q→nth pre i=ri.ms[i]?)∧r.m=iU pre r.o.after.toList:=by
 obtain⟨g1,g2,g3,g4,g5⟩:=ht.row hq
 obtain⟨pre,h1,h2,h3⟩:=(qE ops.toList []).2 q r.o g2
 simp only[List.length_nil,Nat.zero_add] at h1 h2 h3
 refine⟨pre,fun i hi=>by rw[aT,h2 i hi,← ht.ms], ?_⟩
 rw[← ht.ms,g3] at h3
 exact Option.some.inj h3
theorem BR (ht:iI P nt ops ri) {q:Nat} {r:Row} (hq:ri.rows[q]?=some r) {e:Edge} (he:e∈r.o.after.toList) (hb:Region.binds .any e=true) : Nat.testBit r.m e.on=true:=by
 obtain⟨pre,_,h2⟩:=DT ht hq
 rw[h2]; exact(uN _ e he hb).1
theorem Gv (ht:iI P nt ops ri) : ∀ (q:Nat) {i:Nat} {r:Row} {o:Oper},ri.rows[q]?=some r→Nat.testBit r.m i=true→ops.toList[i]?=some o→∀ {e:Edge},e∈o.after.toList→Region.binds .any e=true→Nat.testBit r.m e.on=true:=by
 intro q
 induction q using Nat.strongRecOn with
 | _ q ih =>
   intro i r o hq hi ho e he hb
   obtain⟨g1,g2,g3,g4,g5⟩:=ht.row hq
   obtain⟨pre,h1,h2⟩:=DT ht hq
   have hi':=hi
   rw[h2] at hi'
   obtain⟨e0,he0,hb0,hcase⟩:=oz _ hi'
   have hlt:=ht.oV q r.o g2 e0 he0 hb0
   obtain⟨r0,hr0,_⟩:=ht.ex (j:=e0.on) (o:=ops.toList[e0.on]'(by have:=(List.getElem?_eq_some_iff.1 g2).1; omega)) (by simp)
   obtain⟨k1,k2,k3,k4,k5⟩:=ht.row hr0
   have hsub:∀ j,Nat.testBit r0.m j=true→Nat.testBit r.m j=true:=by
    intro j hj
    rw[h2]
    refine(uN _ e0 he0 hb0).2 j ?_
    rw[h1 e0.on hlt,k3]; exact hj
   rcases hcase with rfl | ⟨m,hm,hmi⟩
   ·rw[k2] at ho; cases ho
    exact hsub _ (BR ht hr0 he hb)
   ·rw[← aT,h1 e0.on hlt,k3] at hm
    cases hm
    exact hsub _ (ih e0.on hlt hr0 hmi ho he hb)
theorem uO {m m' : Nat} (h:∀ x,Nat.testBit m x=true→Nat.testBit m' x=true) : ∀ (es:List Nat) (i0 b b' : Nat),b≤b'→b'≤i0→iq m es i0 b≤iq m' es i0 b'
 | [],i0,b,b',hb,_=>by simpa [iq] using hb
 | x :: es,i0,b,b',hb,hi=>by
   simp only[iq]
   cases hm:Nat.testBit m x with
   | true =>
     rw[h x hm]
     exact uO h es (i0 + 1) _ _ (Nat.le_refl _) (Nat.le_refl _)
   | false =>
     cases hm' : Nat.testBit m' x with
     | true=>exact uO h es (i0 + 1) b (i0 + 1) (by omega) (Nat.le_refl _)
     | false=>exact uO h es (i0 + 1) b b' hb (by omega)
theorem MB (ht:iI P nt ops ri) {listed:Array Bool} (hsz:listed.size=ops.size) (hI:wD P nt ops ri T0 M0 ρ0 w0 k done rest s (bK listed) ρ a w) {i:Nat} {r:Row} (hi:i<ops.size) (hr:ri.rows[i]?=some r)
  (hd:∀ e∈r.o.after.toList,Region.binds .any e=true→bK listed e.on) (hk:fe r.kd=false) (nX:r.lev≤k) {v:AV} {v' : Value} {ρ' : Ren} {w' : World} (hvi:s.vals.get i=some v) (hv:aa ρ' v v') (hle:ρ.le ρ')
  (hw:bi P ρ' s.M w') (hst:Step M0.lo M0.next ρ w ρ' w') (LA:∀ j b,s.aJ.get j=some (some b)→¬ bK (listed.setIfInBounds i true) j→ρ' b=none) :
  wD P nt ops ri T0 M0 ρ0 w0 k done rest s (bK (listed.setIfInBounds i true)) ρ' (a.put r.o.dst v') w':=by
 have hS:∀ j,bK (listed.setIfInBounds i true) j↔bK listed j∨j=i:=lH (by omega)
 obtain⟨e1,e2,_⟩:=ht.row hr
 refine⟨hI.es,hI.len, ?_,fun x hx=>(hS x).2 (.inl (hI.dn x hx)), ?_, ?_, ?_, ?_, ?_,hw,hI.step.trans hst (Nat.le_refl _),hI.base,hI.next,fun j b hb=>⟨(hI.bid j b hb).1,(hI.bid j b hb).2.1,LA j b hb,(hI.bid j b hb).2.2.2⟩,hI.qL⟩
 ·intro j o ho hj e he hb
  rcases(hS j).1 hj with hj | rfl
  ·exact(hS _).2 (.inl (hI.closed j o ho hj e he hb))
  ·rw[e2] at ho; cases ho
   exact(hS _).2 (.inl (hd e he hb))
 ·intro x hx hl
  rcases(hS x).1 hl with hl | rfl
  ·exact hI.rs x hx hl
  ·have:x∈ri.es:=by rw[hI.es]; exact List.mem_append_right _ hx
   rw[ht.kR hr,hk] at this
   cases this
 ·intro j r' hr' hk' hj
  rcases(hS j).1 hj with hj | rfl
  ·exact hI.lev j r' hr' hk' hj
  ·rw[hr] at hr'; cases hr'; exact nX
 ·cases hdst:r.o.dst <;> simp[Act.put,hI.size]
 ·cases hdst:r.o.dst <;> simp[Act.put,hI.defers]
 ·exact uA ht (fun t=>⟨fun j h1 h2=>((hI.slot t).1 j h1 h2).mono hle,fun h=>((hI.slot t).2 h).mono hle⟩) hI.size hr hv hvi hS
theorem Lr (ht:iI P nt ops ri) {listed:Array Bool} (hsz:listed.size=ops.size) {i:Nat} {rest' : List Nat} (hI:wD P nt ops ri T0 M0 ρ0 w0 k done (i :: rest') s (bK listed) ρ a w) (ma:Ot P ops T0 ri k s) {r:Row} (hi:i<ops.size) (hr:ri.rows[i]?=some r)
  (hd:∀ e∈r.o.after.toList,Region.binds .any e=true→bK listed e.on) (hnd:i ∉ rest') {v:AV} {v' : Value} {ρ' : Ren} {w' : World} {M' : RM} (hv:aa ρ' v v') {K:jM→Prop}
  (haft:After P s.M ρ w M' ρ' w') (hre:Dp P ops T0 ri k ri.rows { vals:=s.vals.set i v,M:=M',aJ:=s.aJ } (nS P ops T0 ri (k + 1) rest' { vals:=s.vals.set i v,M:=M',aJ:=s.aJ } K)) :
  ∃ s3,wD P nt ops ri T0 M0 ρ0 w0 (k + 1) (done++[i]) rest' s3 (bK (listed.setIfInBounds i true)) ρ' (a.put r.o.dst v') w'∧Ot P ops T0 ri (k + 1) s3∧Et P ops T0 ri (k + 1) s3 K rest':=by
 have hS:∀ j,bK (listed.setIfInBounds i true) j↔bK listed j∨j=i:=lH (by omega)
 obtain⟨e1,e2,e3,e4,e5⟩:=ht.row hr
 have hmem:i∈ri.es:=by rw[hI.es]; simp
 have hke:=(ht.kR hr).1 hmem
 have hle:=haft.le hI.gX
 -- an alive row that was done does not look at the effect
 have Ru:ri.es[k]?=some i:=by
  rw[hI.es,List.getElem?_append_right (by rw[hI.len]; omega),hI.len]; simp
 have Py:∀ r'∈ri.rows,r'.lev≤k→Nat.testBit r'.m i=true→False:=by
  intro r' hr' hl hb
  obtain⟨q,hq⟩:=List.mem_iff_getElem?.1 hr'
  obtain⟨g1,g2,g3,g4,g5⟩:=ht.row hq
  have key:∀ (es:List Nat) (i0 iH k:Nat),es[k]?=some i→i0 + k + 1≤iq r'.m es i0 iH:=by
   intro es
   induction es with
   | nil=>intro i0 iH k h; simp at h
   | cons x es ih =>
     intro i0 iH k h
     simp only[iq]
     cases k with
     | zero =>
       simp at h; subst h
       rw[hb]
       simp only
       have mono:∀ (es:List Nat) (j iH:Nat),iH≤j→iH≤iq r'.m es j iH:=by
        intro es
        induction es with
        | nil=>intro j iH _; exact Nat.le_refl _
        | cons y es ih2 =>
          intro j iH hbj
          simp only[iq]
          split
          ·exact Nat.le_trans (by omega) (ih2 (j + 1) (j + 1) (Nat.le_refl _))
          ·exact ih2 (j + 1) iH (by omega)
       exact mono es (i0 + 1) (i0 + 1) (Nat.le_refl _)
     | succ k =>
       split
       ·have:=ih (i0 + 1) (i0 + 1) k (by simpa using h); omega
       ·have:=ih (i0 + 1) iH k (by simpa using h); omega
  have:=key ri.es 0 0 k Ru
  rw[← g4] at this
  omega
 obtain⟨FR,hrows⟩:=AB (s0:=s) ri.rows hre fun r' hr' f1 f2 f3=>by
  refine⟨ma r' hr' f1 ?_,fun j hj=>?_,rfl⟩
  ·unfold fK at f3 ⊢
   rw[Bool.and_eq_true] at f3 ⊢
   refine⟨aC.2 f2, ?_⟩
   have f4:=f3.2
   rw[List.all_eq_true] at f4 ⊢
   intro x hx
   refine f4 x ?_
   have:=List.take_subset_take_left ri.es (Nat.le_succ k)
   exact this hx
  ·simp only[Tree.aL]
   rw[if_neg]
   rintro rfl
   rcases hj with hj | hj
   ·exact Py r' hr' f2 hj
   ·obtain⟨q,hq⟩:=List.mem_iff_getElem?.1 hr'
    obtain⟨g1,_⟩:=ht.row hq
    have:q=j:=by omega
    subst this
    rw[hr] at hq; cases hq
    rw[f1] at hke; cases hke
 obtain⟨s3,hcont,hp⟩:=zB (s := { vals:=s.vals.set i v,M:=M',aJ:=s.aJ }) ht (haft.rel.fr) (fun j b hb=>Nat.lt_of_lt_of_le (hI.bid j b hb).2.1 haft.next) FR
 have hkeep:∀ j,bK listed j∨j=i→s3.vals.get j=(s.vals.set i v).get j:=by
  intro j hj
  refine(hp.keep j fun r' hr' _=>?_).1
  rintro⟨hl,hk'⟩
  rcases hj with hj | rfl
  ·have:=hI.lev j r' hr' hk' hj; omega
  ·rw[hr] at hr'; cases hr'; rw[hke] at hk'; cases hk'
 have hvi:s3.vals.get i=some v:=by rw[hkeep i (.inr rfl),Tree.aL,if_pos rfl]
 refine⟨s3,⟨by rw[hI.es]; simp,by simp[hI.len], ?_, ?_, ?_, ?_, ?_, ?_, ?_,hp.rel _ _ haft.rel,hI.step.trans (haft.step.Hg hI.base) hI.next, ?_, ?_, ?_, ?_⟩, ?_,hcont⟩
 ·intro j o ho hj e he hb
  rcases(hS j).1 hj with hj | rfl
  ·exact(hS _).2 (.inl (hI.closed j o ho hj e he hb))
  ·rw[e2] at ho; cases ho
   exact(hS _).2 (.inl (hd e he hb))
 ·intro x hx
  rcases List.mem_append.1 hx with hx | hx
  ·exact(hS x).2 (.inl (hI.dn x hx))
  ·simp at hx; subst hx; exact(hS x).2 (.inr rfl)
 ·intro x hx hl
  rcases(hS x).1 hl with hl | rfl
  ·exact hI.rs x (.tail _ hx) hl
  ·exact hnd hx
 ·intro j r' hr' hk' hj
  rcases(hS j).1 hj with hj | rfl
  ·have:=hI.lev j r' hr' hk' hj; omega
  ·rw[hr] at hr'; cases hr'; rw[hke] at hk'; cases hk'
 ·cases hdst:r.o.dst <;> simp[Act.put,hI.size]
 ·cases hdst:r.o.dst <;> simp[Act.put,hI.defers]
 ·refine uA ht (v:=v) (S:=bK listed) (fun t=>⟨fun j h1 h2=>?_,fun h=>((hI.slot t).2 h).mono hle⟩) hI.size hr hv hvi hS
  rw[hkeep j (.inl h2),Tree.aL]
  split
  ·rename_i e
   subst e
   exact absurd h2 (hI.rs j (.head _))
  ·exact((hI.slot t).1 j h1 h2).mono hle
 ·rw[hp.sub.1,← hI.base]; exact haft.base
 ·exact Nat.le_trans hI.next (Nat.le_trans haft.next hp.next)
 ·intro j b hb
  rcases hp.aJ j b hb with h | ⟨h,h',_,r',hr'⟩
  ·obtain⟨b1,b2,b3,b4⟩:=hI.bid j b h
   refine⟨b1,Nat.lt_of_lt_of_le b2 (Nat.le_trans haft.next hp.next),fun hj=>?_,b4⟩
   rw[haft.step.ext b b2]
   exact b3 fun hl=>hj ((hS j).2 (.inl hl))
  ·refine⟨Nat.le_trans hI.next (Nat.le_trans haft.next h),h',fun _=>haft.rel.fresh h, ?_⟩
   obtain⟨g1,g2,_⟩:=ht.row hr'
   have:=(List.getElem?_eq_some_iff.1 g2).1
   rw[Array.length_toList] at this
   exact this
 ·intro j1 j2 b h1 h2
  rcases Nat.lt_or_ge b M'.next with hlt | hge
  ·have q:∀ j,s3.aJ.get j=some (some b)→s.aJ.get j=some (some b):=by
    intro j hj
    rcases hp.aJ j b hj with k | ⟨k1,_⟩
    ·exact k
    ·simp only at k1; omega
   exact hI.qL j1 j2 b (q j1 h1) (q j2 h2)
  ·exact hp.qL j1 j2 b h1 h2 hge
 ·intro r' hr' f1 f3
  obtain⟨q,hq⟩:=List.mem_iff_getElem?.1 hr'
  obtain⟨g1,g2,g3,g4,g5⟩:=ht.row hq
  have f3':=f3
  unfold fK at f3'
  rw[Bool.and_eq_true] at f3'
  have hl:=aF f3'.1
  by_cases he:r'.lev=k + 1
  ·exact hp.done q r' hq (Nat.zero_le _) he f1
  ·have hl' : r'.lev≤k:=by omega
   refine(hrows r' hr' f1 hl' f3).keep (fun j hj=>?_) ?_ hp.sub
   ·refine(hp.keep j fun r2 hr2 _=>?_).1
    rintro⟨h1,h2⟩
    rcases hj with hj | hj
    ·
     have hjm:r2.lev≤r'.lev:=by
      obtain⟨q1,q2,q3,q4,q5⟩:=ht.row hr2
      have sub:∀ x,Nat.testBit r2.m x=true→Nat.testBit r'.m x=true:=by
       intro x hx
       have hcl:Closed ops.toList (fun i=>Nat.testBit r'.m i=true∨i=q):=by
        intro i o ho hi e he' hb'
        rcases hi with hi | rfl
        ·exact .inl (Gv ht _ hq hi ho he' hb')
        ·rw[g2] at ho; cases ho
         exact .inl (BR ht hq he' hb')
       rcases ht.r9 hcl (.inl hj) q2 (by rw[q3]; exact hx) with h | h
       ·exact h
       ·subst h
        exfalso
        have hlt:j<x:=by
         have hc:Closed ops.toList (fun i=>i<x):=fun i o ho hi e he' hb'=>by have:=ht.oV i o ho e he' hb'; omega
         exact ht.ahead hc hq (fun e he' hb'=>ht.oV x r'.o g2 e he' hb') hj
        have hlt2:x<j:=by
         have hc:Closed ops.toList (fun i=>i<j):=fun i o ho hi e he' hb'=>by have:=ht.oV i o ho e he' hb'; omega
         exact ht.ahead hc hr2 (fun e he' hb'=>ht.oV j r2.o q2 e he' hb') hx
        omega
      rw[q4,g4]
      exact uO sub ri.es 0 0 0 (Nat.le_refl _) (Nat.le_refl _)
     omega
    ·have:q=j:=by omega
     subst this
     rw[hq] at hr2; cases hr2; omega
   ·refine(hp.keep r'.i fun r2 hr2 _=>?_).2
    rw[g1,hq] at hr2; cases hr2
    rintro⟨h1,_⟩; omega
theorem J7 (hP:Cb P) (ht:iI P nt ops ri) (pG:∀ r∈ri.rows,lL ri r=true) {Q:Exit→Act→World→Prop} {K:jM→Prop}
  (hQ:∀ s ρ' a' w',K s→Step M0.lo M0.next ρ0 w0 ρ' w'→cO ρ' nt (rU T0 s.vals ri.rows) a'→bi P ρ' s.M w'→s.M.base=M0.base→M0.next≤s.M.next→Q .normal a' w') :
  ∀ (fuel:Nat) (listed:Array Bool) (k:Nat) (done rest:List Nat) (s:jM) (ρ:Ren) (a:Act) (w:World),listed.size=ops.size→listed.toList.count false≤fuel →
    wD P nt ops ri T0 M0 ρ0 w0 k done rest s (bK listed) ρ a w→Ot P ops T0 ri k s→Et P ops T0 ri k s K rest→wpAny P .any ops Q fuel listed a w:=by
 have fin:∀ (listed:Array Bool) (k:Nat) (done rest:List Nat) (s:jM) (ρ:Ren) (a:Act) (w:World),listed.size=ops.size→(∀ i,i<ops.size→bK listed i) →
   wD P nt ops ri T0 M0 ρ0 w0 k done rest s (bK listed) ρ a w→Et P ops T0 ri k s K rest→Q .normal a w:=by
  intro listed k done rest s ρ a w hsz hall hI hcont
  have hrest:rest=[]:=by
   cases rest with
   | nil=>rfl
   | cons x rest =>
     have hx:x∈ri.es:=by rw[hI.es]; simp
     rw[ht.es,kF] at hx
     obtain⟨j,o,hj,rfl,_⟩:=hx
     have:=(List.getElem?_eq_some_iff.1 hj).1
     exact absurd (hall (0 + j) (by simpa using this)) (hI.rs _ (.head _))
  subst hrest
  have hcont:K s:=hcont
  refine hQ s ρ a w hcont hI.step ⟨hI.size,fun t=>?_,hI.defers⟩ hI.gX hI.base hI.next
  obtain⟨g1,g2⟩:=hI.slot t
  refine tF t _ ri.rows T0 (fun r hr hd=>?_) ?_
  ·obtain⟨q,hq⟩:=List.mem_iff_getElem?.1 hr
   obtain⟨e1,e2,_⟩:=ht.row hq
   have hql:=(List.getElem?_eq_some_iff.1 e2).1
   have:=g1 r.i (ht.dst q r hq t hd).1 (by rw[e1]; exact hall q (by simpa using hql))
   exact this
  ·by_cases hex:∃ j,ri.wr.get t=some j
   ·obtain⟨j,hj⟩:=hex
    obtain⟨o,ho,hdo⟩:=ht.wrs t j hj
    obtain⟨r,hr,rfl⟩:=ht.ex ho
    exact .inl ⟨r,List.mem_of_getElem? hr,hdo⟩
   ·exact .inr (g2 fun j hj=>absurd ⟨j,hj⟩ hex)
 intro fuel
 induction fuel with
 | zero =>
   intro listed k done rest s ρ a w hsz hcnt hI ma hcont
   have hall:∀ i,i<ops.size→bK listed i:=fun i hi=>BD (by omega) (by omega)
   refine⟨?_,fin listed k done rest s ρ a w hsz hall hI hcont⟩
   rw[List.eq_nil_iff_forall_not_mem]
   intro i hi
   obtain⟨h1,h2,_⟩:=qP hsz hi
   exact h2 (hall i h1)
 | succ fuel ih =>
   intro listed k done rest s ρ a w hsz hcnt hI ma hcont
   refine⟨fun hr=>fin listed k done rest s ρ a w hsz (vF ht hsz hr) hI hcont,fun i hi=>?_⟩
   obtain⟨hilt,hnl,o,ho,hd⟩:=qP hsz hi
   obtain⟨r,hr,rfl⟩:=ht.ex (j:=i) (o:=o) (by rw[Array.getElem?_toList]; exact ho)
   obtain⟨e1,e2,e3,e4,e5⟩:=ht.row hr
   have hrm:=List.mem_of_getElem? hr
   have he:=Lj ht hI hr hnl hd (pG r hrm)
   unfold wpOp
   simp only[ho]
   cases hk:fe r.kd with
   | false =>
     have hall:fK ri.ms ri.es k r=true:=by
      unfold fK
      rw[Bool.and_eq_true,List.all_eq_true]
      constructor
      ·rw[aC,e4]
       rcases oF (m:=r.m) ri.es 0 0 with h | ⟨q,x,a1,a2,a3⟩
       ·omega
       ·have hx:=ht.ahead hI.closed hr hd a2
        rw[a3]
        rcases Nat.lt_or_ge q k with h | h
        ·omega
        ·rw[hI.es,List.getElem?_append_right (by rw[hI.len]; exact h)] at a1
         exact absurd hx (hI.rs x (List.mem_of_getElem? a1))
      ·intro x hx
       rw[hI.es,List.take_left' hI.len] at hx
       rw[Bool.not_eq_true',← Bool.not_eq_true,e1,aT]
       intro hb
       have hxe:x∈ri.es:=by rw[hI.es]; exact List.mem_append_left _ hx
       rw[ht.es,kF] at hxe
       obtain⟨j,o',hj,hxj,_⟩:=hxe
       rw[Nat.zero_add] at hxj; subst hxj
       exact hnl (ht.r9 hI.closed (hI.dn x hx) hj hb)
     have nX:r.lev≤k:=by
      unfold fK at hall
      rw[Bool.and_eq_true] at hall
      exact aF hall.1
     have hok:=ma r hrm hk hall
     have hnb:∀ j b,s.aJ.get j=some (some b)→¬ bK (listed.setIfInBounds i true) j→ρ b=none:=fun j b hb hj =>
      (hI.bid j b hb).2.2.1 fun hl=>hj ((lH (by omega) j).2 (.inl hl))
     have next:∀ {v:AV} {v' : Value} {ρ' : Ren} {w' : World},s.vals.get i=some v→aa ρ' v v'→ρ.le ρ'→bi P ρ' s.M w'→Step M0.lo M0.next ρ w ρ' w' →
       (∀ j b,s.aJ.get j=some (some b)→¬ bK (listed.setIfInBounds i true) j→ρ' b=none)→wpAny P .any ops Q fuel (listed.setIfInBounds i true) (a.put r.o.dst v') w':=by
      intro v v' ρ' w' hvi hv hle hw hst hb
      exact ih _ k done rest s ρ' _ w' (by simpa using hsz) (count_set (by omega) hnl hcnt) (MB ht hsz hI hilt hr hd hk nX hvi hv hle hw hst hb) ma hcont
     have yC:ρ.le ρ:=fun _ _ h=>h
     obtain⟨g,hg,hcase⟩:=hok
     obtain⟨gon,LZ⟩:=Bi ht hI hr hd hg
     rw[e1] at hcase
     rcases hcase with⟨hon,v,hvi,hkd⟩ | ⟨hoff,hvi⟩
     ·rw[gon hon]
      simp only[if_true]
      refine .inl ?_
      have val:iy P r.o (dR T0 ri.wr s.vals r.m) s.M v→r.o.wp P a w (wpAny P .any ops Q fuel (listed.setIfInBounds i true)) Q:=by
       intro hgv
       obtain⟨v',h1,h2⟩:=hgv ρ w a.eval s.M (RM.Sub.refl _) hI.gX he
       exact gQ r.o h1 (next hvi h2 yC hI.gX (Step.refl _ _ _) hnb)
      cases hkk:r.kd with
      | pure=>rw[hkk] at hkd; exact val (hkd _)
      | read=>rw[hkk] at hkd; exact val hkd
      | kR=>rw[hkk] at hkd; exact hkd.elim
      | alloc =>
        rw[hkk] at hkd
        obtain⟨x,mk,b,⟨y,hx,hle⟩,hbi,hy,hmk⟩:=hkd
        obtain⟨d,ob,u,inf,hrun,Q8,hrel,MX⟩:=kY he hx w
        obtain⟨b1,b2,b3,b4⟩:=hI.bid i b hbi
        have hbn:=b3 hnl
        have hd' : bi P ρ s.M (if d=true then w.drew else w):=by cases d <;> simp[hI.gX,hI.gX.drew]
        have hsz' : (if d=true then w.drew else w).heap.size=w.heap.size:=by cases d <;> simp
        have hst' : Step M0.lo M0.next ρ w ρ (if d=true then w.drew else w):=by cases d <;> simp[Step.refl,Step.drew]
        obtain⟨h1,h2⟩:=Li hd' (by omega) hbn b2 hy hle hrel
        replace h2:=h2.Hg hI.base
        refine gQ r.o hrun (next hvi (hmk▸MX _ b (by simp[Ren.add])) (Ren.lZ hbn) h1 (hst'.trans h2 b1) fun j b' hb' hj=>?_)
        have hne:b'≠b:=by
         intro e
         subst e
         have hji:j≠i:=fun e=>hj ((lH (by omega) j).2 (.inr e))
         exact hji (hI.qL j i b' hb' hbi)
        unfold Ren.add
        rw[if_neg hne]
        exact hnb j b' hb' hj
     ·rw[LZ hoff]
      simp only[Bool.false_eq_true,if_false]
      exact next hvi (.tup _ _ .nil) yC hI.gX (Step.refl _ _ _) hnb
   | true =>
     have hie:i∈ri.es:=(ht.kR hr).2 hk
     rw[hI.es] at hie
     have hir:i∈rest:=by
      rcases List.mem_append.1 hie with h | h
      ·exact absurd (hI.dn i h) hnl
      ·exact h
     cases rest with
     | nil=>cases hir
     | cons x rest' =>
       have hxi:x=i:=by
        rcases List.mem_cons.1 hir with e | hm
        ·exact e.symm
        ·obtain⟨l1,l2,hl⟩:=List.append_of_mem hm
         have:=ht.chain (done++x :: l1) i l2 (by rw[hI.es,hl]; simp) x (by simp)
         rw[e3] at this
         exact absurd (ht.ahead hI.closed hr hd this) (hI.rs x (.head _))
       subst hxi
       have hnd:x ∉ rest':=by
        intro hm
        obtain⟨l1,l2,hl⟩:=List.append_of_mem hm
        have:=ht.chain (done++x :: l1) x l2 (by rw[hI.es,hl]; simp) x (by simp)
        rw[e3] at this
        exact hnl (ht.ahead hI.closed hr hd this)
       obtain⟨r',hr',hgs⟩:=hcont
       rw[aT,hr] at hr'; cases hr'
       obtain⟨g,hg,hcase⟩:=mi hgs
       obtain⟨gon,LZ⟩:=Bi ht hI hr hd hg
       have next:∀ {v:AV} {v' : Value} {ρ' : Ren} {w' : World} {M' : RM},aa ρ' v v'→After P s.M ρ w M' ρ' w' →
         Dp P ops T0 ri k ri.rows { vals:=s.vals.set x v,M:=M',aJ:=s.aJ } (nS P ops T0 ri (k + 1) rest' { vals:=s.vals.set x v,M:=M',aJ:=s.aJ } K) →
         wpAny P .any ops Q fuel (listed.setIfInBounds x true) (a.put r.o.dst v') w':=by
        intro v v' ρ' w' M' hv haft hre
        obtain⟨s3,h1,h2,h3⟩:=Lr ht hsz hI ma hilt hr hd hnd hv haft hre
        exact ih _ (k + 1) _ rest' s3 ρ' _ w' (by simpa using hsz) (count_set (by omega) hnl hcnt) h1 h2 h3
       rcases hcase with⟨hon,hn⟩ | ⟨hoff,hn⟩
       ·rw[gon hon]
        simp only[if_true]
        exact .inl (Io (zN hP (fun _=>rfl) hn) hI.gX he fun v v' M' ρ' w' haft hv hk=>next hv haft hk)
       ·rw[LZ hoff]
        simp only[Bool.false_eq_true,if_false]
        exact next (.tup _ _ .nil) (After.refl hI.gX) hn
theorem Ac {vals:Tree AV} {t:Nat} : ∀ (rows:List Row) (T:Tree AV),(∀ r∈rows,r.o.dst≠some t)→(rU T vals rows).get t=T.get t
 | [],T,_=>rfl
 | r :: rows,T,h=>by
   simp only[rU]
   cases hd:r.o.dst with
   | none=>exact Ac rows T fun r' hr'=>h r' (.tail _ hr')
   | some d =>
     simp only
     rw[Ac rows _ fun r' hr'=>h r' (.tail _ hr'),Tree.aL,if_neg]
     intro e; subst e
     exact h r (.head _) hd
theorem GK (hP:Cb P) {id:Nat} {T:Tree AV} {M:RM} {K:Tree AV→RM→Prop} {Q:Exit→Act→World→Prop} (hM:After P M0 ρ0 w0 M ρ w) (hA:cO ρ nt T a)
  (hQ:∀ T' M' ρ' a' w',After P M0 ρ0 w0 M' ρ' w'→cO ρ' nt T' a'→K T' M'→(∀ t,(∀ o∈ops.toList,o.dst≠some t)→T'.get t=T.get t)→Q .normal a' w') (h:Ji P nt ops T M K) : (Code.region id ops true).wp P Q a w:=by
 unfold Ji at h
 split at h <;> first | (cases h; done) | skip
 rename_i ri hri
 split at h <;> first | (cases h; done) | skip
 rename_i pG
 have ht:=sH hri
 obtain⟨s1,h1,hp⟩:=zB ht hM.rel.fr (fun j b hb=>by simp[Tree.get] at hb) h
 have hno:∀ i,¬ bK (Array.replicate ops.size false) i:=by
  intro i h
  unfold bK at h
  simp only[Array.getD_eq_getD_getElem?,Array.getElem?_replicate] at h
  split at h <;> simp at h
 refine wp_region_any hP.mixed (J7 (M0:=M0) (ρ0:=ρ0) (w0:=w0) (T0:=T) hP ht (fun r hr=>List.all_eq_true.1 pG r hr) (fun s ρ' a' w' k0 k1 k2 k3 k4 k5=>hQ _ _ ρ' a' w' ⟨k1,k3,k4,k5⟩ k2 k0 (fun t hnt=>Ac ri.rows T fun r hr=>by
   obtain⟨q,hq⟩:=List.mem_iff_getElem?.1 hr
   exact hnt r.o (List.mem_of_getElem? (ht.row hq).2.1))) ops.size _ 0 [] ri.es s1 ρ a _ (by simp) (by simp) ?_ ?_ h1)
 ·refine⟨rfl,rfl,fun i o _ hi=>absurd hi (hno i),(fun x hx=>by cases hx),fun x _=>hno x,fun j r _ _ hj=>absurd hj (hno j),hA.size,hA.defers,fun t=>⟨fun j _ hj=>absurd hj (hno j),fun _=>hA.val t⟩,hp.rel _ _ hM.rel.drew,hM.step.trans (Step.drew (n:=M0.next)) (Nat.le_refl _),by rw[hp.sub.1]; exact hM.base,Nat.le_trans hM.next hp.next,fun j b hb'=>?_,fun j1 j2 b b1 b2=>?_⟩
  ·rcases hp.aJ j b hb' with h | ⟨h,h',_,r,hr⟩
   ·simp[Tree.get] at h
   ·refine⟨Nat.le_trans hM.next h,h',fun _=>hM.rel.fresh h, ?_⟩
    obtain⟨g1,g2,_⟩:=ht.row hr
    have:=(List.getElem?_eq_some_iff.1 g2).1
    rw[Array.length_toList] at this
    exact this
  ·rcases hp.aJ j1 b b1 with h | ⟨h,_⟩
   ·simp[Tree.get] at h
   ·exact hp.qL j1 j2 b b1 b2 h
 ·intro r hr hk hal
  obtain⟨q,hq⟩:=List.mem_iff_getElem?.1 hr
  unfold fK at hal
  rw[Bool.and_eq_true] at hal
  exact hp.done q r hq (Nat.zero_le _) (by have:=aF hal.1; omega) hk
end
def F5:Option Tmp→Nat
 | some d=>2 ^ d
 | none=>0
def Kj:Operand→Nat
 | .tmp t=>2 ^ t
 | _=>0
def Lp:List Operand→Nat
 | []=>0
 | x :: xs=>Kj x ||| Lp xs
def MV (L m:Nat) : Nat:=L ^^^ (L &&& m)
def BK:List Oper→Nat
 | []=>0
 | o :: os=>F5 o.dst ||| BK os
def dU:Nat→Code→Nat
 | 0,_=>0
 | f + 1,c=>match c with
   | .region _ ops _=>BK ops.toList
   | .seq a b=>dU f a ||| dU f b
   | .cond _ a b=>dU f a ||| dU f b
   | .block _ c=>dU f c
   | .loop c=>dU f c
   | .scope c=>dU f c
   | _=>0
def Ih:List Oper→Nat→Nat
 | [],L=>L
 | o :: os,L=>MV (Ih os L) (F5 o.dst) ||| Lp o.op.operands.toList
def Lh:List (Nat × Nat)→Nat→Nat
 | [],_=>0
 | (i,L) :: r,id=>match Nat.beq i id with
   | true=>L
   | false=>Lh r id
def eu (ret:Nat) : Nat→List (Nat × Nat)→Code→Nat→Nat
 | 0,_,_,_=>0
 | f + 1,env,c,L=>match c with
   | .skip=>L
   | .region _ ops _=>Ih ops.toList L
   | .seq a b=>eu ret f env a (eu ret f env b L)
   | .cond c a b=>Kj c ||| eu ret f env a L ||| eu ret f env b L
   | .block id c=>eu ret f ((id,L) :: env) c L
   | .loop c=>eu ret f env c (eu ret f env c 0)
   | .exit id=>Lh env id
   | .ret=>ret
   | .scope c=>eu ret f env c L
   | .label _=>L
   | _=>0
def cap2 (n:Nat) : Nat:=match n with | 0=>0 | 1=>1 | _=>2
def mM (id:Nat) : Nat→Code→Nat
 | 0,_=>2
 | f + 1,c=>match c with
   | .seq a b=>cap2 (mM id f a + mM id f b)
   | .cond _ a b=>cap2 (mM id f a + mM id f b)
   | .block _ c=>mM id f c
   | .loop c=>mM id f c
   | .exit i=>match Nat.beq i id with | true=>1 | false=>0
   | _=>0
def qg:Nat→Code→Nat
 | 0,_=>2
 | f + 1,c=>match c with
   | .skip=>1
   | .region _ _ _=>1
   | .seq a b=>cap2 (qg f a * qg f b)
   | .cond _ a b=>cap2 (qg f a + qg f b)
   | .block id c=>cap2 (qg f c + mM id f c)
   | .scope c=>qg f c
   | .label _=>1
   | _=>0
def sD (m:Nat) : Nat→Nat→List Nat
 | _,0=>[]
 | i,n + 1=>match Nat.testBit m i with
   | true=>i :: sD m (i + 1) n
   | false=>sD m (i + 1) n
def bitsOf (m nt:Nat) : List Nat:=sD m 0 nt
def ru (T:Tree AV) : List Nat→List AV
 | []=>[]
 | t :: ts=>(T.get t).getD .top :: ru T ts
def aj:List AV→Nat→AV
 | [],_=>.top
 | x :: _,0=>x
 | _ :: xs,n + 1=>aj xs n
def uR (T:Tree AV) : List Nat→Tree AV
 | []=>T
 | t :: ts=>uR (T.set t .top) ts
def E9 (T:Tree AV) (xs:List AV) : Nat→List Nat→Tree AV
 | _,[]=>T
 | i,t :: ts=>E9 (T.set t (aj xs i)) xs (i + 1) ts
def uD (T:Tree AV) (asg vs:List Nat) (xs:List AV) : Tree AV:=E9 (uR T asg) xs 0 vs
def au (x:AV) (p q:Prop) : Prop :=
 match x with
 | .sc (.bool b)=>(b=true→p)∧(b=false→q)
 | _=>False
def fA (f:(List AV→RM→Prop)→Prop) (g:List AV→RM→Prop) : Prop:=f g
def dN (body:(List AV→RM→Prop)→List AV→RM→Prop) (xs:List AV) (M:RM) : Prop :=
 ∃ (I:Nat→List AV→RM→Prop) (n:Nat),I n xs M∧∀ m ys M',I m ys M'→body (fun zs M''=>∃ m',m'<m∧I m' zs M'') ys M'
abbrev K3:=Ex→Tree AV→RM→Prop
def wpC (P:Program) (nt ret:Nat) : Nat→Code→List (Nat × Nat)→Nat→Tree AV→RM→K3→Prop
 | 0,_,_,_,_,_,_=>False
 | f + 1,c,env,L,T,M,K=>match c with
   | .skip=>K .normal T M
   | .region _ ops false=>CF P nt ops ops.toList T M (fun T' M'=>K .normal T' M')
   | .region _ ops true=>Ji P nt ops T M (fun T' M'=>K .normal T' M')
   | .seq a b=>match Nat.ble (qg f a) 1 with
     | true=>wpC P nt ret f a env (eu ret f env b L) T M (fun e T' M'=>match e with
       | .normal=>wpC P nt ret f b env L T' M' K
       | e=>K e T' M')
     | false=>fA (fun J=>wpC P nt ret f a env (eu ret f env b L) T M (fun e T' M'=>match e with
       | .normal=>J (ru T' (bitsOf (dU f a &&& eu ret f env b L) nt)) M'
       | e=>K e T' M'))
       (fun xs M'=>wpC P nt ret f b env L (uD T (bitsOf (dU f a) nt) (bitsOf (dU f a &&& eu ret f env b L) nt) xs) M' K)
   | .cond c a b=>au (iK T c) (wpC P nt ret f a env L T M K) (wpC P nt ret f b env L T M K)
   | .block id c=>wpC P nt ret f c ((id,L) :: env) L T M (fun e T' M'=>match e with
     | .exit i=>match Nat.beq i id with
       | true=>K .normal T' M'
       | false=>K (.exit i) T' M'
     | e=>K e T' M')
   | .loop c=>dN (fun next xs M'=>wpC P nt ret f c env (eu ret f env c (eu ret f env c 0)) (uD T (bitsOf (dU f c) nt) (bitsOf (dU f c &&& eu ret f env c (eu ret f env c 0)) nt) xs) M'
     (fun e T' M'=>match e with
      | .normal=>next (ru T' (bitsOf (dU f c &&& eu ret f env c (eu ret f env c 0)) nt)) M'
      | e=>K e T' M'))
     (ru T (bitsOf (dU f c &&& eu ret f env c (eu ret f env c 0)) nt)) M
   | .exit id=>K (.exit id) T M
   | .ret=>K .ret T M
   | .scope c=>wpC P nt ret f c env L T M K
   | .label _=>K .normal T M
   | _=>False
def LC (P:Program) (T:Tree AV) (M:RM) (r:ResultVar) (K:AV→Prop) : Prop :=
 match r with
 | .tmp t=>K ((T.get t).getD .top)
 | .cell a t=>match bB P t with
   | some false=>az M ((T.get a).getD .top) K
   | some true=>match aG P t with
     | some n=>dK M ((T.get a).getD .top) n K
     | none=>False
   | none=>False
def Mk (P:Program) (T:Tree AV) (M:RM) : List ResultVar→(List AV→Prop)→Prop
 | [],K=>K []
 | r :: rs,K=>LC P T M r (fun v=>Mk P T M rs (fun vs=>K (v :: vs)))
def OB (Q:af) (M:RM) : List AV→Prop
 | [v]=>Q v M
 | vs=>Q (.tup vs) M
def CB:List ResultVar→Nat
 | []=>0
 | .tmp t :: rs=>2 ^ t ||| CB rs
 | .cell a _ :: rs=>2 ^ a ||| CB rs
def K9 (P:Program) (fn:Func) (c:Code) (args:List AV) (M:RM) (Q:af) : Prop :=
 wpC P (args.length + (fn.ntmps - args.length)) (CB fn.results.toList) 1000 c [] 0 (Tree.ofList args 0 .leaf) M
  (fun e T M'=>match e with
   | .exit _=>False
   | _=>Mk P T M' fn.results.toList (OB Q M'))
section
variable {P:Program} {nt ret:Nat}
def JG (P:Program) (nt:Nat) (M0:RM) (ρ0:Ren) (w0:World) (T:Tree AV) (asg:Nat) (K:K3) (e:Exit) (a:Act) (w:World) : Prop :=
 ∃ x T' M' ρ',e=CS x∧After P M0 ρ0 w0 M' ρ' w∧cO ρ' nt T' a∧(∀ t,Nat.testBit asg t=false→T'.get t=T.get t)∧K x T' M'
theorem FP {T:Tree AV} : ∀ (vs:List Nat) (i:Nat),aj (ru T vs) i=match vs[i]? with | some t=>(T.get t).getD .top | none=>.top
 | [],i=>by simp[ru,aj]
 | t :: vs,0=>by simp[ru,aj]
 | t :: vs,i + 1=>by simp[ru,aj,FP vs i]
theorem wU:∀ (asg:List Nat) (T:Tree AV) (t:Nat),(uR T asg).get t=if t∈asg then some .top else T.get t
 | [],T,t=>by simp[uR]
 | d :: asg,T,t=>by
   simp only[uR,wU asg,Tree.aL,List.mem_cons]
   by_cases h1:t∈asg
   ·simp[h1]
   ·by_cases h2:t=d <;> simp[h1,h2]
theorem zU:∀ (vs:List Nat) (T:Tree AV) (xs:List AV) (i t:Nat),(t ∉ vs∧(E9 T xs i vs).get t=T.get t)∨∃ j,vs[j]?=some t∧(E9 T xs i vs).get t=some (aj xs (i + j))
 | [],T,xs,i,t=>.inl ⟨by simp,rfl⟩
 | d :: vs,T,xs,i,t=>by
   simp only[E9]
   rcases zU vs (T.set d (aj xs i)) xs (i + 1) t with⟨h1,h2⟩ | ⟨j,h1,h2⟩
   ·rw[Tree.aL] at h2
    by_cases e:t=d
    ·rw[if_pos e] at h2
     exact .inr ⟨0,by simp[e],h2⟩
    ·rw[if_neg e] at h2
     exact .inl ⟨by simp[e,h1],h2⟩
   ·exact .inr ⟨j + 1,by simpa using h1,by rw[h2]; congr 2; omega⟩
theorem ul {m:Nat} : ∀ (n i t:Nat),t∈sD m i n↔i≤t∧t<i + n∧Nat.testBit m t=true
 | 0,i,t=>by simp[sD]; omega
 | n + 1,i,t=>by
   simp only[sD]
   split
   ·rename_i h
    rw[List.mem_cons,ul n (i + 1) t]
    constructor
    ·rintro(rfl | ⟨a,b,c⟩)
     ·exact⟨Nat.le_refl _,by omega,h⟩
     ·exact⟨by omega,by omega,c⟩
    ·rintro⟨a,b,c⟩
     by_cases e:t=i
     ·exact .inl e
     ·exact .inr ⟨by omega,by omega,c⟩
   ·rename_i h
    rw[ul n (i + 1) t]
    constructor
    ·rintro⟨a,b,c⟩; exact⟨by omega,by omega,c⟩
    ·rintro⟨a,b,c⟩
     have:t≠i:=fun e=>by subst e; rw[h] at c; cases c
     exact⟨by omega,by omega,c⟩
theorem oJ {m n t:Nat} : t∈bitsOf m n↔t<n∧Nat.testBit m t=true:=by
 unfold bitsOf; rw[ul]; simp
theorem xQ {ρ:Ren} {T T' : Tree AV} {a:Act} {asg:Nat} {vs:List Nat} (h:cO ρ nt T' a) (hge:∀ t,nt≤t→aa ρ ((T.get t).getD .top) undef) (hk:∀ t,Nat.testBit asg t=false→T'.get t=T.get t) : cO ρ nt (uD T (bitsOf asg nt) vs (ru T' vs)) a:=by
 refine⟨h.size,fun t=>?_,h.defers⟩
 unfold uD
 rcases zU vs (uR T (bitsOf asg nt)) (ru T' vs) 0 t with⟨_,h2⟩ | ⟨j,h1,h2⟩
 ·rw[h2,wU]
  split
  ·exact .top _
  ·rename_i hm
   by_cases hb:Nat.testBit asg t=true
   ·have hge' : nt≤t:=by
     rcases Nat.lt_or_ge t nt with hlt | hge
     ·exact absurd (oJ.2 ⟨hlt,hb⟩) hm
     ·exact hge
    have hv:a.tmps.getD t undef=undef:=by
     rw[Array.getD_eq_getD_getElem?,Array.getElem?_eq_none (by rw[h.size]; exact hge')]; rfl
    rw[hv]; exact hge t hge'
   ·rw[← hk t (by simpa using hb)]
    exact h.val t
 ·rw[h2,Nat.zero_add,FP,h1]
  exact h.val t
theorem Cm {T:Tree AV} {asg:Nat} {vs:List Nat} {xs:List AV} (hvs:∀ t∈vs,Nat.testBit asg t=true) (t:Nat) (h:Nat.testBit asg t=false) : (uD T (bitsOf asg nt) vs xs).get t=T.get t:=by
 unfold uD
 rcases zU vs (uR T (bitsOf asg nt)) xs 0 t with⟨_,h2⟩ | ⟨j,h1,h2⟩
 ·rw[h2,wU,if_neg]
  intro hm
  rw[(oJ.1 hm).2] at h; cases h
 ·have:=hvs t (List.mem_of_getElem? h1)
  rw[h] at this; cases this
theorem cO.ge {ρ:Ren} {T:Tree AV} {a:Act} (h:cO ρ nt T a) : ∀ t,nt≤t→aa ρ ((T.get t).getD .top) undef:=by
 intro t ht
 have:=h.val t
 rw[Array.getD_eq_getD_getElem?,Array.getElem?_eq_none (by rw[h.size]; exact ht)] at this
 exact this
theorem zA {c:Code} {Q:Exit→Act→World→Prop} : ∀ {n m:Nat} {a:Act} {w:World},n≤m→Code.rounds P c Q n a w→Code.rounds P c Q m a w
 | 0,_,_,_,_,h=>h.elim
 | n + 1,m + 1,a,w,hle,h=>by
   rw[rounds_succ] at h ⊢
   refine wp_mono h fun e a' w' hp=>?_
   cases e with
   | normal=>exact zA (Nat.le_of_succ_le_succ hle) hp
   | exit id=>exact hp
   | ret=>exact hp
   | goto l=>exact hp
   | panic c=>exact hp
   | outgrown=>exact hp
theorem uy {t:Nat} : ∀ (l:List Oper),Nat.testBit (BK l) t=false→∀ o∈l,o.dst≠some t
 | [],_,o,ho=>by cases ho
 | x :: l,h,o,ho=>by
   simp only[BK,Nat.testBit_or,Bool.or_eq_false_iff] at h
   rcases List.mem_cons.1 ho with rfl | ho
   ·intro e
    rw[e] at h
    simp[F5,Nat.testBit_two_pow] at h
   ·exact uy l h.2 o ho
theorem KS {ρ:Ren} {x:AV} {u:Value} {p q:Prop} (h:au x p q) (hx:aa ρ x u) : ∃ b,u=.bool b∧(b=true→p)∧(b=false→q):=by
 unfold au at h
 split at h <;> first | (cases h; done) | skip
 rename_i b
 exact⟨b,(av hx).1,h.1,h.2⟩
theorem J3 (hP:Cb P) : ∀ (f:Nat) (c:Code) (env:List (Nat × Nat)) (L:Nat) (T:Tree AV) (M:RM) (K:K3),wpC P nt ret f c env L T M K →
  ∀ (M0:RM) (ρ0:Ren) (w0:World) (ρ:Ren) (a:Act) (w:World),After P M0 ρ0 w0 M ρ w→cO ρ nt T a→c.wp P (JG P nt M0 ρ0 w0 T (dU f c) K) a w:=by
 intro f
 induction f with
 | zero=>intro c env L T M K h; exact h.elim
 | succ f ih =>
   intro c env L T M K h M0 ρ0 w0 ρ a w hM hA
   cases c with
   | skip=>exact wp_skip ⟨.normal,T,M,ρ,rfl,hM,hA,fun _ _=>rfl,h⟩
   | region id ops d =>
     cases d with
     | false =>
       refine wp_region ?_
       have:=tX (nt:=nt) hP (ops:=ops) (Q:=JG P nt M0 ρ0 w0 T (dU (f + 1) (.region id ops false)) K) (K:=fun T' M'=>K .normal T' M') (M0:=M0) (ρ0:=ρ0) (w0:=w0) (T0:=T)
        (fun T' M' ρ' a' w' k1 k2 k3 k4=>⟨.normal,T',M',ρ',rfl,k1,k2,fun t ht=>k4 t (uy _ ht),k3⟩) ops.toList 0 (by simp) hA hM (fun _ _=>rfl) h
       rw[Array.length_toList,← List.range_eq_range'] at this
       exact this
     | true =>
       exact GK (nt:=nt) (T:=T) hP hM hA (fun T' M' ρ' a' w' k1 k2 k3 k4=>⟨.normal,T',M',ρ',rfl,k1,k2,fun t ht=>k4 t (uy _ ht),k3⟩) h
   | seq c1 c2 =>
     simp only[wpC] at h
     refine wp_seq ?_
     split at h
     ·refine wp_mono (ih c1 _ _ _ _ _ h M0 ρ0 w0 ρ a w hM hA) fun e a' w' hp=>?_
      obtain⟨x,T1,M1,ρ1,rfl,k1,k2,k3,k4⟩:=hp
      cases x with
      | normal =>
        refine wp_mono (ih c2 _ _ _ _ _ k4 M0 ρ0 w0 ρ1 a' w' k1 k2) fun e a2 w2 hp=>?_
        obtain⟨x,T2,M2,ρ2,he,q1,q2,q3,q4⟩:=hp
        exact⟨x,T2,M2,ρ2,he,q1,q2,fun t ht=>by
         simp only[dU,Nat.testBit_or,Bool.or_eq_false_iff] at ht
         rw[q3 t ht.2,k3 t ht.1],q4⟩
      | exit i=>exact⟨.exit i,T1,M1,ρ1,rfl,k1,k2,fun t ht=>by
        simp only[dU,Nat.testBit_or,Bool.or_eq_false_iff] at ht
        exact k3 t ht.1,k4⟩
      | ret=>exact⟨.ret,T1,M1,ρ1,rfl,k1,k2,fun t ht=>by
        simp only[dU,Nat.testBit_or,Bool.or_eq_false_iff] at ht
        exact k3 t ht.1,k4⟩
     ·unfold fA at h
      refine wp_mono (ih c1 _ _ _ _ _ h M0 ρ0 w0 ρ a w hM hA) fun e a' w' hp=>?_
      obtain⟨x,T1,M1,ρ1,rfl,k1,k2,k3,k4⟩:=hp
      have hge:∀ t,nt≤t→aa ρ1 ((T.get t).getD .top) undef:=fun t ht=>by
       have h1:=k2.ge t ht
       by_cases hb:Nat.testBit (dU f c1) t=false
       ·rw[k3 t hb] at h1; exact h1
       ·have h0:=hA.ge t ht
        have hu:∀ (ρ ρ' : Ren) (x:AV),aa ρ x undef→aa ρ' x undef:=by
         intro ρ ρ' x hx
         unfold undef at hx ⊢
         cases hx with
         | top=>exact .top _
         | sc v p=>exact .sc _ p
         | tup xs vs a=>cases a; exact .tup _ _ .nil
        exact hu _ _ _ h0
      cases x with
      | normal =>
        refine wp_mono (ih c2 _ _ _ _ _ k4 M0 ρ0 w0 ρ1 a' w' k1 (xQ k2 hge k3)) fun e a2 w2 hp=>?_
        obtain⟨x,T2,M2,ρ2,he,q1,q2,q3,q4⟩:=hp
        refine⟨x,T2,M2,ρ2,he,q1,q2,fun t ht=>?_,q4⟩
        simp only[dU,Nat.testBit_or,Bool.or_eq_false_iff] at ht
        rw[q3 t ht.2]
        refine Cm (fun t' ht'=>?_) t ht.1
        have:=(oJ.1 ht').2
        rw[Nat.testBit_and,Bool.and_eq_true] at this
        exact this.1
      | exit i=>exact⟨.exit i,T1,M1,ρ1,rfl,k1,k2,fun t ht=>by
        simp only[dU,Nat.testBit_or,Bool.or_eq_false_iff] at ht
        exact k3 t ht.1,k4⟩
      | ret=>exact⟨.ret,T1,M1,ρ1,rfl,k1,k2,fun t ht=>by
        simp only[dU,Nat.testBit_or,Bool.or_eq_false_iff] at ht
        exact k3 t ht.1,k4⟩
   | cond cnd c1 c2 =>
     simp only[wpC] at h
     obtain⟨b,hb,h1,h2⟩:=KS h (qX hA cnd)
     cases b with
     | true =>
       refine wp_cond_true hb (wp_mono (ih c1 _ _ _ _ _ (h1 rfl) M0 ρ0 w0 ρ a w hM hA) fun e a' w' hp=>?_)
       obtain⟨x,T1,M1,ρ1,he,k1,k2,k3,k4⟩:=hp
       exact⟨x,T1,M1,ρ1,he,k1,k2,fun t ht=>by
         simp only[dU,Nat.testBit_or,Bool.or_eq_false_iff] at ht
         exact k3 t ht.1,k4⟩
     | false =>
       refine wp_cond_false hb (wp_mono (ih c2 _ _ _ _ _ (h2 rfl) M0 ρ0 w0 ρ a w hM hA) fun e a' w' hp=>?_)
       obtain⟨x,T1,M1,ρ1,he,k1,k2,k3,k4⟩:=hp
       exact⟨x,T1,M1,ρ1,he,k1,k2,fun t ht=>by
         simp only[dU,Nat.testBit_or,Bool.or_eq_false_iff] at ht
         exact k3 t ht.2,k4⟩
   | block id c1 =>
     simp only[wpC] at h
     refine wp_block (wp_mono (ih c1 _ _ _ _ _ h M0 ρ0 w0 ρ a w hM hA) fun e a' w' hp=>?_)
     obtain⟨x,T1,M1,ρ1,rfl,k1,k2,k3,k4⟩:=hp
     cases x with
     | normal=>exact⟨.normal,T1,M1,ρ1,rfl,k1,k2,k3,k4⟩
     | ret=>exact⟨.ret,T1,M1,ρ1,rfl,k1,k2,k3,k4⟩
     | exit i =>
       simp only at k4
       split at k4
       ·rename_i he
        have he:=aH he
        subst he
        simp only[CS,Exit.inBlock,if_true]
        exact⟨.normal,T1,M1,ρ1,rfl,k1,k2,k3,k4⟩
       ·rename_i he
        have he:=qN he
        simp only[CS,Exit.inBlock,if_neg he]
        exact⟨.exit i,T1,M1,ρ1,rfl,k1,k2,k3,k4⟩
   | loop c1 =>
     simp only[wpC] at h
     obtain⟨I,n,hI,hbody⟩:=h
     have hvs:∀ t∈bitsOf (dU f c1 &&& eu ret f env c1 (eu ret f env c1 0)) nt,Nat.testBit (dU f c1) t=true:=fun t' ht'=>by
      have:=(oJ.1 ht').2
      rw[Nat.testBit_and,Bool.and_eq_true] at this
      exact this.1
     generalize hv:bitsOf (dU f c1 &&& eu ret f env c1 (eu ret f env c1 0)) nt=vs at hI hbody hvs
     have hu:∀ (ρ ρ' : Ren) (x:AV),aa ρ x undef→aa ρ' x undef:=by
      intro ρ ρ' x hx
      unfold undef at hx ⊢
      cases hx with
      | top=>exact .top _
      | sc v p=>exact .sc _ p
      | tup xs vs a=>cases a; exact .tup _ _ .nil
     have hge:∀ (ρ1:Ren) t,nt≤t→aa ρ1 ((T.get t).getD .top) undef:=fun ρ1 t ht=>hu _ _ _ (hA.ge t ht)
     have key:∀ (m:Nat) (ys:List AV) (M1:RM) (ρ1:Ren) (a1:Act) (w1:World),I m ys M1→After P M0 ρ0 w0 M1 ρ1 w1→cO ρ1 nt (uD T (bitsOf (dU f c1) nt) vs ys) a1 →
       Code.rounds P c1 (JG P nt M0 ρ0 w0 T (dU (f + 1) (.loop c1)) K) (m + 1) a1 w1:=by
      intro m
      induction m using Nat.strongRecOn with
      | _ m ihm =>
        intro ys M1 ρ1 a1 w1 hIm hM1 hA1
        rw[rounds_succ]
        refine wp_mono (ih c1 _ _ _ _ _ (hbody m ys M1 hIm) M0 ρ0 w0 ρ1 a1 w1 hM1 hA1) fun e a' w' hp=>?_
        obtain⟨x,T2,M2,ρ2,rfl,k1,k2,k3,k4⟩:=hp
        have k3' : ∀ t,Nat.testBit (dU f c1) t=false→T2.get t=T.get t:=fun t ht=>by rw[k3 t ht]; exact Cm hvs t ht
        cases x with
        | normal =>
          obtain⟨m',hlt,hI'⟩:=k4
          exact zA (by omega) (ihm m' hlt _ M2 ρ2 a' w' hI' k1 (xQ k2 (hge ρ2) k3'))
        | exit i=>exact⟨.exit i,T2,M2,ρ2,rfl,k1,k2,k3',k4⟩
        | ret=>exact⟨.ret,T2,M2,ρ2,rfl,k1,k2,k3',k4⟩
     exact wp_loop_rounds _ (key n _ M ρ a w hI hM (xQ hA (hge ρ) fun _ _=>rfl))
   | exit id=>exact wp_exit ⟨.exit id,T,M,ρ,rfl,hM,hA,fun _ _=>rfl,h⟩
   | ret=>exact wp_ret ⟨.ret,T,M,ρ,rfl,hM,hA,fun _ _=>rfl,h⟩
   | rangeFunc=>simp[wpC] at h
   | scope c1 =>
     simp only[wpC] at h
     refine wp_scope_straight (wp_mono (ih c1 _ _ _ _ _ h M0 ρ0 w0 ρ a w hM hA) fun e a' w' hp=>?_)
     obtain⟨x,T1,M1,ρ1,rfl,k1,k2,k3,k4⟩:=hp
     cases x with
     | normal=>exact⟨.normal,T1,M1,ρ1,rfl,k1,k2,k3,k4⟩
     | exit i=>exact⟨.exit i,T1,M1,ρ1,rfl,k1,k2,k3,k4⟩
     | ret=>exact⟨.ret,T1,M1,ρ1,rfl,k1,k2,k3,k4⟩
   | label l=>exact wp_label ⟨.normal,T,M,ρ,rfl,hM,hA,fun _ _=>rfl,h⟩
   | goto=>simp[wpC] at h
   | refuse=>simp[wpC] at h
theorem IA {ρ:Ren} {T:Tree AV} {M:RM} {a:Act} {w:World} (hA:cO ρ nt T a) (hw:bi P ρ M w) {r:ResultVar} {K:AV→Prop} (h:LC P T M r K) :
  ∃ v v',(l8 a.tmps r).run P w=.ok v' w∧aa ρ v v'∧K v:=by
 cases r with
 | tmp t=>exact⟨_,_,rfl,hA.val t,h⟩
 | cell x t =>
   simp only[LC] at h
   have hv:=hA.val x
   split at h <;> first | (cases h; done) | skip
   ·rename_i ha
    obtain⟨b,p,v,hx,hl,hk⟩:=h
    rw[hx] at hv
    obtain⟨i,hb,hc⟩:=bC hv
    obtain⟨u,hu,hcell⟩:=Dz hw hb hl
    refine⟨v,u, ?_,hu,hk⟩
    simp only[l8,hc,asAddr,Sem.run_bind,Sem.run_pure,Result.andThen_ok,loadVar,dO ha,Bool.false_eq_true,if_false,load,Sem.run,hcell]
   ·rename_i ha
    split at h <;> first | (cases h; done) | skip
    rename_i n hs
    obtain⟨b,p,xs,hx,hl,hk⟩:=h
    rw[hx] at hv
    obtain⟨i,hb,hc⟩:=bC hv
    obtain⟨vs,hr,hlen,_,hrun⟩:=RM.ik (P:=P) hw hb hl
    exact⟨.agg xs,.agg ⟨vs⟩,by simp only[l8,hc,asAddr,Sem.run_bind,Sem.run_pure,Result.andThen_ok,loadVar,dO ha,if_true,aX hs,hrun],.agg _ _ hr,hk⟩
theorem ug {ρ:Ren} {T:Tree AV} {M:RM} {a:Act} {w:World} (hA:cO ρ nt T a) (hw:bi P ρ M w) : ∀ (rs:List ResultVar) (K:List AV→Prop),Mk P T M rs K →
  ∃ vs us,(rs.mapM (l8 a.tmps)).run P w=.ok us w∧aA ρ vs us∧K vs
 | [],K,h=>⟨[],[],by simp,.nil,h⟩
 | r :: rs,K,h=>by
   obtain⟨v,v',h1,h2,h3⟩:=IA hA hw h
   obtain⟨vs,us,h4,h5,h6⟩:=ug hA hw rs _ h3
   refine⟨v :: vs,v' :: us, ?_,.cons _ _ _ _ h2 h5,h6⟩
   simp only[List.mapM_cons,Sem.run_bind,h1,Result.andThen_ok,h4,Sem.run_pure]
theorem CE (hP:Cb P) {f:FuncId} {fn:Func} {c:Code} {args:List AV} {M:RM} {Q:af} (hfn:P.funcs[f]?=some fn) (hbody:fn.body=some c) (h:K9 P fn c args M Q) : dE P f args M Q:=by
 refine⟨⟨fn,c,hfn,hbody⟩,fun ρ w us hargs hw=>?_⟩
 have hlen:=hargs.length
 have hA:cO ρ (args.length + (fn.ntmps - args.length)) (Tree.ofList args 0 .leaf) { tmps:=⟨us⟩++Array.replicate (fn.ntmps - (⟨us⟩ : Array Value).size) undef,defers:=[] } := by
  refine⟨by simp[hlen],fun t=>?_,rfl⟩
  rw[Tree.jl]
  by_cases ht:t<args.length
  ·rw[if_pos (by omega),Nat.sub_zero]
   obtain⟨u,hu,hv⟩:=hargs.get (n:=t) (x:=args[t]) (by simp[ht])
   rw[List.getElem?_eq_getElem ht]
   simp only[Option.getD_some]
   have:((⟨us⟩ : Array Value)++Array.replicate (fn.ntmps - (⟨us⟩ : Array Value).size) undef).getD t undef=u:=by
    rw[Array.getD_eq_getD_getElem?,Array.getElem?_append_left (by simp; omega)]
    simp[hu]
   rw[this]; exact hv
  ·rw[if_neg (by omega)]
   exact .top _
 refine calls_of_wp hfn hbody (wp_mono (J3 hP 1000 c [] 0 _ M _ h M ρ w ρ _ w (After.refl hw) hA) fun e a w' hp=>?_)
 obtain⟨x,T',M',ρ',rfl,k1,k2,k3,k4⟩:=hp
 have key:(∃ vs us,(fn.results.toList.mapM (l8 a.tmps)).run P w'=.ok us w'∧aA ρ' vs us∧OB Q M' vs) →
   a.defers=[]∧∃ v,(results fn a.tmps).run P w'=.ok v w'∧∃ v' v_1 O0 O4,Ending.returned v=.returned v'∧After P M ρ w O0 O4 w'∧aa O4 v_1 v'∧Q v_1 O0:=by
  rintro⟨vs,us,h1,h2,h3⟩
  have hres:(results fn a.tmps).run P w'=.ok (if h:(⟨us⟩ : Array Value).size=1 then(⟨us⟩ : Array Value)[0] else .tuple ⟨us⟩) w':=by
   have e:results fn a.tmps=(fn.results.mapM (l8 a.tmps) >>= fun vs=>pure (if h:vs.size=1 then vs[0] else .tuple vs)):=rfl
   rw[e,Array.mapM_eq_mapM_toList]
   simp only[Sem.run_bind,Sem.run_map,h1,Result.andThen_ok,Sem.run_pure]
  refine⟨k2.defers,_,hres, ?_⟩
  cases h2 with
  | nil=>exact⟨_,_,M',ρ',rfl,k1,.tup _ _ .nil,h3⟩
  | cons x v xs vs2 hv htl =>
    cases htl with
    | nil=>exact⟨_,x,M',ρ',rfl,k1,hv,h3⟩
    | cons y u ys us2 hu QW=>exact⟨_,_,M',ρ',rfl,k1,.tup _ _ (.cons _ _ _ _ hv (.cons _ _ _ _ hu QW)),h3⟩
 cases x with
 | normal=>exact key (ug k2 k1.rel _ _ k4)
 | ret=>exact key (ug k2 k1.rel _ _ k4)
 | exit id=>exact k4.elim
abbrev ah:=List AV→RM→af→Prop
def Cw (P:Program) (fn:Func) (args:List AV) (M:RM) (Q:af) : Prop :=
 match fn.body with
 | some c=>K9 P fn c args M Q
 | none=>False
theorem KN (hP:Cb P) {f:FuncId} {fn:Func} {args:List AV} {M:RM} {Q:af} (hfn:P.funcs[f]?=some fn) (h:Cw P fn args M Q) : dE P f args M Q:=by
 unfold Cw at h
 split at h
 ·rename_i c hc; exact CE hP hfn hc h
 ·cases h
end
end Go.Ab
set_option maxRecDepth 100000
namespace Go.Ab.Vl
open Go Go.Ab
def iQ (p1:Nat) (p2 p3 p4 p5 p6 p7:ah) (a0 a1 a2:AV) (M0:RM) (Q:af) : Prop :=
 qd p1 a0 fun v0 vd =>
 dG v0 vd M0 fun h Y =>
 p2 [] Y fun v1 j =>
 gT v1 fun v2 =>
 au v2 (
 Q (Bo false) j) (
 aM h 3 fun v3 =>
 az j v3 fun v4 =>
 aZ v4 fun v5 =>
 ai .gtr v5 (N .i64 1000) fun g =>
 ae g false (fun c=>aM h 2 fun v6 =>
 c v6 j) (fun c=>c .undef j) fun v7 n =>
 ae g false (fun vl=>az n v7 fun v8 =>
 vl v8 n) (fun c=>c .undef n) fun v9 O =>
 ae g false (fun vu=>dF v9 fun wa =>
 vu wa O) (fun c=>c .undef O) fun wb S =>
 ae g false (fun vz=>ai .gtr wb (N .i64 5) fun wc =>
 vz wc S) (fun c=>c .undef S) fun wd m =>
 aP g (Bo true) wd fun we =>
 au we (
 Q (Bo true) m) (
 dK m h 5 fun wf =>
 p3 [wf] m fun U x =>
 aW U 0 fun wg =>
 aW U 1 fun wh =>
 ai .neq wh (N .i64 0) fun wi =>
 au wi (
 Q (Bo true) x) (
 p4 [wg] x fun V y =>
 aW V 0 fun i =>
 aW V 1 fun x1 =>
 dF i fun wj =>
 ai .neq wj (N .i64 1) fun u =>
 ae u false (fun ve=>ve a1 y) (fun c=>c .undef y) fun wk z =>
 ae u false (fun vf=>ai .lss wk (N .i64 1) fun wl =>
 vf wl z) (fun c=>c .undef z) fun wm A =>
 aP u (Bo true) wm fun e =>
 ae e false (fun vg=>vg a1 A) (fun c=>c .undef A) fun wn B =>
 ae e false (fun vh=>vh i B) (fun c=>c .undef B) fun wo C =>
 ae e false (fun vi=>bS wo (N .i64 0) 1 fun wp =>
 vi wp C) (fun c=>c .undef C) fun wq o =>
 ae e false (fun vj=>az o wq fun wr =>
 vj wr o) (fun c=>c .undef o) fun ws D =>
 ae e false (fun vk=>aZ ws fun wt =>
 vk wt D) (fun c=>c .undef D) fun wu E =>
 ae e false (fun vm=>ai .geq wn wu fun wv =>
 vm wv E) (fun c=>c .undef E) fun ww p =>
 aP e (Bo true) ww fun wx =>
 au wx (
 dF i fun wy =>
 ai .eql wy (N .i64 1) fun wz =>
 Q wz p) (
 fA (fun w =>
 au a2 (
 w [(St [10,9])] p) (
 w [(St [13,10,32])] p)) (fun xt q =>
 bS i (N .i64 0) 1 fun w0 =>
 az q w0 fun w1 =>
 cK (aN w1 none (some a1)) fun w2 =>
 bF .add w2 (aj xt 0) fun w3 =>
 bS i (N .i64 0) 1 fun w4 =>
 az q w4 fun w5 =>
 cK (aN w5 (some a1) none) fun w6 =>
 bF .add w3 w6 fun w7 =>
 bF .add w7 (St [10]) fun w8 =>
 p5 [w8] q fun v F =>
 aW v 0 fun W =>
 aW v 1 fun x2 =>
 aW v 2 fun w9 =>
 ai .eql w9 (N .i64 0) fun l =>
 bM l true (fun vn=>vn W F none) (fun c=>c .undef F none) fun xa G xu =>
 bM l true (fun vo=>dF xa fun xb =>
 vo xb G none) (fun c=>c .undef G none) fun xc H xv =>
 bM l true (fun vp=>ai .eql xc (N .i64 1) fun xd =>
 vp xd H none) (fun c=>c .undef H none) fun xe I xw =>
 aP l xe (Bo false) fun d =>
 bM d true (fun vq=>vq W I none) (fun c=>c .undef I none) fun xf L xx =>
 bM d true (fun vr=>bS xf (N .i64 0) 5 fun xg =>
 vr xg L none) (fun c=>c .undef L none) fun xh r xy =>
 bM d true (fun vs=>dK r xh 5 fun xi =>
 vs xi r none) (fun c=>c .undef r none) fun xj s xz =>
 bM d true (fun vt=>dK s h 5 fun xm =>
 vt xm s none) (fun c=>c .undef s none) fun X P x0 =>
 ae d true (fun vv=>p6 [xj] P fun xk Z =>
 vv xk Z) (fun c=>c .undef P) fun xl t =>
 KT d true (fun vw=>dK t h 5 fun xn =>
 (xn=X∧vw)) (fun c=>c) (ae d true (fun vx=>p6 [X] t fun xo va =>
 vx xo va) (fun c=>c .undef t) fun xp R =>
 ae d true (fun vy=>p7 [xl,xp] R fun xq vb =>
 vy xq vb) (fun c=>c .undef R) fun xr vc =>
 aP d xr (Bo false) fun xs =>
 Q xs vc))))))
def ol (p1:Nat) (p2 p3 p4:ah) (a0:AV) (M0:RM) (Q:af) : Prop :=
 qd p1 a0 fun l j =>
 dG l j M0 fun g d =>
 dK d g 5 fun q =>
 p2 [q] d fun r c =>
 gT r fun s =>
 au s (
 Q (.tup [(St []),(N .i64 1)]) c) (
 dK c g 5 fun t =>
 p3 [t] c fun h e =>
 aZ h fun m =>
 ai .gtr m (N .i64 912) fun n =>
 au n (
 Q (.tup [(St []),(N .i64 2)]) e) (
 p4 [h] e fun o i =>
 bF .add o (St [13,10]) fun p =>
 Q (.tup [p,(N .i64 0)]) i))
def pU (p1 p2:ah) (p3:Nat) (a0:AV) (M0:RM) (Q:af) : Prop :=
 p1 [a0] M0 fun m p =>
 aW m 0 fun n =>
 aW m 1 fun h =>
 dF n fun z =>
 dN (fun x c d =>
 ai .lss (aj c 1) z fun A =>
 au A (
 fA (fun j =>
 bS n (aj c 1) 1 fun B =>
 az d B fun i =>
 bF .eql i (St []) fun C =>
 au C (
 j [(aj c 0)] d) (
 aZ i fun D =>
 ai .gtr D (N .i64 912) fun E =>
 au E (
 bS h (aj c 1) 1 fun F =>
 az d F fun G =>
 Q (.tup [(.sc (.slice none 0 0)),G,(N .i64 2)]) d) (
 p2 [i] d fun o q =>
 aW o 0 fun H =>
 aW o 1 fun I =>
 dG (.row [(St []),(St []),(.sc (.slice none 0 0)),(St []),(N .i64 0)] false p3 0) (fun v=>.ptr v 0) q fun g r =>
 aV r g H 5 fun e =>
 gT I fun L =>
 au L (
 bS h (aj c 1) 1 fun O =>
 az e O fun P =>
 Q (.tup [(.sc (.slice none 0 0)),P,(N .i64 3)]) e) (
 bS h (aj c 1) 1 fun R =>
 az e R fun S =>
 aM g 4 fun U =>
 aV e U S 1 fun l =>
 dK l g 5 fun V =>
 iJ p3 1 [(St []),(St []),(.sc (.slice none 0 0)),(St []),(N .i64 0)] [(0,5,V)] fun y w =>
 dG y w l fun W s =>
 appW p3 5 80 [(St []),(St []),(.sc (.slice none 0 0)),(St []),(N .i64 0)] false (aj c 0) W s fun X t =>
 j [X] t)))) (fun Z u =>
 ai .add (aj c 1) (N .i64 1) fun Y =>
 x [(aj Z 0),Y] u)) (
 Q (.tup [(aj c 0),(N .i64 0),(N .i64 0)]) d)) [(.sc (.slice none 0 0)),(N .i64 0)] p
def mY (p1 p2:ah) (p3 p4:Nat) (a0:AV) (M0:RM) (Q:af) : Prop :=
 dN (fun vc d p =>
 bF .neq (aj d 0) (St []) fun vf =>
 au vf (
 fA (fun n =>
 p1 [(aj d 0),(St [10])] p fun j q =>
 aW j 0 fun B =>
 aW j 1 fun C =>
 aW j 2 fun vh =>
 fA (fun o =>
 au vh (
 p2 [B,(St [13])] q fun vi E =>
 o [vi] E) (
 o [B] q)) (fun g y =>
 dF (aj d 1) fun vj =>
 ai .gtr vj (N .i64 0) fun l =>
 ae l true (fun c=>c (aj g 0) y) (fun c=>c .undef y) fun vk z =>
 ae l true (fun va=>bF .neq vk (St []) fun vl =>
 va vl z) (fun c=>c .undef z) fun vm A =>
 aP l vm (Bo false) fun e =>
 ae e true (fun vb=>vb (aj g 0) A) (fun c=>c .undef A) fun vn r =>
 ae e true (fun S=>gW vn (N .i64 0) fun vo =>
 S vo r) (fun c=>c .undef r) fun vp s =>
 ae e true (fun U=>ai .eql vp (N .u8 32) fun vq =>
 U vq s) (fun c=>c .undef s) fun vr t =>
 ae e true (fun V=>V vr t) (fun c=>c .undef t) fun h u =>
 ae h false (fun W=>W (aj g 0) u) (fun c=>c .undef u) fun vs v =>
 ae h false (fun X=>gW vs (N .i64 0) fun vt =>
 X vt v) (fun c=>c .undef v) fun vu w =>
 ae h false (fun Y=>ai .eql vu (N .u8 9) fun vv =>
 Y vv w) (fun c=>c .undef w) fun vw x =>
 ae e true (fun Z=>aP h (Bo true) vw fun vx =>
 Z vx x) (fun c=>c .undef x) fun vy i =>
 aP e vy (Bo false) fun vz =>
 au vz (
 dF (aj d 1) fun v0 =>
 ai .sub v0 (N .i64 1) fun D =>
 bS (aj d 1) D 1 fun v1 =>
 az i v1 fun v2 =>
 cK (aN (aj g 0) (some (N .i64 1)) none) fun v3 =>
 bF .add v2 v3 fun v4 =>
 bS (aj d 1) D 1 fun v5 =>
 aV i v5 v4 1 fun F =>
 n [C,(aj d 1),(aj d 2)] F) (
 iJ p3 1 [(St [])] [(0,1,(aj g 0))] fun vd P =>
 dG vd P i fun v6 G =>
 appW p3 1 16 [(St [])] false (aj d 1) v6 G fun v7 H =>
 iJ p4 1 [(N .i64 0)] [(0,1,(aj d 3))] fun ve R =>
 dG ve R H fun v8 I =>
 appW p4 1 8 [(N .i64 0)] false (aj d 2) v8 I fun v9 L =>
 n [C,v7,v9] L))) (fun m O =>
 ai .add (aj d 3) (N .i64 1) fun vg =>
 vc [(aj m 0),(aj m 1),(aj m 2),vg] O)) (
 Q (.tup [(aj d 1),(aj d 2)]) p)) [a0,(.sc (.slice none 0 0)),(.sc (.slice none 0 0)),(N .i64 1)] M0
def qh (p1:Nat) (a0 a1:AV) (M0:RM) (Q:af) : Prop :=
 qd p1 a0 fun wc vd =>
 dG wc vd M0 fun g vc =>
 qd p1 a1 fun wd ve =>
 dG wd ve vc fun l o =>
 aM g 0 fun yl =>
 az o yl fun yv =>
 aM l 0 fun y3 =>
 az o y3 fun we =>
 bF .neq yv we fun m =>
 ae m false (fun c=>aM g 1 fun wh =>
 c wh o) (fun c=>c .undef o) fun wi u =>
 ae m false (fun vu=>az u wi fun wj =>
 vu wj u) (fun c=>c .undef u) fun wk W =>
 ae m false (fun v3=>aM l 1 fun wl =>
 v3 wl W) (fun c=>c .undef W) fun wm q =>
 ae m false (fun vh=>az q wm fun wn =>
 vh wn q) (fun c=>c .undef q) fun wo D =>
 ae m false (fun vi=>bF .neq wk wo fun wp =>
 vi wp D) (fun c=>c .undef D) fun wq E =>
 aP m (Bo true) wq fun n =>
 ae n false (fun vj=>aM g 3 fun wr =>
 vj wr E) (fun c=>c .undef E) fun ws r =>
 ae n false (fun vk=>az r ws fun wt =>
 vk wt r) (fun c=>c .undef r) fun wu F =>
 ae n false (fun vl=>aM l 3 fun wv =>
 vl wv F) (fun c=>c .undef F) fun ww s =>
 ae n false (fun vm=>az s ww fun wx =>
 vm wx s) (fun c=>c .undef s) fun wy G =>
 ae n false (fun vn=>bF .neq wu wy fun wz =>
 vn wz G) (fun c=>c .undef G) fun w0 H =>
 aP n (Bo true) w0 fun j =>
 ae j false (fun vo=>aM g 2 fun w1 =>
 vo w1 H) (fun c=>c .undef H) fun w2 t =>
 ae j false (fun vp=>az t w2 fun w3 =>
 vp w3 t) (fun c=>c .undef t) fun w4 I =>
 ae j false (fun vq=>dF w4 fun w5 =>
 vq w5 I) (fun c=>c .undef I) fun w6 L =>
 ae j false (fun vr=>aM l 2 fun w7 =>
 vr w7 L) (fun c=>c .undef L) fun w8 v =>
 ae j false (fun vs=>az v w8 fun w9 =>
 vs w9 v) (fun c=>c .undef v) fun xa O =>
 ae j false (fun vt=>dF xa fun xb =>
 vt xb O) (fun c=>c .undef O) fun xc P =>
 ae j false (fun vv=>ai .neq w6 xc fun xd =>
 vv xd P) (fun c=>c .undef P) fun xe R =>
 aP j (Bo true) xe fun xf =>
 au xf (
 Q (Bo false) R) (
 dN (fun wa h i =>
 aM g 2 fun xg =>
 az i xg fun xh =>
 dF xh fun xi =>
 ai .lss (aj h 0) xi fun xj =>
 au xj (
 aM g 2 fun xl =>
 az i xl fun xm =>
 bS xm (aj h 0) 2 fun xn =>
 aM xn 0 fun xo =>
 az i xo fun xp =>
 aM l 2 fun xq =>
 az i xq fun xr =>
 bS xr (aj h 0) 2 fun xs =>
 aM xs 0 fun xt =>
 az i xt fun xu =>
 bF .neq xp xu fun d =>
 bM d false (fun vw=>aM g 2 fun xv =>
 vw xv i none) (fun c=>c .undef i none) fun xw w zc =>
 bM d false (fun vx=>az w xw fun xx =>
 vx xx w none) (fun c=>c .undef w none) fun xy S zg =>
 bM d false (fun vy=>vy (aj h 0) S none) (fun c=>c .undef S none) fun xz U zh =>
 bM d false (fun vz=>bS xy xz 2 fun x0 =>
 vz x0 U none) (fun c=>c .undef U none) fun x1 V zi =>
 bM d false (fun v0=>aM x1 1 fun x2 =>
 v0 x2 V none) (fun c=>c .undef V none) fun x3 x zj =>
 bM d false (fun v1=>az x x3 fun x4 =>
 v1 x4 x none) (fun c=>c .undef x none) fun x5 X zk =>
 bM d false (fun v2=>dF x5 fun x6 =>
 v2 x6 X none) (fun c=>c .undef X none) fun x7 Y zl =>
 bM d false (fun v4=>aM l 2 fun x8 =>
 v4 x8 Y none) (fun c=>c .undef Y none) fun x9 y zm =>
 bM d false (fun v5=>az y x9 fun ya =>
 v5 ya y none) (fun c=>c .undef y none) fun yb Z zn =>
 bM d false (fun v6=>v6 (aj h 0) Z none) (fun c=>c .undef Z none) fun yc va zo =>
 bM d false (fun v7=>bS yb yc 2 fun yd =>
 v7 yd va none) (fun c=>c .undef va none) fun ye vb zp =>
 bM d false (fun v8=>aM ye 1 fun yf =>
 v8 yf vb none) (fun c=>c .undef vb none) fun yg z zq =>
 bM d false (fun v9=>az z yg fun yh =>
 v9 yh z none) (fun c=>c .undef z none) fun yi A zd =>
 bM d false (fun vf=>dF yi fun yj =>
 vf yj A none) (fun c=>c .undef A none) fun yk B ze =>
 bM d false (fun vg=>ai .neq x7 yk fun ym =>
 vg ym B none) (fun c=>c .undef B none) fun yn C zf =>
 aP d (Bo true) yn fun yo =>
 au yo (
 Q (Bo false) C) (
 dN (fun wb p e =>
 aM g 2 fun yp =>
 az e yp fun yq =>
 bS yq (aj h 0) 2 fun yr =>
 aM yr 1 fun ys =>
 az e ys fun yt =>
 dF yt fun yu =>
 ai .lss (aj p 0) yu fun yw =>
 au yw (
 aM g 2 fun yy =>
 az e yy fun yz =>
 bS yz (aj h 0) 2 fun y0 =>
 aM y0 1 fun y1 =>
 az e y1 fun y2 =>
 bS y2 (aj p 0) 1 fun y4 =>
 az e y4 fun y5 =>
 aM l 2 fun y6 =>
 az e y6 fun y7 =>
 bS y7 (aj h 0) 2 fun y8 =>
 aM y8 1 fun y9 =>
 az e y9 fun za =>
 bS za (aj p 0) 1 fun zb =>
 az e zb fun wf =>
 bF .neq y5 wf fun wg =>
 au wg (
 Q (Bo false) e) (
 ai .add (aj p 0) (N .i64 1) fun yx =>
 wb [yx] e)) (
 ai .add (aj h 0) (N .i64 1) fun xk =>
 wa [xk] e)) [(N .i64 0)] C)) (
 Q (Bo true) i)) [(N .i64 0)] R)
def uC (p1 p2 p3:Nat) (a0:AV) (M0:RM) (Q:af) : Prop :=
 qd p1 a0 fun v s =>
 dG v s M0 fun d m =>
 dG (.row [(St []),(St []),(.sc (.slice none 0 0)),(St []),(N .i64 0)] false p2 0) (fun g=>.ptr g 0) m fun l e =>
 aM d 0 fun ve =>
 az e ve fun vf =>
 aM d 1 fun vg =>
 az e vg fun vh =>
 aM d 3 fun vi =>
 az e vi fun y =>
 aM d 4 fun z =>
 az e z fun A =>
 kS [(St []),(St []),(.sc (.slice none 0 0)),(St []),(N .i64 0)] [(0,1,vf),(1,1,vh),(3,1,y),(4,1,A)] fun B =>
 dG (.row [(St []),(St []),(.sc (.slice none 0 0)),(St []),(N .i64 0)] false p2 0) (fun g=>.ptr g 0) e fun h n =>
 aV n h B 5 fun o =>
 dN (fun u i c =>
 aM d 2 fun C =>
 az c C fun D =>
 dF D fun E =>
 ai .lss (aj i 0) E fun F =>
 au F (
 aM h 2 fun H =>
 az c H fun I =>
 aM d 2 fun L =>
 az c L fun O =>
 bS O (aj i 0) 2 fun P =>
 aM P 0 fun R =>
 az c R fun S =>
 aM d 2 fun U =>
 az c U fun V =>
 bS V (aj i 0) 2 fun W =>
 aM W 1 fun X =>
 az c X fun Y =>
 kS [(St []),(.sc (.slice none 0 0))] [(0,1,S),(1,1,Y)] fun Z =>
 iJ p3 1 [(St []),(.sc (.slice none 0 0))] [(0,2,Z)] fun w t =>
 MK w t c fun va p g =>
 appW p3 2 40 [(St []),(.sc (.slice none 0 0))] false I va p fun vb q =>
 aM h 2 fun vc =>
 aV q vc vb 1 fun r =>
 ai .add (aj i 0) (N .i64 1) fun G =>
 u [G] r) (
 dK c h 5 fun vd =>
 aV c l vd 5 fun j =>
 dK j l 5 fun x =>
 Q x j)) [(N .i64 0)] o
def qc (p1:Nat) (p2 p3 p4:ah) (a0:AV) (M0:RM) (Q:af) : Prop :=
 dG (.row [(.sc (.pointer none)),(.sc (.slice none 0 0))] false p1 0) (fun q=>.ptr q 0) M0 fun d l =>
 dN (fun r c g =>
 bF .neq (aj c 0) (St []) fun v =>
 au v (
 p2 [(aj c 0),(aj c 1)] g fun i m =>
 cK (aN (aj c 0) none (some i)) fun s =>
 p3 [d,s] m fun w h =>
 cK (aN (aj c 0) (some i) none) fun j =>
 fA (fun e =>
 bF .neq j (St []) fun t =>
 au t (
 p3 [d,(St [13,10,32])] h fun x n =>
 e [] n) (
 e [] h)) (fun y o =>
 r [j,(N .i64 74)] o)) (
 p4 [d] g fun u p =>
 Q u p)) [a0,(N .i64 75)] l
def fF (p1:ah) (p2:Nat) (a0 a1:AV) (M0:RM) (Q:af) : Prop :=
 p1 [a0] M0 fun r c =>
 nY a0 fun q =>
 aM q 1 fun j =>
 az c j fun l =>
 iJ p2 1 [(N .u8 0)] [(0,1,a1)] fun i h =>
 dG i h c fun m d =>
 appW p2 1 1 [(N .u8 0)] false l m d fun n e =>
 nY a0 fun o =>
 aM o 1 fun p =>
 aV e p n 1 fun g =>
 Q (.sc .nilIface) g
def mq (p1:ah) (a0 a1:AV) (M0:RM) (Q:af) : Prop :=
 p1 [a0,a1] M0 fun d c =>
 Q d c
def gI (p1:Nat) (a0:AV) (M0:RM) (Q:af) : Prop :=
 nY a0 fun i =>
 aM i 1 fun j =>
 az M0 j fun l =>
 wV l fun m =>
 nY a0 fun n =>
 aM n 1 fun d =>
 az M0 d fun e =>
 dF e fun g =>
 Ng p1 m g M0 fun h c =>
 Q h c
def qF (p1:Nat) (p2 p3:ah) (p4:Nat) (p5:ah) (p6:Nat) (a0:AV) (M0:RM) (Q:af) : Prop :=
 qd p1 a0 fun vr X =>
 dG vr X M0 fun d m =>
 aM d 0 fun w3 =>
 az m w3 fun w4 =>
 bF .neq w4 (St []) fun i =>
 ae i true (fun c=>aM d 0 fun w5 =>
 c w5 m) (fun c=>c .undef m) fun w6 n =>
 ae i true (fun vb=>az n w6 fun vs =>
 vb vs n) (fun c=>c .undef n) fun vt B =>
 ae i true (fun vk=>p2 [vt] B fun vu U =>
 vk vu U) (fun c=>c .undef B) fun vv L =>
 ae i true (fun vp=>gT vv fun vw =>
 vp vw L) (fun c=>c .undef L) fun vx v =>
 aP i vx (Bo false) fun e =>
 ae e false (fun Y=>aM d 1 fun vy =>
 Y vy v) (fun c=>c .undef v) fun vz o =>
 ae e false (fun Z=>az o vz fun v0 =>
 Z v0 o) (fun c=>c .undef o) fun v1 w =>
 ae e false (fun va=>p2 [v1] w fun v2 P =>
 va v2 P) (fun c=>c .undef w) fun v3 x =>
 ae e false (fun vc=>gT v3 fun v4 =>
 vc v4 x) (fun c=>c .undef x) fun v5 y =>
 aP e (Bo true) v5 fun g =>
 ae g false (fun vd=>aM d 3 fun v6 =>
 vd v6 y) (fun c=>c .undef y) fun v7 p =>
 ae g false (fun ve=>az p v7 fun v8 =>
 ve v8 p) (fun c=>c .undef p) fun v9 z =>
 ae g false (fun vf=>p3 [v9,(St [])] z fun wa R =>
 vf wa R) (fun c=>c .undef z) fun wb A =>
 ae g false (fun vg=>gT wb fun wc =>
 vg wc A) (fun c=>c .undef A) fun wd q =>
 aP g (Bo true) wd fun we =>
 au we (
 Q (Bo false) q) (
 aM d 2 fun wf =>
 az q wf fun O =>
 dF O fun wg =>
 dN (fun vq u r =>
 ai .lss (aj u 0) wg fun wh =>
 au wh (
 bS O (aj u 0) 2 fun wi =>
 dK r wi 2 fun wj =>
 dG (.row [(St []),(.sc (.slice none 0 0))] false p4 0) (fun W=>.ptr W 0) r fun j S =>
 aV S j wj 2 fun C =>
 aM j 0 fun wk =>
 az C wk fun wl =>
 p2 [wl] C fun wm D =>
 gT wm fun h =>
 ae h false (fun vh=>aM j 1 fun wn =>
 vh wn D) (fun c=>c .undef D) fun wo s =>
 ae h false (fun vi=>az s wo fun wp =>
 vi wp s) (fun c=>c .undef s) fun wq E =>
 ae h false (fun vj=>dF wq fun wr =>
 vj wr E) (fun c=>c .undef E) fun ws F =>
 ae h false (fun vl=>ai .eql ws (N .i64 0) fun wt =>
 vl wt F) (fun c=>c .undef F) fun wu G =>
 aP h (Bo true) wu fun l =>
 ae l false (fun vm=>aM j 1 fun wv =>
 vm wv G) (fun c=>c .undef G) fun ww t =>
 ae l false (fun vn=>az t ww fun wx =>
 vn wx t) (fun c=>c .undef t) fun wy H =>
 ae l false (fun vo=>p5 [wy,(.fn (.func p6) [] [])] H fun wz V =>
 vo wz V) (fun c=>c .undef H) fun w0 I =>
 aP l (Bo true) w0 fun w1 =>
 au w1 (
 Q (Bo false) I) (
 ai .add (aj u 0) (N .i64 1) fun w2 =>
 vq [w2] I)) (
 Q (Bo true) r)) [(N .i64 0)] q)
def qA (p1 p2:Nat) (p3 p4:ah) (p5:Nat) (p6 p7 p8:ah) (a0:AV) (M0:RM) (Q:af) : Prop :=
 qd p1 a0 fun V R =>
 dG V R M0 fun d C =>
 dG (.row [(.sc (.pointer none)),(.sc (.slice none 0 0))] false p2 0) (fun j=>.ptr j 0) C fun c e =>
 fA (fun o =>
 aM d 0 fun v1 =>
 az e v1 fun v2 =>
 bF .neq v2 (St []) fun W =>
 au W (
 aM d 0 fun X =>
 az e X fun Y =>
 bF .add Y (St [46]) fun Z =>
 p3 [c,Z] e fun v4 D =>
 o [] D) (
 o [] e)) (fun v9 s =>
 aM d 1 fun va =>
 az s va fun vb =>
 p4 [vb] s fun vc L =>
 p3 [c,vc] L fun v5 v =>
 aM d 2 fun vd =>
 az v vd fun x =>
 dF x fun ve =>
 dN (fun S n h =>
 ai .lss (aj n 0) ve fun vf =>
 au vf (
 bS x (aj n 0) 2 fun vg =>
 dK h vg 2 fun vh =>
 dG (.row [(St []),(.sc (.slice none 0 0))] false p5 0) (fun j=>.ptr j 0) h fun m O =>
 aV O m vh 2 fun w =>
 aM m 0 fun vi =>
 az w vi fun vj =>
 p4 [vj] w fun vk P =>
 bF .add (St [59]) vk fun vl =>
 bF .add vl (St [61]) fun vm =>
 p3 [c,vm] P fun v6 r =>
 aM m 1 fun vn =>
 az r vn fun y =>
 dF y fun vo =>
 dN (fun U i g =>
 ai .lss (aj i 0) vo fun vp =>
 au vp (
 fA (fun B =>
 bS y (aj i 0) 1 fun vq =>
 az g vq fun l =>
 fA (fun p =>
 ai .gtr (aj i 0) (N .i64 0) fun vr =>
 au vr (
 p6 [c,(N .u8 44)] g fun v7 E =>
 p [] E) (
 p [] g)) (fun wa F =>
 fA (fun q =>
 p7 [l,(St [44,59,58])] F fun vs t =>
 au vs (
 bF .add (St [34]) l fun vt =>
 bF .add vt (St [34]) fun vu =>
 q [vu] t) (
 q [l] t)) (fun v3 G =>
 p3 [c,(aj v3 0)] G fun v8 H =>
 B [] H))) (fun wb I =>
 ai .add (aj i 0) (N .i64 1) fun vv =>
 U [vv] I)) (
 ai .add (aj n 0) (N .i64 1) fun vw =>
 S [vw] g)) [(N .i64 0)] r) (
 aM d 3 fun z =>
 az h z fun A =>
 p8 [c] h fun vx u =>
 az u z fun vz =>
 (vz=A∧bF .add vx (St [58]) fun vy =>
 bF .add vy A fun v0 =>
 Q v0 u))) [(N .i64 0)] v)
def qp (p1:Nat) (p2 p3 p4 p5 p6 p7:ah) (a0:AV) (M0:RM) (Q:af) : Prop :=
 dG (.row [(St []),(St []),(.sc (.slice none 0 0)),(St []),(N .i64 0)] false p1 0) (fun n=>.ptr n 0) M0 fun e S =>
 p2 [a0] S fun w0 r =>
 gT w0 fun w1 =>
 au w1 (
 kS [(St []),(St []),(.sc (.slice none 0 0)),(St []),(N .i64 0)] [] fun vs =>
 aV r e vs 5 fun s =>
 dK s e 5 fun vo =>
 Q (.tup [vo,(Bo false)]) s) (
 dG (.row [(St []),(St []),(.sc (.slice none 0 0)),(St []),(N .i64 0)] false p1 0) (fun n=>.ptr n 0) r fun d X =>
 p3 [a0] X fun O va =>
 aW O 0 fun vt =>
 aW O 1 fun o =>
 aM d 1 fun vu =>
 aV va vu vt 1 fun vb =>
 fA (fun q =>
 p4 [o,(St [46])] vb fun vv m =>
 au vv (
 aM d 1 fun vw =>
 az m vw fun vx =>
 aM d 0 fun vy =>
 aV m vy vx 1 fun H =>
 aM d 0 fun vz =>
 az H vz fun v0 =>
 p5 [v0] H fun v1 I =>
 gT v1 fun v2 =>
 au v2 (
 kS [(St []),(St []),(.sc (.slice none 0 0)),(St []),(N .i64 0)] [] fun v3 =>
 aV I e v3 5 fun L =>
 dK L e 5 fun vr =>
 Q (.tup [vr,(Bo false)]) L) (
 cK (aN o (some (N .i64 1)) none) fun v4 =>
 p3 [v4] I fun P U =>
 aW P 0 fun v5 =>
 aW P 1 fun v6 =>
 aM d 1 fun v7 =>
 aV U v7 v5 1 fun V =>
 q [v6] V)) (
 q [o] m)) (fun w2 W =>
 p6 [(aj w2 0)] W fun p t =>
 aW p 0 fun v8 =>
 aW p 1 fun i =>
 aW p 2 fun v9 =>
 gT v9 fun g =>
 ae g false (fun c=>aM d 1 fun wa =>
 c wa t) (fun c=>c .undef t) fun wb l =>
 ae g false (fun ve=>az l wb fun wc =>
 ve wc l) (fun c=>c .undef l) fun wd u =>
 ae g false (fun vf=>p5 [wd] u fun we Y =>
 vf we Y) (fun c=>c .undef u) fun wf v =>
 ae g false (fun vg=>gT wf fun wg =>
 vg wg v) (fun c=>c .undef v) fun wh w =>
 aP g (Bo true) wh fun j =>
 ae j false (fun vh=>vh i w) (fun c=>c .undef w) fun wi x =>
 ae j false (fun vi=>p4 [wi,(St [58])] x fun wj Z =>
 vi wj Z) (fun c=>c .undef x) fun wk y =>
 ae j false (fun vj=>gT wk fun wl =>
 vj wl y) (fun c=>c .undef y) fun wm z =>
 aP j (Bo true) wm fun h =>
 ae h false (fun vk=>vk i z) (fun c=>c .undef z) fun wn A =>
 ae h false (fun vl=>cK (aN wn (some (N .i64 1)) none) fun wo =>
 vl wo A) (fun c=>c .undef A) fun wp B =>
 ae h false (fun vm=>p7 [wp,(St [])] B fun wq vc =>
 vm wq vc) (fun c=>c .undef B) fun wr C =>
 ae h false (fun vn=>gT wr fun ws =>
 vn ws C) (fun c=>c .undef C) fun wt D =>
 aP h (Bo true) wt fun wu =>
 au wu (
 kS [(St []),(St []),(.sc (.slice none 0 0)),(St []),(N .i64 0)] [] fun wv =>
 aV D e wv 5 fun E =>
 dK E e 5 fun vp =>
 Q (.tup [vp,(Bo false)]) E) (
 cK (aN i (some (N .i64 1)) none) fun R =>
 aM d 2 fun wx =>
 aV D wx v8 1 fun vd =>
 cK (aN i (some (N .i64 1)) none) fun ww =>
 (ww=R∧aM d 3 fun wy =>
 aV vd wy R 1 fun F =>
 dK F d 5 fun wz =>
 aV F e wz 5 fun G =>
 dK G e 5 fun vq =>
 Q (.tup [vq,(Bo true)]) G))))
def jq (p1:ah) (a0 a1:AV) (M0:RM) (Q:af) : Prop :=
 p1 [a0,a1] M0 fun c d =>
 aW c 0 fun e =>
 aW c 1 fun g =>
 aW c 2 fun h =>
 Q (.tup [e,g,h]) d
def ji (p1:ah) (a0 a1:AV) (M0:RM) (Q:af) : Prop :=
 p1 [a0,a1] M0 fun d c =>
 Q d c
def nZ (p1:ah) (a0 a1:AV) (M0:RM) (Q:af) : Prop :=
 fA (fun d =>
 dN (fun l c e =>
 aZ a0 fun m =>
 ai .lss (aj c 0) m fun n =>
 au n (
 cK (aN a0 (some (aj c 0)) none) fun o =>
 p1 [o] e fun h g =>
 aW h 0 fun t =>
 aW h 1 fun i =>
 ai .add (aj c 0) i fun p =>
 ai .gtr p a1 fun q =>
 au q (
 d [(aj c 0)] g) (
 ai .add (aj c 0) i fun r =>
 l [r] g)) (
 d [(aj c 0)] e)) [(N .i64 0)] M0) (fun s j =>
 Q (aj s 0) j)
def bR (p1:ah) (p2:Nat) (a0 a1:AV) (M0:RM) (Q:af) : Prop :=
 p1 [a0] M0 fun o c =>
 nY a0 fun g =>
 aM g 1 fun h =>
 az c h fun i =>
 appW p2 1 1 [(N .u8 0)] false i a1 c fun j d =>
 nY a0 fun l =>
 aM l 1 fun m =>
 aV d m j 1 fun e =>
 aZ a1 fun n =>
 Q (.tup [n,(.sc .nilIface)]) e
def fD (p1:ah) (p2:Nat) (a0:AV) (M0:RM) (Q:af) : Prop :=
 nY a0 fun o =>
 aM o 0 fun p =>
 az M0 p fun q =>
 iB false 1 q (.sc (.pointer none)) fun r =>
 au r (
 Nl M0 a0 fun s =>
 p1 [s] M0 fun e c =>
 Nf p2 2 c e fun g =>
 nY a0 fun h =>
 aM h 0 fun i =>
 aV c i g 1 fun d =>
 Q (.tup []) d) (
 nY a0 fun j =>
 aM j 0 fun l =>
 az M0 l fun m =>
 iB true 1 m a0 fun n =>
 au n (
 False) (
 Q (.tup []) M0))
def gH (p1:ah) (a0 a1:AV) (M0:RM) (Q:af) : Prop :=
 p1 [a0,a1] M0 fun d c =>
 Q d c
def lh (p1:ah) (a0:AV) (M0:RM) (Q:af) : Prop :=
 aZ a0 fun z =>
 ai .geq z (N .i64 1) fun e =>
 ae e true (fun c=>c a0 M0) (fun c=>c .undef M0) fun A g =>
 ae e true (fun o=>aZ A fun B =>
 o B g) (fun c=>c .undef g) fun C i =>
 ae e true (fun q=>ai .leq C (N .i64 20) fun D =>
 q D i) (fun c=>c .undef i) fun E j =>
 aP e E (Bo false) fun d =>
 ae d true (fun r=>r a0 j) (fun c=>c .undef j) fun t l =>
 ae d true (fun s=>p1 [t,(St [97,98,99,100,101,102,103,104,105,106,107,108,109,110,111,112,113,114,115,116,117,118,119,120,121,122,48,49,50,51,52,53,54,55,56,57,45])] l fun u n =>
 s u n) (fun c=>c .undef l) fun v h =>
 ae d true (fun p=>bF .eql v (St []) fun w =>
 p w h) (fun c=>c .undef h) fun x m =>
 aP d x (Bo false) fun y =>
 Q y m
def kH (p1:Nat) (p2 p3 p4:ah) (a0 a1:AV) (M0:RM) (Q:af) : Prop :=
 rY p1 a0 fun x s =>
 dG x s M0 fun o p =>
 dF o fun O =>
 dN (fun w g e =>
 ai .lss (aj g 0) O fun y =>
 au y (
 bS o (aj g 0) 1 fun z =>
 az e z fun n =>
 p2 [n] e fun A h =>
 gT A fun d =>
 ae d false (fun c=>c a1 h) (fun c=>c .undef h) fun B j =>
 ae d false (fun t=>t n j) (fun c=>c .undef j) fun C l =>
 ae d false (fun u=>p3 [B,C] l fun D r =>
 u D r) (fun c=>c .undef l) fun E m =>
 ae d false (fun v=>ai .geq E (N .i64 0) fun F =>
 v F m) (fun c=>c .undef m) fun G i =>
 aP d (Bo true) G fun H =>
 au H (
 Q (Bo false) i) (
 ai .add (aj g 0) (N .i64 1) fun I =>
 w [I] i)) (
 p4 [a0] e fun L q =>
 Q L q)) [(N .i64 0)] p
def iM (p1:ah) (a0 a1:AV) (M0:RM) (Q:af) : Prop :=
 p1 [a0,a1] M0 fun d c =>
 ai .geq d (N .i64 0) fun e =>
 Q e c
def mK (p1:ah) (a0:AV) (M0:RM) (Q:af) : Prop :=
 p1 [a0,(St [34])] M0 fun d c =>
 gT d fun e =>
 Q e c
def og (p1:Nat) (a0:AV) (M0:RM) (Q:af) : Prop :=
 rY p1 a0 fun t q =>
 dG t q M0 fun e n =>
 dF e fun F =>
 dN (fun s g c =>
 ai .lss (aj g 0) F fun u =>
 au u (
 fA (fun j =>
 bS e (aj g 0) 1 fun v =>
 az c v fun h =>
 ai .geq h (N .u8 97) fun i =>
 ae i true (fun d=>d h c) (fun d=>d .undef c) fun w l =>
 ae i true (fun r=>ai .leq w (N .u8 122) fun x =>
 r x l) (fun d=>d .undef l) fun y m =>
 aP i y (Bo false) fun z =>
 au z (
 ai .add h (N .u8 65) fun A =>
 ai .sub A (N .u8 97) fun B =>
 bS e (aj g 0) 1 fun C =>
 aV m C B 1 fun o =>
 j [] o) (
 j [] m)) (fun G p =>
 ai .add (aj g 0) (N .i64 1) fun D =>
 s [D] p)) (
 sW c e fun E =>
 Q E c)) [(N .i64 0)] n
def iT (p1:ah) (a0 a1:AV) (M0:RM) (Q:af) : Prop :=
 p1 [a0,a1] M0 fun d c =>
 ai .geq d (N .i64 0) fun e =>
 Q e c
def qo (p1 p2:ah) (a0:AV) (M0:RM) (Q:af) : Prop :=
 aZ a0 fun n =>
 p1 [a0] M0 fun o e =>
 p2 [o,(St [97,98,99,100,101,102,103,104,105,106,107,108,109,110,111,112,113,114,115,116,117,118,119,120,121,122,48,49,50,51,52,53,54,55,56,57,45])] e fun p g =>
 aZ p fun i =>
 ai .sub n i fun c =>
 cK (aN a0 none (some c)) fun j =>
 cK (aN a0 (some c) none) fun d =>
 p1 [j] g fun l h =>
 cK (aN a0 (some c) none) fun m =>
 (m=d∧Q (.tup [l,d]) h)
def jF (p1:ah) (a0 a1:AV) (M0:RM) (Q:af) : Prop :=
 p1 [a0,a1] M0 fun d c =>
 Q d c
def mE (p1:ah) (p2:Nat) (p3 p4 p5:ah) (p6:Nat) (a0:AV) (M0:RM) (Q:af) : Prop :=
 dN (fun O e v =>
 p1 [(aj e 0),(St [59])] v fun U m =>
 au U (
 dG (.row [(St []),(.sc (.slice none 0 0))] false p2 0) (fun F=>.ptr F 0) m fun d w =>
 cK (aN (aj e 0) (some (N .i64 1)) none) fun V =>
 p3 [V] w fun s A =>
 aW s 0 fun W =>
 aW s 1 fun t =>
 aM d 0 fun X =>
 aV A X W 1 fun o =>
 aM d 0 fun Y =>
 az o Y fun Z =>
 p4 [Z] o fun va p =>
 gT va fun h =>
 ae h false (fun c=>c t p) (fun c=>c .undef p) fun vb q =>
 ae h false (fun L=>p1 [vb,(St [61])] q fun vc E =>
 L vc E) (fun c=>c .undef q) fun vd r =>
 ae h false (fun I=>gT vd fun ve =>
 I ve r) (fun c=>c .undef r) fun vf n =>
 aP h (Bo true) vf fun vg =>
 au vg (
 Q (.tup [(.sc (.slice none 0 0)),(St []),(Bo false)]) n) (
 dN (fun P g i =>
 au (aj g 2) (
 cK (aN (aj g 0) (some (N .i64 1)) none) fun vi =>
 p5 [vi] i fun l j =>
 aW l 0 fun vj =>
 aW l 1 fun u =>
 aW l 2 fun vk =>
 gT vk fun vl =>
 au vl (
 Q (.tup [(.sc (.slice none 0 0)),(St []),(Bo false)]) j) (
 aM d 1 fun vm =>
 az j vm fun vn =>
 iJ p6 1 [(St [])] [(0,1,vj)] fun R G =>
 dG R G j fun vo x =>
 appW p6 1 16 [(St [])] false vn vo x fun vp y =>
 aM d 1 fun vq =>
 aV y vq vp 1 fun z =>
 p1 [u,(St [44])] z fun vh B =>
 P [u,(aj g 1),vh] B)) (
 dK i d 2 fun vr =>
 iJ p2 1 [(St []),(.sc (.slice none 0 0))] [(0,2,vr)] fun S H =>
 dG S H i fun vs C =>
 appW p2 2 40 [(St []),(.sc (.slice none 0 0))] false (aj g 1) vs C fun vt D =>
 O [(aj g 0),vt] D)) [t,(aj e 1),(Bo true)] n)) (
 Q (.tup [(aj e 1),(aj e 0),(Bo true)]) m)) [a0,(.sc (.slice none 0 0))] M0
def cZ (p1:ah) (a0 a1:AV) (M0:RM) (Q:af) : Prop :=
 p1 [a0,a1] M0 fun c d =>
 ai .geq c (N .i64 0) fun e =>
 au e (
 cK (aN a0 none (some c)) fun g =>
 aZ a1 fun h =>
 ai .add c h fun i =>
 cK (aN a0 (some i) none) fun j =>
 Q (.tup [g,j,(Bo true)]) d) (
 Q (.tup [a0,(St []),(Bo false)]) d)
def dM (p1:ah) (a0 a1:AV) (M0:RM) (Q:af) : Prop :=
 p1 [a0,a1] M0 fun i c =>
 au i (
 aZ a0 fun d =>
 aZ a1 fun e =>
 ai .sub d e fun g =>
 cK (aN a0 none (some g)) fun h =>
 Q h c) (
 Q a0 c)
def si (p1 p2 p3:ah) (p4:Nat) (p5 p6 p7 p8:ah) (a0 a1:AV) (M0:RM) (Q:af) : Prop :=
 bF .eql a0 (St []) fun h =>
 ae h false (fun c=>c a1 M0) (fun c=>c .undef M0) fun C i =>
 ae h false (fun y=>bF .eql C (St []) fun D =>
 y D i) (fun c=>c .undef i) fun E e =>
 aP h (Bo true) E fun F =>
 au F (
 Q a0 e) (
 aZ a1 fun G =>
 ai .eql G (N .i64 1) fun d =>
 ae d true (fun z=>z a1 e) (fun c=>c .undef e) fun H m =>
 ae d true (fun A=>gW H (N .i64 0) fun I =>
 A I m) (fun c=>c .undef m) fun L n =>
 ae d true (fun B=>ai .lss L (N .u8 128) fun O =>
 B O n) (fun c=>c .undef n) fun P j =>
 aP d P (Bo false) fun R =>
 au R (
 gW a1 (N .i64 0) fun S =>
 gW a1 (N .i64 0) fun V =>
 p1 [a0,S] j fun U p =>
 p2 [U,V] p fun W q =>
 Q W q) (
 p3 [a1] j fun o r =>
 aW o 0 fun X =>
 aW o 1 fun Y =>
 dG (.row [(Bo false),(Bo false),(Bo false),(Bo false),(Bo false),(Bo false),(Bo false),(Bo false),(Bo false),(Bo false),(Bo false),(Bo false),(Bo false),(Bo false),(Bo false),(Bo false),(Bo false),(Bo false),(Bo false),(Bo false),(Bo false),(Bo false),(Bo false),(Bo false),(Bo false),(Bo false),(Bo false),(Bo false),(Bo false),(Bo false),(Bo false),(Bo false),(Bo false),(Bo false),(Bo false),(Bo false),(Bo false),(Bo false),(Bo false),(Bo false),(Bo false),(Bo false),(Bo false),(Bo false),(Bo false),(Bo false),(Bo false),(Bo false),(Bo false),(Bo false),(Bo false),(Bo false),(Bo false),(Bo false),(Bo false),(Bo false),(Bo false),(Bo false),(Bo false),(Bo false),(Bo false),(Bo false),(Bo false),(Bo false),(Bo false),(Bo false),(Bo false),(Bo false),(Bo false),(Bo false),(Bo false),(Bo false),(Bo false),(Bo false),(Bo false),(Bo false),(Bo false),(Bo false),(Bo false),(Bo false),(Bo false),(Bo false),(Bo false),(Bo false),(Bo false),(Bo false),(Bo false),(Bo false),(Bo false),(Bo false),(Bo false),(Bo false),(Bo false),(Bo false),(Bo false),(Bo false),(Bo false),(Bo false),(Bo false),(Bo false),(Bo false),(Bo false),(Bo false),(Bo false),(Bo false),(Bo false),(Bo false),(Bo false),(Bo false),(Bo false),(Bo false),(Bo false),(Bo false),(Bo false),(Bo false),(Bo false),(Bo false),(Bo false),(Bo false),(Bo false),(Bo false),(Bo false),(Bo false),(Bo false),(Bo false),(Bo false),(Bo false),(Bo false),(Bo false),(Bo false),(Bo false),(Bo false),(Bo false),(Bo false),(Bo false),(Bo false),(Bo false),(Bo false),(Bo false),(Bo false),(Bo false),(Bo false),(Bo false),(Bo false),(Bo false),(Bo false),(Bo false),(Bo false),(Bo false),(Bo false),(Bo false),(Bo false),(Bo false),(Bo false),(Bo false),(Bo false),(Bo false),(Bo false),(Bo false),(Bo false),(Bo false),(Bo false),(Bo false),(Bo false),(Bo false),(Bo false),(Bo false),(Bo false),(Bo false),(Bo false),(Bo false),(Bo false),(Bo false),(Bo false),(Bo false),(Bo false),(Bo false),(Bo false),(Bo false),(Bo false),(Bo false),(Bo false),(Bo false),(Bo false),(Bo false),(Bo false),(Bo false),(Bo false),(Bo false),(Bo false),(Bo false),(Bo false),(Bo false),(Bo false),(Bo false),(Bo false),(Bo false),(Bo false),(Bo false),(Bo false),(Bo false),(Bo false),(Bo false),(Bo false),(Bo false),(Bo false),(Bo false),(Bo false),(Bo false),(Bo false),(Bo false),(Bo false),(Bo false),(Bo false),(Bo false),(Bo false),(Bo false),(Bo false),(Bo false),(Bo false),(Bo false),(Bo false),(Bo false),(Bo false),(Bo false),(Bo false),(Bo false),(Bo false),(Bo false),(Bo false),(Bo false),(Bo false),(Bo false),(Bo false),(Bo false),(Bo false),(Bo false),(Bo false),(Bo false),(Bo false),(Bo false),(Bo false),(Bo false),(Bo false),(Bo false),(Bo false),(Bo false),(Bo false),(Bo false),(Bo false),(Bo false),(Bo false),(Bo false),(Bo false),(Bo false),(Bo false)] false p4 0) (fun x=>.ptr x 0) r fun g s =>
 aV s g X 256 fun l =>
 au Y (
 p5 [a0,g] l fun Z t =>
 p6 [Z,g] t fun va u =>
 Q va u) (
 p7 [a0,a1] l fun vb v =>
 p8 [vb,a1] v fun vc w =>
 Q vc w)))
def nW (a0:AV) (M0:RM) (Q:af) : Prop :=
 ai .geq a0 (N .u8 32) fun d =>
 ae d true (fun c=>c a0 M0) (fun c=>c .undef M0) fun s g =>
 ae d true (fun l=>ai .neq s (N .u8 127) fun t =>
 l t g) (fun c=>c .undef g) fun u h =>
 aP d u (Bo false) fun e =>
 ae e false (fun m=>m a0 h) (fun c=>c .undef h) fun o i =>
 ae e false (fun n=>ai .eql o (N .u8 9) fun p =>
 n p i) (fun c=>c .undef i) fun q j =>
 aP e (Bo true) q fun r =>
 Q r j
def jP (cv:(FuncId→ah)) (a0 a1:AV) (M0:RM) (Q:af) : Prop :=
 dF a0 fun m =>
 dN (fun g c d =>
 ai .lss (aj c 0) m fun n =>
 au n (
 bS a0 (aj c 0) 1 fun h =>
 az d h fun i =>
 Eo cv a1 [i] d fun j e =>
 au j (
 Q (aj c 0) e) (
 ai .add (aj c 0) (N .i64 1) fun l =>
 g [l] e)) (
 Q (N .i64 (-1)) d)) [(N .i64 0)] M0
def jU (p1 p2 p3:ah) (p4:Nat) (p5:ah) (a0 a1:AV) (M0:RM) (Q:af) : Prop :=
 bF .eql a1 (St []) fun D =>
 au D (
 Q (N .i64 (-1)) M0) (
 aZ a1 fun E =>
 ai .eql E (N .i64 1) fun F =>
 au F (
 gW a1 (N .i64 0) fun G =>
 ES .i32 G fun o =>
 fA (fun e =>
 ai .geq o (N .i32 128) fun H =>
 au H (
 e [(N .i32 65533)] M0) (
 e [o] M0)) (fun ve r =>
 p1 [a0,(aj ve 0)] r fun I s =>
 Q I s)) (
 fA (fun g =>
 aZ a0 fun L =>
 p2 [L] M0 fun O j =>
 au O (
 p3 [a1] j fun p w =>
 aW p 0 fun P =>
 aW p 1 fun R =>
 dG (.row [(Bo false),(Bo false),(Bo false),(Bo false),(Bo false),(Bo false),(Bo false),(Bo false),(Bo false),(Bo false),(Bo false),(Bo false),(Bo false),(Bo false),(Bo false),(Bo false),(Bo false),(Bo false),(Bo false),(Bo false),(Bo false),(Bo false),(Bo false),(Bo false),(Bo false),(Bo false),(Bo false),(Bo false),(Bo false),(Bo false),(Bo false),(Bo false),(Bo false),(Bo false),(Bo false),(Bo false),(Bo false),(Bo false),(Bo false),(Bo false),(Bo false),(Bo false),(Bo false),(Bo false),(Bo false),(Bo false),(Bo false),(Bo false),(Bo false),(Bo false),(Bo false),(Bo false),(Bo false),(Bo false),(Bo false),(Bo false),(Bo false),(Bo false),(Bo false),(Bo false),(Bo false),(Bo false),(Bo false),(Bo false),(Bo false),(Bo false),(Bo false),(Bo false),(Bo false),(Bo false),(Bo false),(Bo false),(Bo false),(Bo false),(Bo false),(Bo false),(Bo false),(Bo false),(Bo false),(Bo false),(Bo false),(Bo false),(Bo false),(Bo false),(Bo false),(Bo false),(Bo false),(Bo false),(Bo false),(Bo false),(Bo false),(Bo false),(Bo false),(Bo false),(Bo false),(Bo false),(Bo false),(Bo false),(Bo false),(Bo false),(Bo false),(Bo false),(Bo false),(Bo false),(Bo false),(Bo false),(Bo false),(Bo false),(Bo false),(Bo false),(Bo false),(Bo false),(Bo false),(Bo false),(Bo false),(Bo false),(Bo false),(Bo false),(Bo false),(Bo false),(Bo false),(Bo false),(Bo false),(Bo false),(Bo false),(Bo false),(Bo false),(Bo false),(Bo false),(Bo false),(Bo false),(Bo false),(Bo false),(Bo false),(Bo false),(Bo false),(Bo false),(Bo false),(Bo false),(Bo false),(Bo false),(Bo false),(Bo false),(Bo false),(Bo false),(Bo false),(Bo false),(Bo false),(Bo false),(Bo false),(Bo false),(Bo false),(Bo false),(Bo false),(Bo false),(Bo false),(Bo false),(Bo false),(Bo false),(Bo false),(Bo false),(Bo false),(Bo false),(Bo false),(Bo false),(Bo false),(Bo false),(Bo false),(Bo false),(Bo false),(Bo false),(Bo false),(Bo false),(Bo false),(Bo false),(Bo false),(Bo false),(Bo false),(Bo false),(Bo false),(Bo false),(Bo false),(Bo false),(Bo false),(Bo false),(Bo false),(Bo false),(Bo false),(Bo false),(Bo false),(Bo false),(Bo false),(Bo false),(Bo false),(Bo false),(Bo false),(Bo false),(Bo false),(Bo false),(Bo false),(Bo false),(Bo false),(Bo false),(Bo false),(Bo false),(Bo false),(Bo false),(Bo false),(Bo false),(Bo false),(Bo false),(Bo false),(Bo false),(Bo false),(Bo false),(Bo false),(Bo false),(Bo false),(Bo false),(Bo false),(Bo false),(Bo false),(Bo false),(Bo false),(Bo false),(Bo false),(Bo false),(Bo false),(Bo false),(Bo false),(Bo false),(Bo false),(Bo false),(Bo false),(Bo false),(Bo false),(Bo false),(Bo false),(Bo false),(Bo false),(Bo false),(Bo false),(Bo false),(Bo false),(Bo false),(Bo false),(Bo false),(Bo false),(Bo false),(Bo false),(Bo false),(Bo false),(Bo false),(Bo false),(Bo false),(Bo false)] false p4 0) (fun y=>.ptr y 0) w fun q x =>
 aV x q P 256 fun l =>
 au R (
 dN (fun A c m =>
 aZ a0 fun S =>
 ai .lss (aj c 0) S fun U =>
 au U (
 gW a0 (aj c 0) fun W =>
 p5 [q,W] m fun X n =>
 au X (
 Q (aj c 0) n) (
 ai .add (aj c 0) (N .i64 1) fun V =>
 A [V] n)) (
 Q (N .i64 (-1)) m)) [(N .i64 0)] l) (
 g [] l)) (
 g [] j)) (fun vg t =>
 Gd a0 fun C z =>
 dG C z t fun Y u =>
 dN (fun B vf v =>
 EI Y v fun d h =>
 aW d 0 fun Z =>
 au Z (
 aW d 1 fun va =>
 aW d 2 fun vb =>
 p1 [a1,vb] h fun vc i =>
 ai .geq vc (N .i64 0) fun vd =>
 au vd (
 Q va i) (
 B [] i)) (
 Q (N .i64 (-1)) h)) [] u)))
def nI (p1 p2:ah) (p3:Nat) (p4 p5:ah) (a0 a1:AV) (M0:RM) (Q:af) : Prop :=
 bF .eql a0 (St []) fun g =>
 ae g false (fun c=>c a1 M0) (fun c=>c .undef M0) fun z h =>
 ae g false (fun v=>bF .eql z (St []) fun A =>
 v A h) (fun c=>c .undef h) fun B e =>
 aP g (Bo true) B fun C =>
 au C (
 Q a0 e) (
 aZ a1 fun D =>
 ai .eql D (N .i64 1) fun d =>
 ae d true (fun w=>w a1 e) (fun c=>c .undef e) fun E l =>
 ae d true (fun x=>gW E (N .i64 0) fun F =>
 x F l) (fun c=>c .undef l) fun G m =>
 ae d true (fun y=>ai .lss G (N .u8 128) fun H =>
 y H m) (fun c=>c .undef m) fun I i =>
 aP d I (Bo false) fun L =>
 au L (
 gW a1 (N .i64 0) fun O =>
 p1 [a0,O] i fun P p =>
 Q P p) (
 p2 [a1] i fun n q =>
 aW n 0 fun R =>
 aW n 1 fun S =>
 dG (.row [(Bo false),(Bo false),(Bo false),(Bo false),(Bo false),(Bo false),(Bo false),(Bo false),(Bo false),(Bo false),(Bo false),(Bo false),(Bo false),(Bo false),(Bo false),(Bo false),(Bo false),(Bo false),(Bo false),(Bo false),(Bo false),(Bo false),(Bo false),(Bo false),(Bo false),(Bo false),(Bo false),(Bo false),(Bo false),(Bo false),(Bo false),(Bo false),(Bo false),(Bo false),(Bo false),(Bo false),(Bo false),(Bo false),(Bo false),(Bo false),(Bo false),(Bo false),(Bo false),(Bo false),(Bo false),(Bo false),(Bo false),(Bo false),(Bo false),(Bo false),(Bo false),(Bo false),(Bo false),(Bo false),(Bo false),(Bo false),(Bo false),(Bo false),(Bo false),(Bo false),(Bo false),(Bo false),(Bo false),(Bo false),(Bo false),(Bo false),(Bo false),(Bo false),(Bo false),(Bo false),(Bo false),(Bo false),(Bo false),(Bo false),(Bo false),(Bo false),(Bo false),(Bo false),(Bo false),(Bo false),(Bo false),(Bo false),(Bo false),(Bo false),(Bo false),(Bo false),(Bo false),(Bo false),(Bo false),(Bo false),(Bo false),(Bo false),(Bo false),(Bo false),(Bo false),(Bo false),(Bo false),(Bo false),(Bo false),(Bo false),(Bo false),(Bo false),(Bo false),(Bo false),(Bo false),(Bo false),(Bo false),(Bo false),(Bo false),(Bo false),(Bo false),(Bo false),(Bo false),(Bo false),(Bo false),(Bo false),(Bo false),(Bo false),(Bo false),(Bo false),(Bo false),(Bo false),(Bo false),(Bo false),(Bo false),(Bo false),(Bo false),(Bo false),(Bo false),(Bo false),(Bo false),(Bo false),(Bo false),(Bo false),(Bo false),(Bo false),(Bo false),(Bo false),(Bo false),(Bo false),(Bo false),(Bo false),(Bo false),(Bo false),(Bo false),(Bo false),(Bo false),(Bo false),(Bo false),(Bo false),(Bo false),(Bo false),(Bo false),(Bo false),(Bo false),(Bo false),(Bo false),(Bo false),(Bo false),(Bo false),(Bo false),(Bo false),(Bo false),(Bo false),(Bo false),(Bo false),(Bo false),(Bo false),(Bo false),(Bo false),(Bo false),(Bo false),(Bo false),(Bo false),(Bo false),(Bo false),(Bo false),(Bo false),(Bo false),(Bo false),(Bo false),(Bo false),(Bo false),(Bo false),(Bo false),(Bo false),(Bo false),(Bo false),(Bo false),(Bo false),(Bo false),(Bo false),(Bo false),(Bo false),(Bo false),(Bo false),(Bo false),(Bo false),(Bo false),(Bo false),(Bo false),(Bo false),(Bo false),(Bo false),(Bo false),(Bo false),(Bo false),(Bo false),(Bo false),(Bo false),(Bo false),(Bo false),(Bo false),(Bo false),(Bo false),(Bo false),(Bo false),(Bo false),(Bo false),(Bo false),(Bo false),(Bo false),(Bo false),(Bo false),(Bo false),(Bo false),(Bo false),(Bo false),(Bo false),(Bo false),(Bo false),(Bo false),(Bo false),(Bo false),(Bo false),(Bo false),(Bo false),(Bo false),(Bo false),(Bo false),(Bo false),(Bo false),(Bo false),(Bo false),(Bo false),(Bo false),(Bo false),(Bo false),(Bo false),(Bo false),(Bo false),(Bo false),(Bo false),(Bo false),(Bo false),(Bo false)] false p3 0) (fun u=>.ptr u 0) q fun o r =>
 aV r o R 256 fun j =>
 au S (
 p4 [a0,o] j fun U s =>
 Q U s) (
 p5 [a0,a1] j fun V t =>
 Q V t)))
def oo (p1:Nat) (a0:AV) (M0:RM) (Q:af) : Prop :=
 rY p1 a0 fun t q =>
 dG t q M0 fun e n =>
 dF e fun F =>
 dN (fun s g c =>
 ai .lss (aj g 0) F fun u =>
 au u (
 fA (fun j =>
 bS e (aj g 0) 1 fun v =>
 az c v fun h =>
 ai .geq h (N .u8 65) fun i =>
 ae i true (fun d=>d h c) (fun d=>d .undef c) fun w l =>
 ae i true (fun r=>ai .leq w (N .u8 90) fun x =>
 r x l) (fun d=>d .undef l) fun y m =>
 aP i y (Bo false) fun z =>
 au z (
 ai .add h (N .u8 97) fun A =>
 ai .sub A (N .u8 65) fun B =>
 bS e (aj g 0) 1 fun C =>
 aV m C B 1 fun o =>
 j [] o) (
 j [] m)) (fun G p =>
 ai .add (aj g 0) (N .i64 1) fun D =>
 s [D] p)) (
 sW c e fun E =>
 Q E c)) [(N .i64 0)] n
def dS (a0 a1:AV) (M0:RM) (Q:af) : Prop :=
 aZ a0 fun B =>
 aZ a1 fun C =>
 ai .geq B C fun d =>
 ae d true (fun c=>c a0 M0) (fun c=>c .undef M0) fun r e =>
 ae d true (fun m=>m a1 e) (fun c=>c .undef e) fun s g =>
 ae d true (fun o=>aZ s fun t =>
 o t g) (fun c=>c .undef g) fun u h =>
 ae d true (fun p=>cK (aN r none (some u)) fun v =>
 p v h) (fun c=>c .undef h) fun w i =>
 ae d true (fun q=>q a1 i) (fun c=>c .undef i) fun x j =>
 ae d true (fun n=>bF .eql w x fun y =>
 n y j) (fun c=>c .undef j) fun z l =>
 aP d z (Bo false) fun A =>
 Q A l
def om (p1 p2 p3 p4:ah) (a0:AV) (M0:RM) (Q:af) : Prop :=
 p1 [a0,(St [34])] M0 fun m h =>
 aW m 0 fun u =>
 aW m 1 fun v =>
 au v (
 p2 [u,(St [34])] h fun e i =>
 aW e 0 fun n =>
 aW e 1 fun w =>
 aW e 2 fun g =>
 ae g true (fun d=>d n i) (fun d=>d .undef i) fun x j =>
 ae g true (fun t=>p3 [x,(St [])] j fun y q =>
 t y q) (fun d=>d .undef j) fun z r =>
 aP g z (Bo false) fun A =>
 Q (.tup [n,w,A]) r) (
 p4 [a0,(St [44,59,58])] h fun c l =>
 ai .lss c (N .i64 0) fun B =>
 au B (
 Q (.tup [(St []),(St []),(Bo false)]) l) (
 cK (aN a0 none (some c)) fun o =>
 cK (aN a0 (some c) none) fun p =>
 cK (aN a0 none (some c)) fun E =>
 p3 [E,(St [34])] l fun F s =>
 cK (aN a0 none (some c)) fun C =>
 (C=o∧cK (aN a0 (some c) none) fun D =>
 (D=p∧Q (.tup [o,p,F]) s))))
def bV (p1 p2 p3 p4:ah) (a0 a1:AV) (M0:RM) (Q:af) : Prop :=
 aZ a1 fun e =>
 ai .eql e (N .i64 0) fun q =>
 ae q false (fun c=>c a1 M0) (fun c=>c .undef M0) fun w2 w =>
 ae q false (fun vk=>vk a0 w) (fun c=>c .undef w) fun w3 x =>
 ae q false (fun vn=>bF .eql w2 w3 fun w4 =>
 vn w4 x) (fun c=>c .undef x) fun w5 h =>
 aP q (Bo true) w5 fun w6 =>
 au w6 (
 Q (N .i64 0) h) (
 ai .eql e (N .i64 1) fun w7 =>
 au w7 (
 gW a1 (N .i64 0) fun w8 =>
 p1 [a0,w8] h fun w9 vj =>
 Q w9 vj) (
 aZ a0 fun xa =>
 ai .geq e xa fun xb =>
 au xb (
 Q (N .i64 (-1)) h) (
 az h .top fun xc =>
 ai .leq e xc fun r =>
 ae r true (fun v3=>v3 a0 h) (fun c=>c .undef h) fun xd vb =>
 ae r true (fun v8=>aZ xd fun xe =>
 v8 xe vb) (fun c=>c .undef vb) fun xf y =>
 ae r true (fun vl=>ai .leq xf (N .i64 64) fun xg =>
 vl xg y) (fun c=>c .undef y) fun xh z =>
 aP r xh (Bo false) fun xi =>
 au xi (
 p2 [a0,a1] z fun xj vh =>
 Q xj vh) (
 gW a1 (N .i64 0) fun vf =>
 gW a1 (N .i64 1) fun xk =>
 aZ a0 fun xl =>
 ai .sub xl e fun xm =>
 ai .add xm (N .i64 1) fun t =>
 dN (fun v9 j s =>
 ai .lss (aj j 0) t fun xn =>
 au xn (
 fA (fun v =>
 gW a0 (aj j 0) fun xo =>
 ai .neq xo vf fun xp =>
 au xp (
 ai .add (aj j 0) (N .i64 1) fun xq =>
 cK (aN a0 (some xq) (some t)) fun xr =>
 p1 [xr,vf] s fun vg A =>
 ai .lss vg (N .i64 0) fun xs =>
 au xs (
 Q (N .i64 (-1)) A) (
 ai .add vg (N .i64 1) fun xt =>
 ai .add (aj j 0) xt fun xu =>
 v [xu] A)) (
 v [(aj j 0)] s)) (fun m B =>
 ai .add (aj m 0) (N .i64 1) fun xv =>
 gW a0 xv fun xw =>
 ai .eql xw xk fun d =>
 ae d true (fun vm=>vm a0 B) (fun c=>c .undef B) fun xx C =>
 ae d true (fun vo=>vo (aj m 0) C) (fun c=>c .undef C) fun xy D =>
 ae d true (fun vp=>vp (aj m 0) D) (fun c=>c .undef D) fun xz E =>
 ae d true (fun vq=>vq e E) (fun c=>c .undef E) fun x0 F =>
 ae d true (fun vr=>ai .add xz x0 fun x1 =>
 vr x1 F) (fun c=>c .undef F) fun x2 G =>
 ae d true (fun vs=>cK (aN xx (some xy) (some x2)) fun x3 =>
 vs x3 G) (fun c=>c .undef G) fun x4 H =>
 ae d true (fun vt=>vt a1 H) (fun c=>c .undef H) fun x5 I =>
 ae d true (fun vu=>bF .eql x4 x5 fun x6 =>
 vu x6 I) (fun c=>c .undef I) fun x7 n =>
 aP d x7 (Bo false) fun x8 =>
 au x8 (
 Q (aj m 0) n) (
 ai .add (aj m 0) (N .i64 1) fun g =>
 ai .add (aj j 1) (N .i64 1) fun u =>
 az n .top fun wa =>
 ai .leq e wa fun l =>
 ae l true (fun vv=>vv u n) (fun c=>c .undef n) fun wb L =>
 ae l true (fun vw=>vw g L) (fun c=>c .undef L) fun wc O =>
 ae l true (fun vx=>p3 [wc] O fun wd vi =>
 vx wd vi) (fun c=>c .undef O) fun we P =>
 ae l true (fun vy=>ai .gtr wb we fun wf =>
 vy wf P) (fun c=>c .undef P) fun wg o =>
 aP l wg (Bo false) fun wh =>
 au wh (
 cK (aN a0 (some g) none) fun wi =>
 p2 [wi,a1] o fun vd R =>
 ai .geq vd (N .i64 0) fun wj =>
 au wj (
 ai .add vd g fun wk =>
 Q wk R) (
 Q (N .i64 (-1)) R)) (
 az o .top fun wl =>
 ai .gtr e wl fun i =>
 ae i true (fun vz=>vz u o) (fun c=>c .undef o) fun wm S =>
 ae i true (fun v0=>v0 g S) (fun c=>c .undef S) fun wn U =>
 ae i true (fun v1=>Ip .shr wn (N .u64 4) fun wo =>
 v1 wo U) (fun c=>c .undef U) fun wp V =>
 ae i true (fun v2=>ai .add (N .i64 4) wp fun wq =>
 v2 wq V) (fun c=>c .undef V) fun wr W =>
 ae i true (fun v4=>ai .geq wm wr fun ws =>
 v4 ws W) (fun c=>c .undef W) fun wt X =>
 aP i wt (Bo false) fun p =>
 ae p true (fun v5=>v5 g X) (fun c=>c .undef X) fun wu Y =>
 ae p true (fun v6=>v6 t Y) (fun c=>c .undef Y) fun wv Z =>
 ae p true (fun v7=>ai .lss wu wv fun ww =>
 v7 ww Z) (fun c=>c .undef Z) fun wx va =>
 aP p wx (Bo false) fun wy =>
 au wy (
 cK (aN a0 (some g) none) fun wz =>
 p4 [wz,a1] va fun ve vc =>
 ai .lss ve (N .i64 0) fun w0 =>
 au w0 (
 Q (N .i64 (-1)) vc) (
 ai .add g ve fun w1 =>
 Q w1 vc)) (
 v9 [g,u] va))))) (
 Q (N .i64 (-1)) s)) [(N .i64 0),(N .i64 0)] z))))
def dV (a0 a1:AV) (M0:RM) (Q:af) : Prop :=
 aZ a0 fun R =>
 aZ a1 fun S =>
 ai .geq R S fun d =>
 ae d true (fun c=>c a0 M0) (fun c=>c .undef M0) fun x e =>
 ae d true (fun p=>p a0 e) (fun c=>c .undef e) fun y g =>
 ae d true (fun u=>aZ y fun z =>
 u z g) (fun c=>c .undef g) fun A l =>
 ae d true (fun v=>v a1 l) (fun c=>c .undef l) fun B m =>
 ae d true (fun w=>aZ B fun C =>
 w C m) (fun c=>c .undef m) fun D n =>
 ae d true (fun q=>ai .sub A D fun E =>
 q E n) (fun c=>c .undef n) fun F h =>
 ae d true (fun r=>cK (aN x (some F) none) fun G =>
 r G h) (fun c=>c .undef h) fun H i =>
 ae d true (fun s=>s a1 i) (fun c=>c .undef i) fun I j =>
 ae d true (fun t=>bF .eql H I fun L =>
 t L j) (fun c=>c .undef j) fun O o =>
 aP d O (Bo false) fun P =>
 Q P o
def jC (p1 p2:ah) (a0 a1:AV) (M0:RM) (Q:af) : Prop :=
 ai .leq (N .i32 0) a1 fun m =>
 ae m true (fun c=>c a1 M0) (fun c=>c .undef M0) fun E p =>
 ae m true (fun A=>ai .lss E (N .i32 128) fun F =>
 A F p) (fun c=>c .undef p) fun G j =>
 aP m G (Bo false) fun H =>
 au H (
 ES .u8 a1 fun I =>
 p1 [a0,I] j fun L w =>
 Q L w) (
 ai .eql a1 (N .i32 65533) fun O =>
 au O (
 Gd a0 fun D z =>
 dG D z j fun P x =>
 dN (fun B vu y =>
 EI P y fun n l =>
 aW n 0 fun R =>
 au R (
 aW n 1 fun S =>
 aW n 2 fun U =>
 ai .eql U (N .i32 65533) fun V =>
 au V (
 Q S l) (
 B [] l)) (
 Q (N .i64 (-1)) l)) [] x) (
 p2 [a1] j fun W s =>
 gT W fun X =>
 au X (
 Q (N .i64 (-1)) s) (
 Es a1 fun d =>
 aZ d fun Y =>
 ai .sub Y (N .i64 1) fun e =>
 dN (fun vt g i =>
 aZ a0 fun Z =>
 ai .lss (aj g 0) Z fun va =>
 au va (
 fA (fun o =>
 gW a0 (aj g 0) fun vb =>
 gW d e fun vc =>
 ai .neq vb vc fun vd =>
 au vd (
 ai .add (aj g 0) (N .i64 1) fun ve =>
 cK (aN a0 (some ve) none) fun vf =>
 gW d e fun vg =>
 p1 [vf,vg] i fun t q =>
 ai .lss t (N .i64 0) fun vh =>
 au vh (
 Q (N .i64 (-1)) q) (
 ai .add t (N .i64 1) fun vi =>
 ai .add (aj g 0) vi fun vj =>
 o [vj] q)) (
 o [(aj g 0)] i)) (fun u v =>
 dN (fun C h r =>
 aZ d fun vk =>
 ai .lss (aj h 0) vk fun vl =>
 au vl (
 ai .sub (aj u 0) (aj h 0) fun vn =>
 gW a0 vn fun vo =>
 ai .sub e (aj h 0) fun vp =>
 gW d vp fun vq =>
 ai .neq vo vq fun vr =>
 au vr (
 False) (
 ai .add (aj h 0) (N .i64 1) fun vm =>
 C [vm] r)) (
 ai .sub (aj u 0) e fun vs =>
 Q vs r)) [(N .i64 1)] v)) (
 Q (N .i64 (-1)) i)) [e] s)))
def jb (a0:AV) (M0:RM) (Q:af) : Prop :=
 ai .gtr a0 (N .i64 8) fun c =>
 Q c M0
def jI (p1:ah) (a0 a1:AV) (M0:RM) (Q:af) : Prop :=
 p1 [a0,a1] M0 fun c d =>
 aW c 0 fun g =>
 aW c 1 fun e =>
 Q (.tup [g,e]) d
def gK (a0:AV) (M0:RM) (Q:af) : Prop :=
 ai .leq (N .i32 0) a0 fun g =>
 ae g true (fun c=>c a0 M0) (fun c=>c .undef M0) fun s h =>
 ae g true (fun l=>ai .lss s (N .i32 55296) fun t =>
 l t h) (fun c=>c .undef h) fun u d =>
 aP g u (Bo false) fun v =>
 au v (
 Q (Bo true) d) (
 ai .lss (N .i32 57343) a0 fun e =>
 ae e true (fun m=>m a0 d) (fun c=>c .undef d) fun o i =>
 ae e true (fun n=>ai .leq o (N .i32 1114111) fun p =>
 n p i) (fun c=>c .undef i) fun q j =>
 aP e q (Bo false) fun r =>
 au r (
 Q (Bo true) j) (
 Q (Bo false) j))
def dW (p1:ah) (a0 a1:AV) (M0:RM) (Q:af) : Prop :=
 p1 [a0,a1] M0 fun g c =>
 gT g fun h =>
 au h (
 Q (.tup [a0,(Bo false)]) c) (
 aZ a1 fun d =>
 cK (aN a0 (some d) none) fun e =>
 Q (.tup [e,(Bo true)]) c)
end Go.Ab.Vl
namespace Go.Ab
open Go Go.RowKit
def RM.cell (M:RM) (b o:Nat) : Option AV:=(M.cells b).bind (·[o]?)
section
variable {M M' : RM} {K:AV→Prop} {KQ:af}
theorem BO {b o:Nat} {v:AV} : M.loads b o 1=some [v]↔M.cell b o=some v:=by
 unfold RM.loads RM.cell
 cases hc:M.cells b with
 | none=>simp
 | some l =>
   simp only[Option.bind_some]
   constructor
   ·intro h
    split at h
    ·rename_i hlt
     have h1:=Option.some.inj h
     have:((l.drop o).take 1)[0]?=some v:=by rw[h1]; rfl
     rw[List.getElem?_take,if_pos (by omega),List.getElem?_drop] at this
     simpa using this
    ·cases h
   ·intro h
    have hlt:=(List.getElem?_eq_some_iff.1 h).1
    rw[if_pos (by omega)]
    congr 1
    rw[List.drop_eq_getElem_cons hlt]
    simp only[List.take_succ_cons,List.take_zero]
    congr 1
    exact(List.getElem?_eq_some_iff.1 h).2
@[go_sem] theorem cz (b o:Nat) : az M (.ptr b o) K=∃ v,M.cell b o=some v∧K v:=by
 apply propext; unfold az
 constructor
 ·rintro⟨b',o',v,h,hl,hk⟩; cases h; exact⟨v,BO.1 hl,hk⟩
 ·rintro⟨v,hl,hk⟩; exact⟨b,o,v,rfl,BO.2 hl,hk⟩
@[go_sem] theorem xA (b o n:Nat) : dK M (.ptr b o) n K=∃ vs,M.loads b o n=some vs∧K (.agg vs):=by
 apply propext; unfold dK
 constructor
 ·rintro⟨b',o',v,h,hl,hk⟩; cases h; exact⟨v,hl,hk⟩
 ·rintro⟨v,hl,hk⟩; exact⟨b,o,v,rfl,hl,hk⟩
@[go_sem] theorem BF (b p:Nat) (x:AV) (n:Nat) (K:RM→Prop) : aV M (.ptr b p) x n K=(x.cells.length=n∧∃ M',M.stores b p x.cells=some M'∧K M'):=by
 apply propext; unfold aV
 constructor
 ·rintro⟨b',o',M',h,h1,h2,hk⟩; cases h; exact⟨h1,M',h2,hk⟩
 ·rintro⟨h1,M',h2,hk⟩; exact⟨b,p,M',rfl,h1,h2,hk⟩
def QQ (k:IntKind) (a b:Int) : Int:=k.wrap (BitVec.ofInt k.bits a &&& BitVec.ofInt k.bits b).toNat
def RY (k:IntKind) (a b:Int) : Int:=k.wrap (BitVec.ofInt k.bits a ||| BitVec.ofInt k.bits b).toNat
def QB (k:IntKind) (a b:Int) : Int:=k.wrap (BitVec.ofInt k.bits a ^^^ BitVec.ofInt k.bits b).toNat
def NF (k:IntKind) (a b:Int) : Int:=k.wrap (BitVec.ofInt k.bits a &&& ~~~BitVec.ofInt k.bits b).toNat
def Qy (k:IntKind) (a b:Int) : Int:=k.wrap (a * 2 ^ (min b.toNat k.bits))
def Ry (k:IntKind) (a b:Int) : Int:=a.fdiv (2 ^ (min b.toNat k.bits))
section
variable (k:IntKind) (a b:Int)
theorem ed {op:BinOp} {v:Value} (h:qC op k a b=some v) : ai op (N k a) (N k b) K=K (.sc v):=by
 apply propext; unfold ai
 constructor
 ·rintro⟨k',a',b',u,h1,h2,h3,hk⟩; cases h1; cases h2; rw[h] at h3; cases h3; exact hk
 ·intro hk; exact⟨k,a,b,v,rfl,rfl,h,hk⟩
@[go_sem] theorem mI:ai .add (N k a) (N k b) K=K (N k (k.wrap (a + b))):=ed k a b rfl
@[go_sem] theorem FT:ai .sub (N k a) (N k b) K=K (N k (k.wrap (a - b))):=ed k a b rfl
@[go_sem] theorem Q5:ai .mul (N k a) (N k b) K=K (N k (k.wrap (a * b))):=ed k a b rfl
@[go_sem] theorem QF:ai .and (N k a) (N k b) K=K (N k (QQ k a b)):=ed k a b rfl
@[go_sem] theorem RL:ai .or (N k a) (N k b) K=K (N k (RY k a b)):=ed k a b rfl
@[go_sem] theorem Rs:ai .xor (N k a) (N k b) K=K (N k (QB k a b)):=ed k a b rfl
@[go_sem] theorem Pp:ai .andNot (N k a) (N k b) K=K (N k (NF k a b)):=ed k a b rfl
@[go_sem] theorem nk:ai .eql (N k a) (N k b) K=K (Bo (a == b)):=ed k a b rfl
@[go_sem] theorem qz:ai .neq (N k a) (N k b) K=K (Bo (a != b)):=ed k a b rfl
@[go_sem] theorem nz:ai .lss (N k a) (N k b) K=K (Bo (decide (a<b))):=ed k a b rfl
@[go_sem] theorem Av:ai .leq (N k a) (N k b) K=K (Bo (decide (a≤b))):=ed k a b rfl
@[go_sem] theorem zV:ai .gtr (N k a) (N k b) K=K (Bo (decide (a > b))):=ed k a b rfl
@[go_sem] theorem gJ:ai .geq (N k a) (N k b) K=K (Bo (decide (a ≥ b))):=ed k a b rfl
@[go_sem] theorem Ri:ai .quo (N k a) (N k b) K=(b≠0∧K (N k (k.wrap (a.tdiv b)))):=by
 apply propext; unfold ai qC
 constructor
 ·rintro⟨k',a',b',u,h1,h2,h3,hk⟩; cases h1; cases h2
  simp only at h3
  split at h3
  ·cases h3
  ·cases h3; exact⟨‹_›,hk⟩
 ·rintro⟨h0,hk⟩; exact⟨k,a,b,_,rfl,rfl,by simp only[if_neg h0],hk⟩
@[go_sem] theorem Q6:ai .rem (N k a) (N k b) K=(b≠0∧K (N k (a.tmod b))):=by
 apply propext; unfold ai qC
 constructor
 ·rintro⟨k',a',b',u,h1,h2,h3,hk⟩; cases h1; cases h2
  simp only at h3
  split at h3
  ·cases h3
  ·cases h3; exact⟨‹_›,hk⟩
 ·rintro⟨h0,hk⟩; exact⟨k,a,b,_,rfl,rfl,by simp only[if_neg h0],hk⟩
variable (l:IntKind)
@[go_sem] theorem RQ:Ip .shl (N k a) (N l b) K=(0≤b∧K (N k (Qy k a b))):=by
 apply propext; unfold Ip Bz
 constructor
 ·rintro⟨k',a',l',b',u,h1,h2,h3,hk⟩; cases h1; cases h2
  split at h3
  ·cases h3
  ·cases h3; exact⟨by omega,hk⟩
 ·rintro⟨h0,hk⟩; exact⟨k,a,l,b,_,rfl,rfl,by rw[if_neg (by omega)]; rfl,hk⟩
@[go_sem] theorem RJ:Ip .shr (N k a) (N l b) K=(0≤b∧K (N k (Ry k a b))):=by
 apply propext; unfold Ip Bz
 constructor
 ·rintro⟨k',a',l',b',u,h1,h2,h3,hk⟩; cases h1; cases h2
  split at h3
  ·cases h3
  ·cases h3; exact⟨by omega,hk⟩
 ·rintro⟨h0,hk⟩; exact⟨k,a,l,b,_,rfl,rfl,by rw[if_neg (by omega)]; rfl,hk⟩
@[go_sem] theorem RA {l:IntKind} {a:Int} {K:AV→Prop} : Es (N l a) K=K (St (Utf8.encode a).data.toList):=by
 apply propext; unfold Es
 constructor
 ·rintro⟨l',n,h,hk⟩; cases h; exact hk
 ·intro h; exact⟨_,_,rfl,h⟩
@[go_sem] theorem RZ:ES k (N l a) K=K (N k (k.wrap a)):=by
 apply propext; unfold ES
 constructor
 ·rintro⟨l',n,h,hk⟩; cases h; exact hk
 ·intro hk; exact⟨l,a,rfl,hk⟩
@[go_sem] theorem Sc (mx:Bool) : IY mx (N k a) (N k b) K=K (N k (if mx then(if b > a then b else a) else(if b<a then b else a))):=by
 apply propext; unfold IY
 constructor
 ·rintro⟨k',a',b',h1,h2,hk⟩; cases h1; cases h2; exact hk
 ·intro hk; exact⟨k,a,b,rfl,rfl,hk⟩
@[go_sem] theorem Sb:Mm (N k a) K=K (N k (k.wrap (0 - a))):=by
 apply propext; unfold Mm
 constructor
 ·rintro⟨k',a',h1,hk⟩; cases h1; exact hk
 ·intro hk; exact⟨k,a,rfl,hk⟩
end
@[go_sem] theorem dD (b:Bool) : gT (Bo b) K=K (Bo (!b)):=by
 apply propext; unfold gT
 constructor
 ·rintro⟨b',h,hk⟩; cases h; exact hk
 ·intro hk; exact⟨b,rfl,hk⟩
@[go_sem] theorem PW (neg a b:Bool) : yM neg (Bo a) (Bo b) K=K (Bo ((a == b) != neg)):=by
 apply propext; unfold yM
 constructor
 ·rintro⟨a',b',h,h',hk⟩; cases h; cases h'; exact hk
 ·intro hk; exact⟨a,b,rfl,rfl,hk⟩
@[go_sem] theorem Fs (t:Bool) (a b:AV) : aP (Bo t) a b K=K (if t then a else b):=by
 apply propext; unfold aP
 constructor
 ·rintro⟨t',h,hk⟩; cases h; exact hk
 ·intro hk; exact⟨t,rfl,hk⟩
@[go_sem] theorem EA (b:Bool) (p q:Prop) : au (Bo b) p q=((b=true→p)∧(b=false→q)):=rfl
@[go_sem] theorem Ql {α:Type} (b want:Bool) (f g:α→Prop) (k:α) : jv (Bo b) want f g k=if b=want then f k else g k:=rfl
@[go_sem] theorem OU {α:Type} (want:Bool) (f g:α→Prop) (k:α) : jv .undef want f g k=g k:=rfl
@[go_sem] theorem QS (b o:Nat) : nY (.ptr b o) K=K (.ptr b o):=by
 apply propext; unfold nY
 constructor
 ·rintro⟨b',o',h,hk⟩; cases h; exact hk
 ·intro hk; exact⟨b,o,rfl,hk⟩
@[go_sem] theorem eG (b o n:Nat) : aM (.ptr b o) n K=K (.ptr b (o + n)):=by
 apply propext; unfold aM
 constructor
 ·rintro⟨b',o',h,hk⟩; cases h; exact hk
 ·intro hk; exact⟨b,o,rfl,hk⟩
@[go_sem] theorem AA (b p len:Nat) (cap:Cap) (k:IntKind) (n:Int) (size:Nat) : bS (.slc b p len cap) (N k n) size K=(0≤n∧n<len∧K (.ptr b (p + n.toNat * size))):=by
 apply propext; unfold bS
 constructor
 ·rintro⟨b',p',l',c',k',n',h,h',h0,h1,hk⟩; cases h; cases h'; exact⟨h0,h1,hk⟩
 ·rintro⟨h0,h1,hk⟩; exact⟨b,p,len,cap,k,n,rfl,rfl,h0,h1,hk⟩
@[go_sem] theorem Q0 (b p:Nat) (k:IntKind) (n:Int) (len size:Nat) : LJ (.ptr b p) (N k n) len size K=(0≤n∧n<len∧K (.ptr b (p + n.toNat * size))):=by
 apply propext; unfold LJ
 constructor
 ·rintro⟨b',p',k',n',h,h',h0,h1,hk⟩; cases h; cases h'; exact⟨h0,h1,hk⟩
 ·rintro⟨h0,h1,hk⟩; exact⟨b,p,k,n,rfl,rfl,h0,h1,hk⟩
@[go_sem] theorem Qr (cs:List AV) (off:Nat) : I1 (.agg cs) off K=∃ v,cs[off]?=some v∧K v:=by
 apply propext; unfold I1
 constructor
 ·rintro⟨cs',v,h,h1,hk⟩; cases h; exact⟨v,h1,hk⟩
 ·rintro⟨v,h1,hk⟩; exact⟨cs,v,rfl,h1,hk⟩
@[go_sem] theorem Qk (cs:List AV) (off n:Nat) : Iq (.agg cs) off n K=(off + n≤cs.length∧K (.agg ((cs.drop off).take n))):=by
 apply propext; unfold Iq
 constructor
 ·rintro⟨cs',h,h1,hk⟩; cases h; exact⟨h1,hk⟩
 ·rintro⟨h1,hk⟩; exact⟨cs,rfl,h1,hk⟩
@[go_sem] theorem Qh (cs:List AV) (k:IntKind) (n:Int) (len:Nat) : JM (.agg cs) (N k n) len K=(0≤n∧n<len∧∃ v,cs[n.toNat]?=some v∧K v):=by
 apply propext; unfold JM
 constructor
 ·rintro⟨cs',k',n',v,h,h',h0,h1,h2,hk⟩; cases h; cases h'; exact⟨h0,h1,v,h2,hk⟩
 ·rintro⟨h0,h1,v,h2,hk⟩; exact⟨cs,k,n,v,rfl,rfl,h0,h1,h2,hk⟩
@[go_sem] theorem Qg (cs:List AV) (k:IntKind) (n:Int) (len size:Nat) : JC (.agg cs) (N k n) len size K=(0≤n∧n<len∧n.toNat * size + size≤cs.length∧K (.agg ((cs.drop (n.toNat * size)).take size))):=by
 apply propext; unfold JC
 constructor
 ·rintro⟨cs',k',n',h,h',h0,h1,h2,hk⟩; cases h; cases h'; exact⟨h0,h1,h2,hk⟩
 ·rintro⟨h0,h1,h2,hk⟩; exact⟨cs,k,n,rfl,rfl,h0,h1,h2,hk⟩
@[go_sem] theorem RD (s:List UInt8) (k:IntKind) (n:Int) : gW (St s) (N k n) K=(0≤n∧∃ b,s[n.toNat]?=some b∧K (N .u8 b.toNat)):=by
 apply propext; unfold gW
 constructor
 ·rintro⟨s',k',n',b,h,h',h0,h1,hk⟩; cases h; cases h'; exact⟨h0,b,h1,hk⟩
 ·rintro⟨h0,b,h1,hk⟩; exact⟨s,k,n,b,rfl,rfl,h0,h1,hk⟩
@[go_sem] theorem AO (vs:List AV) (i:Nat) : aW (.tup vs) i K=∃ v,vs[i]?=some v∧K v:=by
 apply propext; unfold aW
 constructor
 ·rintro⟨cs',v,h,h1,hk⟩; cases h; exact⟨v,h1,hk⟩
 ·rintro⟨v,h1,hk⟩; exact⟨vs,v,rfl,h1,hk⟩
@[go_sem] theorem ja (v:AV) : cK (some v) K=K v:=by
 apply propext; unfold cK
 constructor
 ·rintro⟨v',h,hk⟩; cases h; exact hk
 ·intro hk; exact⟨v,rfl,hk⟩
@[go_sem] theorem uw (b o n:Nat) (c:Cap) : dF (.slc b o n c) K=K (N .i64 n):=by
 apply propext; unfold dF
 constructor
 ·rintro⟨n',h,hk⟩; cases h; exact hk
 ·intro hk; exact⟨n,rfl,hk⟩
@[go_sem] theorem Mr (b:Nat) : dF (.emp b) K=K (N .i64 0):=by
 apply propext; unfold dF
 constructor
 ·rintro⟨n',h,hk⟩; cases h; exact hk
 ·intro hk; exact⟨0,rfl,hk⟩
@[go_sem] theorem LQ:dF (.sc (.slice none 0 0)) K=K (N .i64 0):=by
 apply propext; unfold dF
 constructor
 ·rintro⟨n',h,hk⟩; cases h; exact hk
 ·intro hk; exact⟨0,rfl,hk⟩
@[go_sem] theorem dY (s:List UInt8) : aZ (St s) K=K (N .i64 s.length):=by
 apply propext; unfold aZ
 constructor
 ·rintro⟨s',h,hk⟩; cases h; exact hk
 ·intro hk; exact⟨s,rfl,hk⟩
@[go_sem] theorem RF (b o n c:Nat) : F7 (.slc b o n (.ex c)) K=K (N .i64 c):=by
 apply propext; unfold F7
 constructor
 ·rintro⟨n',h,hk⟩; cases h; exact hk
 ·intro hk; exact⟨c,rfl,hk⟩
@[go_sem] theorem Rh:F7 (.sc (.slice none 0 0)) K=K (N .i64 0):=by
 apply propext; unfold F7
 constructor
 ·rintro⟨n',h,hk⟩; cases h; exact hk
 ·intro hk; exact⟨0,rfl,hk⟩
@[go_sem] theorem QG (s:List UInt8) : isStr (St s) K=K (St s):=by
 apply propext; unfold isStr
 constructor
 ·rintro⟨s',h,hk⟩; cases h; exact hk
 ·intro hk; exact⟨s,rfl,hk⟩
@[go_sem] theorem GJ {x:AV} {s:List UInt8} (h:uI M x=some s) : sW M x K=K (St s):=by
 apply propext; unfold sW
 constructor
 ·rintro⟨s',h',hk⟩; rw[h] at h'; cases h'; exact hk
 ·intro hk; exact⟨s,h,hk⟩
theorem lC {op:BinOp} {a b:List UInt8} {v:AV} (h:tC op a b=some v) : bF op (St a) (St b) K=K v:=by
 apply propext; unfold bF
 constructor
 ·rintro⟨a',b',u,h1,h2,h3,hk⟩; cases h1; cases h2; rw[h] at h3; cases h3; exact hk
 ·intro hk; exact⟨a,b,v,rfl,rfl,h,hk⟩
@[go_sem] theorem LU (a b:List UInt8) : bF .eql (St a) (St b) K=K (Bo (a == b)):=by rw[← eX]; exact lC rfl
@[go_sem] theorem ll (a b:List UInt8) : bF .neq (St a) (St b) K=K (Bo (a != b)):=by rw[bne,← eX]; exact lC rfl
@[go_sem] theorem Q9 (a b:List UInt8) : bF .lss (St a) (St b) K=K (Bo (Op.bytesLess a b)):=lC rfl
@[go_sem] theorem Rn (a b:List UInt8) : bF .leq (St a) (St b) K=K (Bo (Op.bytesLess a b || a == b)):=by rw[← eX]; exact lC rfl
@[go_sem] theorem Rm (a b:List UInt8) : bF .gtr (St a) (St b) K=K (Bo (!(Op.bytesLess a b || a == b))):=by rw[← eX]; exact lC rfl
@[go_sem] theorem Re (a b:List UInt8) : bF .geq (St a) (St b) K=K (Bo (!Op.bytesLess a b)):=lC rfl
@[go_sem] theorem gN (a b:List UInt8) : bF .add (St a) (St b) K=(a.length + b.length≤9223372036854775807∧K (St (a++b))):=by
 apply propext; unfold bF
 constructor
 ·rintro⟨a',b',u,h1,h2,h3,hk⟩; cases h1; cases h2
  simp only[tC] at h3
  split at h3
  ·rename_i hb; cases h3; exact⟨aF hb,hk⟩
  ·cases h3
 ·rintro⟨h0,hk⟩; exact⟨a,b,_,rfl,rfl,by simp only[tC,aC.2 h0],hk⟩
theorem gF {neg:Bool} {tag:Nat} {x y:AV} {r:Bool} (ht:Er x=tag) (h:A9 x y=some r) : iB neg tag x y K=K (Bo (r != neg)):=by
 apply propext; unfold iB
 constructor
 ·rintro⟨_,r',h',hk⟩; rw[h] at h'; cases h'; exact hk
 ·intro hk; exact⟨ht,r,h,hk⟩
@[go_sem] theorem Og (neg:Bool) : iB neg 2 (.sc (.slice none 0 0)) (.sc (.slice none 0 0)) K=K (Bo (!neg)):=(gF (tag:=2) (r:=true) rfl rfl).trans (by cases neg <;> rfl)
@[go_sem] theorem NG (neg:Bool) (b:Nat) : iB neg 2 (.emp b) (.sc (.slice none 0 0)) K=K (Bo neg):=(gF (tag:=2) (r:=false) rfl rfl).trans (by cases neg <;> rfl)
@[go_sem] theorem NZ (neg:Bool) (b o n:Nat) (c:Cap) : iB neg 2 (.slc b o n c) (.sc (.slice none 0 0)) K=K (Bo neg):=(gF (tag:=2) (r:=false) rfl rfl).trans (by cases neg <;> rfl)
@[go_sem] theorem NW (neg:Bool) (b o:Nat) : iB neg 1 (.ptr b o) (.sc (.pointer none)) K=K (Bo neg):=(gF (tag:=1) (r:=false) rfl rfl).trans (by cases neg <;> rfl)
@[go_sem] theorem Nn (neg:Bool) : iB neg 1 (.sc (.pointer none)) (.sc (.pointer none)) K=K (Bo (!neg)):=(gF (tag:=1) (r:=true) rfl rfl).trans (by cases neg <;> rfl)
@[go_sem] theorem NV (neg:Bool) (b:Nat) : iB neg 3 (.map b) (.sc (.map none)) K=K (Bo neg):=(gF (tag:=3) (r:=false) rfl rfl).trans (by cases neg <;> rfl)
@[go_sem] theorem Oq (neg:Bool) (f:Fn) (xs ys:List AV) : iB neg 4 (.fn f xs ys) (.sc .nilFunc) K=K (Bo neg):=(gF (tag:=4) (r:=false) rfl rfl).trans (by cases neg <;> rfl)
@[go_sem] theorem P6 (neg:Bool) (ks:List Nat) (cs ds:List AV) : xG neg ks (.agg cs) (.agg ds) K=(cs.length=ks.length∧ds.length=ks.length∧∃ r,bD ks cs ds=some r∧K (Bo (r != neg))):=by
 apply propext; unfold xG
 constructor
 ·rintro⟨a',b',r,h1,h2,h3,h4,h5,hk⟩; cases h1; cases h2; exact⟨h3,h4,r,h5,hk⟩
 ·rintro⟨h3,h4,r,h5,hk⟩; exact⟨cs,ds,r,rfl,rfl,h3,h4,h5,hk⟩
@[go_sem] theorem MJ (C:FuncId→ah) (g:FuncId) (first cap args:List AV) : Eo C (.fn (.func g) first cap) args M KQ=C g (first++args++cap) M KQ:=by
 apply propext; unfold Eo
 constructor
 ·rintro⟨g',f',c',h,hk⟩; cases h; exact hk
 ·intro hk; exact⟨g,first,cap,rfl,hk⟩
@[go_sem] theorem xD (cs:List AV) (parts:List (Nat × Nat × AV)) : kS cs parts K=∃ cs',uB cs parts=some cs'∧K (.agg cs'):=rfl
@[go_sem] theorem bJ (x:RB) (mk:Nat→AV) : dG x mk M KQ=KQ (mk M.next) (M.push x):=rfl
@[go_sem] theorem NB (x:RB) (mk:Nat→AV) (k:KR) : MK x mk M k=k (mk M.next) (M.push x) (some M.next):=rfl
@[go_sem] theorem QH (f:(List AV→RM→Prop)→Prop) (g:List AV→RM→Prop) : fA f g=f g:=rfl
@[go_sem] theorem Qv (x:AV) (xs:List AV) : aj (x :: xs) 0=x:=rfl
@[go_sem] theorem Qp (x:AV) (xs:List AV) (n:Nat) : aj (x :: xs) (n + 1)=aj xs n:=rfl
@[go_sem] theorem PR (b:Nat) (x:RB) (mk:Nat→AV) (v:AV) : Ni (some b) M x mk v=(M.heap b=some x∧mk b=v):=rfl
end
section
variable {M M' : RM}
theorem RM.qU {b:Nat} {l:List AV} {opn:Bool} {el fz:Nat} (h:M.heap b=some (.row l opn el fz)) : M.cells b=some l:=by simp[RM.cells,h]
theorem RM.LP {b o:Nat} {l:List AV} {opn:Bool} {el fz:Nat} (h:M.heap b=some (.row l opn el fz)) : M.cell b o=l[o]?:=by simp[RM.cell,RM.qU h]
theorem RM.nP {b o k:Nat} {l:List AV} {opn:Bool} {el fz:Nat} (h:M.heap b=some (.row l opn el fz)) (hk:o + k≤l.length) : M.loads b o k=some ((l.drop o).take k):=by
 simp[RM.loads,RM.qU h,hk]
theorem RM.IZ {b o:Nat} {l vs:List AV} {opn:Bool} {el fz:Nat} (h:M.heap b=some (.row l opn el fz)) (h1:o + vs.length≤l.length) (h2:fz≤o) (h3:vs.all oneCell=true) :
  M.stores b o vs=some (M.put b (.row (l.take o++vs++l.drop (o + vs.length)) opn el fz)):=by
 simp only[RM.stores,h]
 rw[if_pos ⟨h1,h2,h3⟩]
structure ag (bs:List Nat) (M M' : RM) : Prop where
 base:M'.base=M.base
 next:M.next≤M'.next
 heap:∀ c,c<M.next→c ∉ bs→M'.heap c=M.heap c
theorem ag.refl (bs:List Nat) (M:RM) : ag bs M M:=⟨rfl,Nat.le_refl _,fun _ _ _=>rfl⟩
theorem ag.trans {bs:List Nat} {M1 M2:RM} (h:ag bs M M1) (k:ag bs M1 M2) : ag bs M M2 :=
 ⟨k.base.trans h.base,Nat.le_trans h.next k.next,fun c hc hb=>(k.heap c (Nat.lt_of_lt_of_le hc h.next) hb).trans (h.heap c hc hb)⟩
theorem ag.push {bs:List Nat} (h:ag bs M M') (x:RB) : ag bs M (M'.push x) :=
 ⟨h.base,Nat.le_succ_of_le h.next,fun c hc hb=>by
  have:=h.next
  simp only[RM.push]; rw[if_neg (by omega)]; exact h.heap c hc hb⟩
theorem ag.put {bs:List Nat} (h:ag bs M M') {b:Nat} (x:RB) (hb:M.next≤b∨b∈bs) : ag bs M (M'.put b x) :=
 ⟨h.base,h.next,fun c hc hcb=>by
  simp only[RM.put]; rw[if_neg]
  ·exact h.heap c hc hcb
  ·rintro rfl; rcases hb with hb | hb
   ·omega
   ·exact hcb hb⟩
theorem ag.del {bs:List Nat} (h:ag bs M M') {b:Nat} (hb:M.next≤b∨b∈bs) : ag bs M (M'.del b) :=
 ⟨h.base,h.next,fun c hc hcb=>by
  simp only[RM.del]; rw[if_neg]
  ·exact h.heap c hc hcb
  ·rintro rfl; rcases hb with hb | hb
   ·omega
   ·exact hcb hb⟩
theorem ag.mono {bs cs:List Nat} (h:ag bs M M') (hs:∀ b∈bs,b∈cs) : ag cs M M':=⟨h.base,h.next,fun c hc hb=>h.heap c hc fun h=>hb (hs c h)⟩
theorem ag.mW {bs:List Nat} {M1 M2:RM} {cs:List Nat} (h:ag bs M M1) (k:ag cs M1 M2) (hn:∀ c∈cs,M.next≤c∨c∈bs) : ag bs M M2 :=
 ⟨k.base.trans h.base,Nat.le_trans h.next k.next,fun c hc hb=>by
  rw[k.heap c (Nat.lt_of_lt_of_le hc h.next) (fun hm=>by rcases hn c hm with h1 | h1; omega; exact hb h1),h.heap c hc hb]⟩
theorem ag.cells {bs:List Nat} (h:ag bs M M') {b:Nat} (hlt:b<M.next) (hb:b ∉ bs) : M'.cells b=M.cells b:=by
 simp only[RM.cells,h.heap b hlt hb,RM.lo,h.base]
theorem ag.cell {bs:List Nat} (h:ag bs M M') {b o:Nat} (hlt:b<M.next) (hb:b ∉ bs) : M'.cell b o=M.cell b o:=by
 simp only[RM.cell,h.cells hlt hb]
theorem ag.loads {bs:List Nat} (h:ag bs M M') {b o k:Nat} (hlt:b<M.next) (hb:b ∉ bs) : M'.loads b o k=M.loads b o k:=by
 simp only[RM.loads,h.cells hlt hb]
@[go_sem] theorem RM.Qn (x:RB) : (M.push x).next=M.next + 1:=rfl
@[go_sem] theorem RM.Rl (b:Nat) (x:RB) : (M.put b x).next=M.next:=rfl
@[go_sem] theorem RM.Rx (b:Nat) : (M.del b).next=M.next:=rfl
@[go_sem] theorem RM.bg (x:RB) : (M.push x).heap M.next=some x:=by simp[RM.push]
theorem RM.Mh {x:RB} {c:Nat} (h:c≠M.next) : (M.push x).heap c=M.heap c:=by simp[RM.push,h]
@[go_sem] theorem RM.jf (b:Nat) (x:RB) : (M.put b x).heap b=some x:=by simp[RM.put]
end
abbrev aR:AV:=.sc (.slice none 0 0)
inductive dQ (M:RM) (size:Nat) : AV→List AV→Nat→Prop
 | nil:dQ M size aR [] 0
 | emp (b:Nat) : dQ M size (.emp b) [] 0
 | slc (b o n:Nat) (cap:Cap) (cs:List AV) : b<M.next→M.loads b o (n * size)=some cs→dQ M size (.slc b o n cap) cs n
section
variable {M M' : RM} {size:Nat} {v:AV} {cs:List AV} {n:Nat}
theorem Dv {b o k:Nat} {cs:List AV} (h:M.loads b o k=some cs) : cs.length=k:=by
 unfold RM.loads at h
 split at h <;> first | (cases h; done) | skip
 split at h <;> first | (cases h; done) | skip
 rename_i hle
 have:=Option.some.inj h
 rw[← this,List.length_take,List.length_drop]; omega
theorem KC {b o k:Nat} {cs:List AV} (h:M.loads b o k=some cs) (i:Nat) (hi:i<k) : M.cell b (o + i)=cs[i]?:=by
 unfold RM.loads at h
 unfold RM.cell
 split at h <;> first | (cases h; done) | skip
 rename_i l hl
 split at h <;> first | (cases h; done) | skip
 cases h
 simp only[hl,Option.bind_some]
 rw[List.getElem?_take,if_pos hi,List.getElem?_drop]
theorem DW {b o k:Nat} {cs:List AV} (h:M.loads b o k=some cs) (i j:Nat) (hij:i + j≤k) : M.loads b (o + i) j=some ((cs.drop i).take j):=by
 unfold RM.loads at h ⊢
 cases hl:M.cells b with
 | none=>rw[hl] at h; cases h
 | some l =>
   rw[hl] at h
   simp only at h ⊢
   split at h
   ·rename_i hle
    have h:=Option.some.inj h
    subst h
    rw[if_pos (by omega),List.drop_take,List.drop_drop,List.take_take]
    congr 2
    omega
   ·cases h
theorem A7 {b o:Nat} {l:List AV} (h:M.cells b=some l) (ho:o≤l.length) : M.loads b o 0=some []:=by
 simp[RM.loads,h,ho]
theorem dQ.length (h:dQ M size v cs n) : cs.length=n * size:=by
 cases h with
 | nil=>exact(Nat.zero_mul _).symm
 | emp=>exact(Nat.zero_mul _).symm
 | slc b o n cap cs hb0 hl=>exact Dv hl
theorem dQ.len (h:dQ M size v cs n) {K:AV→Prop} : dF v K=K (N .i64 n):=by
 cases h with
 | nil=>exact LQ
 | emp b=>exact Mr b
 | slc b o n cap cs hb0 hl=>exact uw b o n cap
theorem dQ.lQ (h:dQ M size v cs n) (zs:List AV) : lQ M size zs false v=some (n,cs):=by
 cases h with
 | nil=>rfl
 | emp b=>rfl
 | slc b o n cap cs hb0 hl=>simp only[Go.Ab.lQ,hl]
theorem dQ.pos (h:dQ M size v cs n) (hn:0<n) : ∃ b o cap,v=.slc b o n cap∧b<M.next∧M.loads b o (n * size)=some cs:=by
 cases h with
 | nil=>omega
 | emp b=>omega
 | slc b o n cap cs hb0 hl=>exact⟨b,o,cap,rfl,hb0,hl⟩
theorem dQ.uI (h:dQ M 1 v cs n) {l:List UInt8} (hb:bu byteOf cs=some l) : uI M v=some l:=by
 cases h with
 | nil=>simp[bu] at hb; subst hb; rfl
 | emp b=>simp[bu] at hb; subst hb; rfl
 | slc b o n cap cs hb0 hl =>
   rw[Nat.mul_one] at hl
   simp only[Go.Ab.uI,hl]; exact hb
def aD:AV→List Nat
 | .slc b _ _ _=>[b]
 | _=>[]
theorem dQ.keep {bs:List Nat} (h:dQ M size v cs n) (hk:ag bs M M') (hb:∀ b∈aD v,b ∉ bs) : dQ M' size v cs n:=by
 cases h with
 | nil=>exact .nil
 | emp b=>exact .emp b
 | slc b o n cap cs hb0 hl =>
   exact .slc b o n cap cs (Nat.lt_of_lt_of_le hb0 hk.next) (by rw[hk.loads hb0 (hb b (by simp[aD]))]; exact hl)
inductive Own (M:RM) (base el size:Nat) : AV→List AV→Nat→Prop
 | nil:Own M base el size aR [] 0
 | ex0 (b o:Nat) : base≤b→b<M.next→(∃ l,M.cells b=some l∧o≤l.length)→Own M base el size (.slc b o 0 (.ex 0)) [] 0
 | op (b n:Nat) (cs:List AV) : base≤b→b<M.next→M.heap b=some (.row cs true el 0)→cs.length=n * size→Own M base el size (.slc b 0 n (.op size)) cs n
theorem Own.Du {base el:Nat} (h:Own M base el size v cs n) : dQ M size v cs n:=by
 cases h with
 | nil=>exact .nil
 | ex0 b o hb hlt hc =>
   obtain⟨l,hl,ho⟩:=hc
   exact .slc b o 0 _ [] hlt (by rw[Nat.zero_mul]; exact A7 hl ho)
 | op b n cs hb hlt hh hl =>
   refine .slc b 0 n _ cs hlt ?_
   rw[RM.nP hh (by omega)]
   simp[← hl]
theorem Own.blk {base el:Nat} (h:Own M base el size v cs n) : ∀ b∈aD v,base≤b∧b<M.next:=by
 cases h with
 | nil=>intro b hb; simp[aD] at hb
 | ex0 b o hb hlt hc=>intro c hc; simp[aD] at hc; subst hc; exact⟨hb,hlt⟩
 | op b n cs hb hlt hh hl=>intro c hc; simp[aD] at hc; subst hc; exact⟨hb,hlt⟩
theorem Own.keep {base el:Nat} {bs:List Nat} (h:Own M base el size v cs n) (hk:ag bs M M') (hb:∀ b∈aD v,b ∉ bs) : Own M' base el size v cs n:=by
 cases h with
 | nil=>exact .nil
 | ex0 b o h1 hlt hc=>exact .ex0 b o h1 (Nat.lt_of_lt_of_le hlt hk.next) (by rw[hk.cells hlt (hb b (by simp[aD]))]; exact hc)
 | op b n cs h1 hlt hh hl=>exact .op b n cs h1 (Nat.lt_of_lt_of_le hlt hk.next) (by rw[hk.heap b hlt (hb b (by simp[aD]))]; exact hh) hl
theorem Own.mono {base base' el:Nat} (h:Own M base el size v cs n) (hb:base'≤base) : Own M base' el size v cs n:=by
 cases h with
 | nil=>exact .nil
 | ex0 b o h1 hlt hc=>exact .ex0 b o (Nat.le_trans hb h1) hlt hc
 | op b n cs h1 hlt hh hl=>exact .op b n cs (Nat.le_trans hb h1) hlt hh hl
theorem yN {base el bytes:Nat} {zs:List AV} {zeros:Bool} {x:AV} {m:Nat} {ds:List AV} {K:af} (h:Own M base el size v cs n) (hbase:base≤M.next) (hs:1≤size) (hx:lQ M size zs zeros x=some (m,ds)) (hd:ds.length=m * size)
  (h1:ds.all oneCell=true) (hb:(n + m) * bytes≤140737488355328) (hb2:n + m≤140737488355328)
  (hK:∀ v' M',Own M' base el size v' (cs++ds) (n + m)→ag (aD v) M M'→M.next≤M'.next→(v'=v∨∀ b∈aD v',M.next≤b)→K v' M') : appW el size bytes zs zeros v x M K:=by
 have hmb:m * bytes≤140737488355328:=Nat.le_trans (Nat.mul_le_mul_right _ (by omega)) hb
 refine⟨m,ds,hx,hmb,by omega, ?_⟩
 cases h with
 | nil =>
   by_cases hm:m=0
   ·subst hm
    have:ds=[]:=List.eq_nil_of_length_eq_zero (by simpa using hd)
    subst this
    exact⟨aR,M,by simp[pQ],hK _ _ .nil (ag.refl _ _) (Nat.le_refl _) (.inl rfl)⟩
   ·refine⟨.slc M.next 0 m (.op size),M.push (.row ds true el 0),by simp only[pQ,if_neg hm,h1,if_true],hK _ _ ?_ ((ag.refl _ _).push _) (by simp[RM.push]) (.inr fun b hb=>by simp[aD] at hb; omega)⟩
    simp only[List.nil_append,Nat.zero_add]
    exact .op _ _ _ hbase (by simp[RM.push]) (RM.bg _) hd
 | ex0 b o hb0 hlt hc =>
   obtain⟨l,hl,ho⟩:=hc
   by_cases hm:m=0
   ·subst hm
    have:ds=[]:=List.eq_nil_of_length_eq_zero (by simpa using hd)
    subst this
    exact⟨_,M,by simp[pQ],hK _ _ (.ex0 b o hb0 hlt ⟨l,hl,ho⟩) (ag.refl _ _) (Nat.le_refl _) (.inl rfl)⟩
   ·refine⟨.slc M.next 0 m (.op size),M.push (.row ds true el 0), ?_,hK _ _ ?_ ((ag.refl _ _).push _) (by simp[RM.push]) (.inr fun b hb=>by simp[aD] at hb; omega)⟩
    ·have hl0:M.loads b o (0 * size)=some []:=by rw[Nat.zero_mul]; exact A7 hl ho
     simp only[pQ,if_neg hm]
     rw[if_neg (by omega),hl0]
     simp only[Nat.zero_add,List.nil_append]
     rw[if_pos ⟨hmb,by omega,h1⟩]
    ·simp only[List.nil_append,Nat.zero_add]
     exact .op _ _ _ hbase (by simp[RM.push]) (RM.bg _) hd
 | op b n cs hb0 hlt hh hl =>
   by_cases hm:m=0
   ·subst hm
    have:ds=[]:=List.eq_nil_of_length_eq_zero (by simpa using hd)
    subst this
    exact⟨_,M,by simp[pQ],hK _ _ (by simpa using .op b n cs hb0 hlt hh hl) (ag.refl _ _) (Nat.le_refl _) (.inl rfl)⟩
   ·have hpos:1≤m * size:=Nat.mul_pos (by omega) hs
    have hsum:(n + m) * size=n * size + m * size:=Nat.add_mul _ _ _
    refine⟨.slc M.next 0 (n + m) (.op size),(M.del b).push (.row (cs++ds) true el 0), ?_,hK _ _ ?_ (((ag.refl _ _).del (.inr (by simp[aD]))).push _) (by simp[RM.push,RM.del]) (.inr fun b hb=>by simp[aD] at hb; omega)⟩
    ·simp only[pQ,if_neg hm,hh,and_self,if_true]
     rw[if_neg (by omega),if_pos ⟨trivial,hb,hb2,trivial,hl,Nat.zero_le _,h1⟩]
    ·exact .op _ _ _ (show base≤M.next from hbase) (by simp[RM.push,RM.del]) (by simp[RM.push,RM.del]) (by rw[List.length_append,hl,hd,hsum])
theorem Own.lit {base el T:Nat} (M:RM) (h:base≤M.next) : Own (M.push (.row [] false T 0)) base el size (.slc M.next 0 0 (.ex 0)) [] 0 :=
 .ex0 _ _ h (by simp[RM.push]) ⟨[],by simp[RM.cells,RM.push],Nat.le_refl _⟩
end
end Go.Ab
set_option maxRecDepth 4000
namespace Go.Ab
open Go
theorem wrap_u8 (n:Nat) : IntKind.wrap .u8 (n:Int)=((n % 256:Nat) : Int):=by
 simp only[IntKind.wrap,IntKind.bits,IntKind.signed,IntKind.max,IntKind.min]
 simp
theorem oQ {n:Int} (h0:0≤n) (h:n<256) : IntKind.wrap .u8 n=n:=by
 obtain⟨m,rfl⟩:=Int.eq_ofNat_of_zero_le h0
 rw[wrap_u8,Nat.mod_eq_of_lt (by omega)]
theorem zJ {n:Int} (h0 : -9223372036854775808≤n) (h:n<9223372036854775808) : IntKind.wrap .i64 n=n:=by
 rw[IntKind.wrap_i64]; omega
theorem Ka (n:Nat) : (UInt8.ofNat n).toNat=n % 256:=by simp
end Go.Ab
namespace Go.Ab
open Go Go.RowKit
section
variable {P:Program}
end
def RM.old (base:Base) (w:World) : RM where
 next:=base.n
 heap:=fun b=>if b<base.n then(match w.heap[b]? with | some (.cells c _ _)=>some (.ro c) | _=>none) else none
 base:=base
def ER (n:Nat) : Ren:=fun b=>if b<n then some ⟨b,0,0,0⟩ else none
theorem Mi {P:Program} {base:Base} {w:World} (hn:base.n=w.heap.size) (hi:base.inv w) : bi P (ER base.n) (RM.old base w) w:=by
 refine⟨{ next:=base.n,heap:=.leaf },rfl,⟨fun b i h=>?_,fun b i x _ h=>by simp[Tree.get] at h,fun b _ i _ x _ _ _ h=>by simp[Tree.get] at h,fun b x h=>by simp[Tree.get] at h,fun b i x _ h=>by simp[Tree.get] at h,hi⟩,by simp[RM.old,RM.lo,hn],fun b x h=>.inr ?_,fun c hc=>by have hc' : c<base.n:=hc; simp only[ER]; rw[if_pos hc']⟩
 ·simp only[ER] at h
  split at h <;> first | (cases h; done) | skip
  cases h
  exact⟨by assumption,by rw[← hn]; assumption⟩
 ·simp only[RM.old] at h
  split at h <;> first | (cases h; done) | skip
  rename_i hlt
  split at h <;> first | (cases h; done) | skip
  rename_i c el fr hh
  cases h
  exact⟨c,rfl,hlt,el,fr,hh⟩
theorem RM.Kw {base:Base} {w:World} {b:Nat} {c:Array Value} {el:TypeId} {fr:_} (hb:b<base.n) (h:w.heap[b]?=some (.cells c el fr)) : (RM.old base w).cells b=some (c.toList.map (lq base.n)):=by
 simp only[RM.cells,RM.old,if_pos hb,h]
def nV (lo:Nat) : Value→AV
 | .agg cs=>.agg (cs.toList.map (lq lo))
 | v=>lq lo v
theorem EX {ρ:Ren} {lo:Nat} (h:∀ c,c<lo→ρ c=some ⟨c,0,0,0⟩) : ∀ (vs:List Value),aA ρ (vs.map (lq lo)) vs
 | []=>.nil
 | v :: vs=>.cons _ _ _ _ (Al h v) (EX h vs)
theorem Mx {ρ:Ren} {lo:Nat} (h:∀ c,c<lo→ρ c=some ⟨c,0,0,0⟩) (v:Value) : aa ρ (nV lo v) v:=by
 unfold nV
 split
 ·exact .agg _ _ (EX h _)
 ·exact Al h v
theorem DU {ρ:Ren} {lo:Nat} (h:∀ c,c<lo→ρ c=some ⟨c,0,0,0⟩) : ∀ (vs:List Value),aA ρ (vs.map (nV lo)) vs
 | []=>.nil
 | v :: vs=>.cons _ _ _ _ (Mx h v) (DU h vs)
theorem dE.close {P:Program} {f:FuncId} {base:Base} {w:World} {us:Array Value} (hn:base.n=w.heap.size) (hi:base.inv w)
  (h:dE P f (us.toList.map (nV base.n)) (RM.old base w) fun v _=>v=Bo true) :
  Calls P f us w fun e w'=>e=.returned (.bool true)∧Below w.heap.size w w':=by
 have hr:=Mi (P:=P) hn hi
 refine((h.2 (ER base.n) w us.toList (DU (fun c hc=>by simp only[ER]; rw[if_pos hc]) _) hr)).mono fun e w' hR=>?_
 obtain⟨v',v,M',ρ',rfl,k1,k2,rfl⟩:=hR
 obtain⟨rfl,_⟩:=av k2
 refine⟨rfl,k1.step.os,k1.step.tape,k1.step.output,k1.step.size,fun k hk=>k1.step.low k ?_⟩
 show k<base.n
 rw[hn]; exact hk
def pO:Option TypeDesc→Bool
 | some .bool | some (.int _) | some .string | some (.slice _) | some (.struct _) | some (.array _ _)=>false
 | _=>true
inductive Fits (P:Program) (M:RM) : TypeId→List AV→Prop
 | bool (t:TypeId) (b:Bool) : P.underlying t=some .bool→Fits P M t [Bo b]
 | int (t:TypeId) (k:IntKind) (n:Int) : P.underlying t=some (.int k)→k.min≤n→n≤k.max→Fits P M t [N k n]
 | str (t:TypeId) (s:List UInt8) : P.underlying t=some .string→s.length≤reachBytes→Fits P M t [St s]
 | MC (t e:TypeId) : P.underlying t=some (.slice e)→Fits P M t [aR]
 | emp (t e:TypeId) (b:Nat) : P.underlying t=some (.slice e)→Fits P M t [.emp b]
 | slc (t e:TypeId) (b o n c:Nat) (cs:List AV) : P.underlying t=some (.slice e)→b<M.next→n≤c→c * P.bytesOf e≤reachBytes→M.loads b o (n * P.cellsOf e)=some cs →
   (∀ i,i<n→Fits P M e ((cs.drop (i * P.cellsOf e)).take (P.cellsOf e)))→Fits P M t [.slc b o n (.ex c)]
 | struct (t:TypeId) (fs:Array Field) (cs:List AV) : P.underlying t=some (.struct fs)→cs.length=P.cellsOf t →
   (∀ (i:Nat) (f:Field),fs[i]?=some f→Fits P M f.type ((cs.drop f.offset).take (P.cellsOf f.type)))→Fits P M t cs
 | array (t e:TypeId) (n:Nat) (cs:List AV) : P.underlying t=some (.array n e)→cs.length=P.cellsOf t →
   (∀ i,i<n→Fits P M e ((cs.drop (i * P.cellsOf e)).take (P.cellsOf e)))→Fits P M t cs
 | other (t:TypeId) (cs:List AV) : pO (P.underlying t)=true→Fits P M t cs
 | zero (t e:TypeId) (cs:List AV) : P.underlying t=some (.slice e)→P.cellsOf e=0→Fits P M t cs
theorem u6 (a:Addr) : a.add 0=a:=by simp[Addr.add]
theorem oI {w:World} {base:Nat} {a:Addr} {n:Nat} {cs:List Value} (h:w.cells? base a n=some cs) : cs.length=n∧∀ i,i<n→w.cell? (a.add i)=cs[i]?:=by
 unfold World.cells? at h
 split at h
 ·exact⟨by simpa using mapM_some_length h,fun i hi=>mapM_some_get h i i (by simp[hi])⟩
 ·cases h
theorem cell?_at {w:World} {a:Addr} {v:Value} (h:w.cell? a=some v) : ∃ c el fr,w.heap[a.block]?=some (.cells c el fr)∧a.spot=none∧a.off<c.size∧c[a.off]?=some v:=by
 unfold World.cell? at h
 split at h
 ·rename_i c el fr hh
  split at h
  ·cases h
  ·rename_i hs
   exact⟨c,el,fr,hh,by simpa using hs,(Array.getElem?_eq_some_iff.1 h).1,h⟩
 ·cases h
section
variable {H:Type} {enc:TypeId × Value→H} {P:Program} {base:Base} {w:World}
end
section
variable {P:Program} {M:RM} {t:TypeId} {cs:List AV}
theorem DR {α:Type} {size:Nat} (enc:α→List AV) (p:α→Prop) (hs:∀ a,(enc a).length=size) : ∀ (n:Nat) (ds:List AV),ds.length=n * size→(∀ i,i<n→∃ a,p a∧(ds.drop (i * size)).take size=enc a) →
  ∃ xs:List α,xs.length=n∧ds=xs.flatMap enc∧∀ x∈xs,p x
 | 0,ds,hl,_=>⟨[],rfl,by simpa using hl,by simp⟩
 | n + 1,ds,hl,h=>by
   obtain⟨a,pa,ha⟩:=h 0 (by omega)
   simp only[Nat.zero_mul,List.drop_zero] at ha
   have hl' : (ds.drop size).length=n * size:=by rw[List.length_drop,hl,Nat.succ_mul]; omega
   obtain⟨xs,h1,h2,h3⟩:=DR enc p hs n (ds.drop size) hl' fun i hi=>by
    obtain⟨b,pb,hb⟩:=h (i + 1) (by omega)
    refine⟨b,pb, ?_⟩
    rw[List.drop_drop,← hb,Nat.succ_mul,Nat.add_comm]
   refine⟨a :: xs,by simp[h1], ?_,fun x hx=>?_⟩
   ·rw[List.flatMap_cons,← h2,← ha,List.take_append_drop]
   ·rcases List.mem_cons.1 hx with rfl | hx
    ·exact pa
    ·exact h3 x hx
end
def ui (P:Program) (t:TypeId) : Bool :=
 match P.underlying t with
 | some (.struct _) | some (.array _ _)=>true
 | _=>false
def yI (P:Program) (M:RM) (t:TypeId) (v:AV) : Prop :=
 match ui P t with
 | true=>∃ cs,v=.agg cs∧Fits P M t cs
 | false=>Fits P M t [v]
theorem yI.agg {P:Program} {M:RM} {t:TypeId} {v:AV} (h:yI P M t v) (ha:ui P t=true) : ∃ cs,v=.agg cs∧Fits P M t cs:=by
 unfold yI at h; rw[ha] at h; exact h
theorem yI.one {P:Program} {M:RM} {t:TypeId} {v:AV} (h:yI P M t v) (ha:ui P t=false) : Fits P M t [v]:=by
 unfold yI at h; rw[ha] at h; exact h
section
variable {H:Type} {enc:TypeId × Value→H} {P:Program} {base:Base} {w:World}
theorem Fp {r:Reach} {b:Nat} {t:TypeId} {cs:Array Value} (h:Cell.okWide P w r b t (.agg cs)) : False:=by
 unfold Cell.okWide at h
 split at h <;> first | (rename_i e _; cases e; done) | skip
 all_goals first | (rename_i e; cases e; done) | skip
 unfold Cell.ok at h
 split at h <;> first | exact h | simp_all
theorem vD (hl:laidOutB P=true) {W W' : World} {sp:Nat→Bool} (hb:Below W.heap.size W W') : ∀ {ts:List TypeId} {vs:List Value} {ds:List (DataW H)} {ps:List MemPlace},
  (∀ t∈ts,P.readableRec t=true∧t<P.types.size)→DataW.TrodAll enc P W 0 (fun _=>true) true ts vs ds ps→(∀ p∈ps,p.block<W.heap.size)→(∀ p∈ps,sp p.block=true)→DataW.TrodAll enc P W' 0 sp true ts vs ds ps
 | [],vs,ds,ps,_,h,_,_=>by
   cases vs <;> cases ds <;> first | exact h | exact h.elim
 | t :: ts,vs,ds,ps,hr,h,hlt,hsp=>by
   cases vs with
   | nil=>cases ds <;> exact h.elim
   | cons v vs =>
   cases ds with
   | nil=>exact h.elim
   | cons d ds =>
   obtain⟨p,q,h1,h2,rfl⟩:=h
   have hrt:=hr t (List.mem_cons_self ..)
   exact⟨p,q,WideElems.Trod_stays hl hrt.1 hrt.2 h1 (fun x hx=>hb.same (hlt x (List.mem_append_left _ hx))) (fun x hx=>hsp x (List.mem_append_left _ hx)),
    vD hl hb (fun t ht=>hr t (List.mem_cons_of_mem _ ht)) h2 (fun x hx=>hlt x (List.mem_append_right _ hx)) (fun x hx=>hsp x (List.mem_append_right _ hx)),rfl⟩
end
def RB.cells (lo:Nat) : RB→Option (List AV)
 | .row l _ _ _=>some l
 | .ro c=>some (c.toList.map (lq lo))
 | _=>none
@[go_sem] theorem RB.qU (lo:Nat) (l:List AV) (p:Bool) (e f:Nat) : RB.cells lo (.row l p e f)=some l:=rfl
theorem RM.Ao (M:RM) (b:Nat) : M.cells b=(M.heap b).bind (RB.cells M.lo):=by
 unfold RM.cells RB.cells
 cases M.heap b with
 | none=>rfl
 | some x=>cases x <;> rfl
def qw (l:Option (List AV)) (o k:Nat) : Option (List AV) :=
 match l with
 | some l=>if o + k≤l.length then some ((l.drop o).take k) else none
 | none=>none
@[go_sem] theorem Po (l:List AV) (o k:Nat) : qw (some l) o k=if o + k≤l.length then some ((l.drop o).take k) else none:=rfl
theorem RM.zX (M:RM) (b o k:Nat) : M.loads b o k=qw (M.cells b) o k:=rfl
section
variable {M M' : RM}
@[go_sem] theorem RM.Kn (x:RB) (c:Nat) : (M.push x).heap c=if c=M.next then some x else M.heap c:=rfl
@[go_sem] theorem RM.heap_put (b:Nat) (x:RB) (c:Nat) : (M.put b x).heap c=if c=b then some x else M.heap c:=rfl
@[go_sem] theorem RM.QD (b:Nat) (c:Nat) : (M.del b).heap c=if c=b then none else M.heap c:=rfl
@[go_sem] theorem RM.Lb (x:RB) : (M.push x).base=M.base:=rfl
@[go_sem] theorem RM.Mt (b:Nat) (x:RB) : (M.put b x).base=M.base:=rfl
@[go_sem] theorem RM.Rc (b:Nat) : (M.del b).base=M.base:=rfl
theorem RM.Bn (x:RB) (c:Nat) : (M.push x).cells c=if c=M.next then x.cells M.lo else M.cells c:=by
 simp only[RM.Ao,RM.Kn]
 split <;> rfl
theorem RM.DF (b:Nat) (x:RB) (c:Nat) : (M.put b x).cells c=if c=b then x.cells M.lo else M.cells c:=by
 simp only[RM.Ao,RM.heap_put]
 split <;> rfl
@[go_sem] theorem RM.Qu (x:RB) (c o:Nat) : (M.push x).cell c o=if c=M.next then(x.cells M.lo).bind (·[o]?) else M.cell c o:=by
 simp only[RM.cell,RM.Bn]
 split <;> rfl
@[go_sem] theorem RM.QP (b:Nat) (x:RB) (c o:Nat) : (M.put b x).cell c o=if c=b then(x.cells M.lo).bind (·[o]?) else M.cell c o:=by
 simp only[RM.cell,RM.DF]
 split <;> rfl
@[go_sem] theorem RM.PS (x:RB) (c o k:Nat) : (M.push x).loads c o k=if c=M.next then qw (x.cells M.lo) o k else M.loads c o k:=by
 simp only[RM.zX,RM.Bn]
 split <;> rfl
@[go_sem] theorem RM.Qs (b:Nat) (x:RB) (c o k:Nat) : (M.put b x).loads c o k=if c=b then qw (x.cells M.lo) o k else M.loads c o k:=by
 simp only[RM.zX,RM.DF]
 split <;> rfl
def j4 (l:List AV) (fz o:Nat) (vs:List AV) : Option (List AV) :=
 if o + vs.length≤l.length∧fz≤o∧vs.all oneCell=true then some (l.take o++vs++l.drop (o + vs.length)) else none
theorem fC {l vs:List AV} {fz o:Nat} (h1:o + vs.length≤l.length) (h2:fz≤o) (h3:vs.all oneCell=true) : j4 l fz o vs=some (l.take o++vs++l.drop (o + vs.length)):=if_pos ⟨h1,h2,h3⟩
@[go_sem] theorem D8 {l vs:List AV} (h:vs.length=l.length) (h3:vs.all oneCell=true) : j4 l 0 0 vs=some vs:=by
 rw[fC (by omega) (Nat.le_refl _) h3]
 simp[h]
theorem RM.q8 {b o:Nat} {vs l:List AV} {p:Bool} {e f:Nat} (h:M.heap b=some (.row l p e f)) : M.stores b o vs=(j4 l f o vs).map fun l'=>M.put b (.row l' p e f):=by
 simp only[RM.stores,h,j4]
 split <;> rfl
theorem RM.MI {x y:RB} : (M.push x).put M.next y=M.push y:=by
 simp only[RM.put,RM.push]
 congr 1
 funext c
 split <;> rfl
theorem RM.FY {x y:RB} {b:Nat} (hb:b≠M.next) : (M.push x).put b y=(M.put b y).push x:=by
 simp only[RM.put,RM.push]
 congr 1
 funext c
 by_cases h1:c=b
 ·subst h1; simp[hb]
 ·simp[h1]
theorem RM.Co {l vs:List AV} {p:Bool} {e f o:Nat} : (M.push (.row l p e f)).stores M.next o vs=(j4 l f o vs).map fun l'=>M.push (.row l' p e f):=by
 rw[RM.q8 (RM.bg _)]
 congr 1
 funext l'
 exact RM.MI
theorem RM.BC {M:RM} {b o:Nat} {vs:List AV} : M.stores b o vs=match M.heap b with
  | some (.row l p e f)=>(j4 l f o vs).map fun l'=>M.put b (.row l' p e f)
  | _=>none:=by
 cases h:M.heap b with
 | none=>simp[RM.stores,h]
 | some x =>
   cases x with
   | row l p e f=>rw[RM.q8 h]
   | _=>simp[RM.stores,h]
@[go_sem] theorem RM.Bd {x:RB} {vs:List AV} {c o:Nat} (hc:c≠M.next) : (M.push x).stores c o vs=(M.stores c o vs).map (·.push x):=by
 rw[RM.BC,RM.BC,RM.Mh hc]
 split
 ·simp only[Option.map_map]
  congr 1
  funext l'
  exact RM.FY hc
 ·rfl
@[go_sem] theorem RM.Pn {l vs:List AV} {p:Bool} {e f c o:Nat} : (M.push (.row l p e f)).stores c o vs =
  if c=M.next then(j4 l f o vs).map fun l'=>M.push (.row l' p e f) else(M.stores c o vs).map (·.push (.row l p e f)):=by
 split
 ·rename_i h; subst h; exact RM.Co
 ·rename_i h; exact RM.Bd h
@[go_sem] theorem RM.Nj {b o:Nat} {l vs:List AV} {p:Bool} {e f:Nat} : (M.put b (.row l p e f)).stores b o vs=(j4 l f o vs).map fun l'=>M.put b (.row l' p e f):=by
 rw[RM.q8 (RM.jf _ _)]
 congr 1
 funext l'
 simp only[RM.put]
 congr 1
 funext c
 split <;> rfl
@[go_sem] theorem RH {α:Type} (a:α) (K:α→Prop) : (∃ x,some a=some x∧K x)=K a:=by simp
@[go_sem] theorem Pq {α β:Type} (f:α→β) (x:α) : (some x).map f=some (f x):=rfl
theorem RM.kN (b:Nat) (x:RB) : (M.put b x).next=M.next:=rfl
attribute [go_sem] Int.natCast_nonneg Int.toNat_natCast Nat.mul_one true_implies false_implies Bool.false_eq_true Bool.true_eq_false Bool.not_true Bool.not_false Bool.and_self Bool.and_true Bool.true_and Nat.le_refl List.append_nil List.nil_append if_true if_false Nat.lt_irrefl Nat.add_one_ne_zero true_and and_true Nat.zero_add Nat.add_zero List.drop_zero List.getElem?_cons_zero List.getElem?_cons_succ Option.bind_some List.take_succ_cons List.take_zero List.drop_succ_cons List.drop_nil List.take_nil
attribute [go_sem] qd List.all_cons List.all_nil List.length_cons List.length_nil
@[go_sem] theorem Qi (cs:List AV) : (AV.agg cs).cells=cs:=rfl
@[go_sem] theorem Q4 (v:Value) : (AV.sc v).cells=[.sc v]:=rfl
@[go_sem] theorem Qm (b o:Nat) : (AV.ptr b o).cells=[.ptr b o]:=rfl
@[go_sem] theorem Qo (b o n:Nat) (c:Cap) : (AV.slc b o n c).cells=[.slc b o n c]:=rfl
@[go_sem] theorem Qj (b:Nat) : (AV.emp b).cells=[.emp b]:=rfl
@[go_sem] theorem Qt (b:Nat) : (AV.map b).cells=[.map b]:=rfl
@[go_sem] theorem QL (f:Fn) (xs ys:List AV) : (AV.fn f xs ys).cells=[.fn f xs ys]:=rfl
@[go_sem] theorem iP (v:Value) : oneCell (.sc v)=true:=rfl
@[go_sem] theorem RG (b o:Nat) : oneCell (.ptr b o)=true:=rfl
@[go_sem] theorem RN (b o n:Nat) (c:Cap) : oneCell (.slc b o n c)=true:=rfl
@[go_sem] theorem RO (b:Nat) : oneCell (.emp b)=true:=rfl
@[go_sem] theorem RP (b:Nat) : oneCell (.map b)=true:=rfl
@[go_sem] theorem Sa (f:Fn) (xs ys:List AV) : oneCell (.fn f xs ys)=true:=rfl
end
theorem RM.MH {M:RM} {b:Nat} {l:List AV} {p:Bool} {e f:Nat} (h:M.heap b=some (.row l p e f)) (o k:Nat) : M.loads b o k=qw (some l) o k:=by rw[RM.zX,RM.qU h]
theorem RM.cell_of {M:RM} {b:Nat} {l:List AV} {p:Bool} {e f:Nat} (h:M.heap b=some (.row l p e f)) (o:Nat) : M.cell b o=l[o]?:=RM.LP h
theorem RM.iZ {M:RM} {b:Nat} {l:List AV} {p:Bool} {e f:Nat} (h:M.heap b=some (.row l p e f)) (o:Nat) (vs:List AV) : M.stores b o vs=(j4 l f o vs).map fun l'=>M.put b (.row l' p e f):=RM.q8 h
theorem ag.aS {bs:List Nat} {M M' : RM} (h:ag bs M M') {b:Nat} {x:RB} (hh:M.heap b=some x) (hlt:b<M.next) (hb:b ∉ bs) : M'.heap b=some x:=by rw[h.heap b hlt hb,hh]
end Go.Ab
