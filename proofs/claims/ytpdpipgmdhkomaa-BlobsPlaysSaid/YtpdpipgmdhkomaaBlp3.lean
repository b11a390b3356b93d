/- Part 3 of the ground of the proofs of this seat (texts R5 to R14). By an AI agent. -/
import Derived.Test.YtpdpipgmdhkomaaBlp2
import Derived.Lib.UnsafeStr
import Derived.Scope
import Derived.ChangeShapes
import Derived.OpenShut
import Derived.WideKeyArgs
import GoSem.ClaimJoined
set_option linter.unusedVariables false
set_option linter.unusedSimpArgs false
namespace Go.Ab
open Go Go.RowKit
abbrev ak:=AV→RM→Prop
def Ka (P:Program) (f:FuncId) : Prop:=∃ fn c,P.funcs[f]?=some fn∧fn.body=some c
def iy (P:Program) (f:FuncId) (args:List AV) (M:RM) (Q:ak) : Prop :=
 Ka P f∧∀ (ρ:Ren) (w:World) (us:List Value),aR ρ args us→bC P ρ M w →
  Calls P f ⟨us⟩ w fun e w'=>∃ v' v M' ρ',e=.returned v'∧After P M ρ w M' ρ' w'∧aj ρ' v v'∧Q v M'
theorem iy.mono {P:Program} {f:FuncId} {args:List AV} {M:RM} {Q Q' : ak} (h:iy P f args M Q) (hq:∀ v M',Q v M'→Q' v M') : iy P f args M Q' :=
 ⟨h.1,fun ρ w us a b=>(h.2 ρ w us a b).mono fun e w' ⟨v',v,M',ρ',c,d,f,g⟩=>⟨v',v,M',ρ',c,d,f,hq _ _ g⟩⟩
def lC (P:Program) (o:Oper) (e:Operand→AV) (M:RM) (K:ak) : Prop :=
 ∀ (ρ:Ren) (w:World) (c:Operand→Value),bC P ρ M w→(∀ x∈o.op.operands,aj ρ (e x) (c x))→∃ M' ρ' w',After P M ρ w M' ρ' w' ∧
   ((∃ v' v,(execOp c o).run P w=.ok (.value v') w'∧aj ρ' v v'∧K v M')∨((execOp c o).run P w=.ok .skip w'∧K .undef M') ∨
     ∃ f args us,(execOp c o).run P w=.ok (.enter f ⟨us⟩) w'∧aR ρ' args us∧iy P f args M' K)
def aS (M:RM) (a x:AV) (n:Nat) (K:RM→Prop) : Prop:=∃ b p M',a=.ptr b p∧x.cells.length=n∧M.stores b p x.cells=some M'∧K M'
def mr (M:RM) (size:Nat) (zs:List AV) (zeros:Bool) (x:AV) : Option (Nat × List AV) :=
 match zeros with
 | true=>match x with
   | .sc (.int _ n)=>if 0≤n then some (n.toNat,ig zs n.toNat) else none
   | _=>none
 | false=>match x with
   | .slc b o len _=>match M.loads b o (len * size) with
     | some vs=>some (len,vs)
     | none=>none
   | .emp _=>some (0,[])
   | .sc (.slice none 0 0)=>some (0,[])
   | .sc (.string s)=>if size=1 then some (s.data.toList.length,s.data.toList.map fun b=>N .u8 b.toNat) else none
   | _=>none
def sU (elem size bytes n:Nat) (new:List AV) (s:AV) (M:RM) : Option (AV × RM) :=
 match s with
 | .sc (.slice none 0 0)=>if n=0 then some (s,M) else if new.all oneCell=true then some (.slc M.next 0 n (.op size),M.push (.row new true elem 0)) else none
 | .emp _=>if n=0 then some (s,M) else none
 | .slc b o len (.ex c)=>if n=0 then(if len≤c then some (s,M) else none) else if len + n≤c then(match M.stores b (o + len * size) new with
   | some M'=>some (.slc b o (len + n) (.ex c),M')
   | none=>none)
   else match M.loads b o (len * size) with
    | some old=>if (len + n) * bytes≤140737488355328∧len + n≤140737488355328∧(old++new).all oneCell=true then some (.slc M.next 0 (len + n) (.op size),M.push (.row (old++new) true elem 0)) else none
    | none=>none
 | .slc b o len (.op esz)=>if n=0 then some (s,M) else match M.heap b with
   | some (.row l opn el fz)=>if opn=true∧esz=size then
     (if o + (len + n) * size≤l.length then(match M.stores b (o + len * size) new with
      | some M'=>some (.slc b o (len + n) (.op esz),M')
      | none=>none)
     else if el=elem∧(len + n) * bytes≤140737488355328∧len + n≤140737488355328∧o=0∧l.length=len * size∧fz≤len * size∧new.all oneCell=true then
      some (.slc M.next 0 (len + n) (.op size),(M.del b).push (.row (l++new) true elem fz)) else none) else none
   | _=>none
 | _=>none
def appW (elem size bytes:Nat) (zs:List AV) (zeros:Bool) (s x:AV) (M:RM) (K:ak) : Prop :=
 ∃ n new,mr M size zs zeros x=some (n,new)∧n * bytes≤140737488355328∧n≤140737488355328∧∃ v M',sU elem size bytes n new s M=some (v,M')∧K v M'
def firstM (M:RM) (size k:Nat) : AV→Option (List AV)
 | .slc b o _ _=>M.loads b o (k * size)
 | .sc (.string s)=>if size=1 then some ((s.data.toList.take k).map fun b=>N .u8 b.toNat) else none
 | _=>none
def SA (size:Nat) (d x:AV) (M:RM) : Option (AV × RM) :=
 match d with
 | .slc b o dn _=>match AX x with
   | some sn=>if Nat.min sn dn=0 then some (N .i64 0,M) else match firstM M size (Nat.min sn dn) x with
     | some vs=>match M.stores b o vs with
       | some M'=>some (N .i64 (Nat.min sn dn:Nat),M')
       | none=>none
     | none=>none
   | none=>none
 | .emp _ | .sc (.slice none 0 0)=>match AX x with
   | some _=>some (N .i64 0,M)
   | none=>none
 | _=>none
def abT (size:Nat) (d x:AV) (M:RM) (K:ak) : Prop:=∃ v M',SA size d x M=some (v,M')∧K v M'
def Mx (zs:List AV) (x:AV) (M:RM) (K:ak) : Prop :=
 (∃ b p n cap M',x=.slc b p n cap∧M.stores b p (ig zs n)=some M'∧K .undef M')∨(∃ b,x=.emp b∧K .undef M)∨(x=.sc (.slice none 0 0)∧K .undef M)
def ql (C:FuncId→List AV→RM→ak→Prop) (f:AV) (args:List AV) (M:RM) (K:ak) : Prop:=∃ g first cap,f=.fn (.func g) first cap∧C g (first++args++cap) M K
def Yk (P:Program) (g:FuncId) (args:List AV) (M:RM) (v:AV) : Prop :=
 ∀ (ρ:Ren) (w:World) (us:List Value),aR ρ args us→bC P ρ M w→∃ u,(callFunc g ⟨us⟩).run P w=.ok (.value u) w∧aj ρ v u
def Ya (P:Program) (g:FuncId) (args:List AV) (M:RM) (v:AV) (M' : RM) : Prop :=
 ∀ (ρ:Ren) (w:World) (us:List Value),aR ρ args us→bC P ρ M w→∃ ρ' w' u,(callFunc g ⟨us⟩).run P w=.ok (.value u) w'∧After P M ρ w M' ρ' w'∧aj ρ' v u
def abf (P:Program) (g:FuncId) (args:List AV) (M:RM) (K:ak) : Prop :=
 (∃ v,Jh P g args=some (.value v)∧K v M) ∨
 ((∃ fn t elem size tr,P.funcs[g]?=some fn∧fn.body=none∧Extern.findNext fn=none∧Extern.find fn=some (Extern.SlicesOverlaps.overlaps #[t,t] #[tr])∧P.underlying t=some (.slice elem)∧aZ P elem=some size) ∧
   (∃ ba oa na ca bb ob nb cb la ea fa lb opb eb fb,args=[.slc ba oa na ca,.slc bb ob nb cb]∧ba≠bb∧M.heap ba=some (.row la false ea fa)∧M.heap bb=some (.row lb opb eb fb)∧fa=0∧oa + 1≤la.length∧1≤lb.length)∧K (Bo false) M) ∨
 ((∃ fn,P.funcs[g]?=some fn∧fn.body=none∧Extern.findNext fn=none∧Extern.find fn=some Extern.AbiNoEscape.same)∧∃ v,args=[v]∧K v M) ∨
 (∃ v,Yk P g args M v∧K v M) ∨
 ∃ v M',Ya P g args M v M'∧K v M'
def aar (x:AV) (M:RM) (K:ak) : Prop:=∃ b s pos,x=.ptr b 0∧M.heap b=some (.jq s pos) ∧
 if pos<s.length then K (.tup [Bo true,N .i64 pos,N .i32 (Utf8.decode ⟨⟨s⟩⟩ pos).1]) (M.put b (.jq s (pos + (Utf8.decode ⟨⟨s⟩⟩ pos).2))) else K (.tup [Bo false]) M
def E8 (x:AV) (M:RM) (K:ak) : Prop:=∃ m es cl,x=.map m∧M.heap m=some (.map es cl)∧K (.ptr M.next 0) (M.push (.iter (some m) cl [] cl))
def IG (x:AV) (M:RM) (K:ak) : Prop:=∃ b m since seen stepped es cl,x=.ptr b 0∧M.heap b=some (.iter (some m) since seen stepped)∧M.heap m=some (.map es cl) ∧
 (seen=[]∨es=[]∨∃ n∈es,n.2.2<stepped)∧(∀ n∈es,n.2.2 ∉ seen→K (.tup [Bo true,n.1,n.2.1]) (M.put b (.iter (some m) since (seen++[n.2.2]) cl)))∧((∀ n∈es,n.2.2 ∉ seen→since≤n.2.2)→K (.tup [Bo false]) M)
def Rk (x:AV) (M:RM) (K:ak) : Prop:=∃ b p n c l el,x=.slc b p n (.ex c)∧M.heap b=some (.row l false el 0)∧K x (M.put b (.row l false el (l.length + 1)))
def abD (el:Nat) (x n:AV) (M:RM) (K:ak) : Prop :=
 (∃ b k l opn fz s,x=.ptr b 0∧n=N .i64 ((k + 1:Nat) : Int)∧k≤4611686018427387904∧M.heap b=some (.row l opn el fz)∧k + 1≤l.length∧di byteOf (l.take (k + 1))=some s∧K (St s) (M.del b)) ∨
 (x=.sc (.pointer none)∧n=N .i64 0∧K (St []) M)
def CU (k v:AV) : List (AV × AV × Nat)→Nat→List (AV × AV × Nat)
 | [],_=>[]
 | (_,_,n) :: es,0=>(k,v,n) :: es
 | x :: es,i + 1=>x :: CU k v es i
def Ci (es:List (AV × AV × Nat)) (c:Nat) (k v:AV) : Option (Nat × AV)→RB
 | some (i,_)=>.map (CU k v es i) c
 | none=>.map (es++[(k,v,c)]) (c + 1)
def nk (a:Bool) (ks:List Nat) (M:RM) (m k v:AV) (K:RM→Prop) : Prop :=
 ∃ b es c kc r,m=.map b∧M.heap b=some (.map es c)∧fJ a k=some kc∧kc.length=ks.length∧jO a ks kc es 0=some r∧K (M.put b (Ci es c k v r))
def Kn (es:List (AV × AV × Nat)) (c:Nat) : Option (Nat × AV)→RB
 | some (i,_)=>.map (es.eraseIdx i) c
 | none=>.map es c
def J9 (a:Bool) (ks:List Nat) (M:RM) (m k:AV) (K:ak) : Prop :=
 ∃ b es c kc r,m=.map b∧M.heap b=some (.map es c)∧fJ a k=some kc∧kc.length=ks.length∧jO a ks kc es 0=some r∧K (.tup []) (M.put b (Kn es c r))
def iG (P:Program) (o:Oper) (e:Operand→AV) (M:RM) (K:ak) : Prop :=
 match o.op with
 | .store t a x=>match aZ P t with
   | some n=>aS M (e a) (e x) n (K .undef)
   | none=>False
 | .call { callee:=.builtin .append,args,argTypes } => match argTypes[0]?,args with
   | some t,⟨[s,x]⟩=>match P.underlying t,lq P argTypes with
     | some (.slice elem),some zeros=>match aZ P elem,wH P elem,iK P elem with
       | some size,some bytes,some zs=>match Nat.ble 1 size,Nat.beq zs.length size with
         | true,true=>appW elem size bytes zs zeros (e s) (e x) M K
         | _,_=>False
       | _,_,_=>False
     | _,_=>False
   | _,_=>False
 | .call { callee:=.builtin .copy,args,argTypes } => match argTypes[0]?,args with
   | some t,⟨[s,x]⟩=>match P.underlying t with
     | some (.slice elem)=>match aZ P elem with
       | some size=>abT size (e s) (e x) M K
       | none=>False
     | _=>False
   | _,_=>False
 | .call { callee:=.builtin .clear,args,argTypes } => match argTypes[0]?,args with
   | some t,⟨[x]⟩=>match P.underlying t with
     | some (.slice elem)=>match aZ P elem,iK P elem with
       | some size,some zs=>match Nat.ble 1 size,Nat.beq zs.length size with
         | true,true=>Mx zs (e x) M K
         | _,_=>False
       | _,_=>False
     | _=>False
   | _,_=>False
 | .call { callee:=.builtin .unsafeString,args,argTypes } => match argTypes[0]?,args with
   | some t,⟨[x,n]⟩=>match P.underlying t with
     | some (.pointer el)=>match P.underlying el,Nat.beq (P.cellsOf el) 1 with
       | some (.int .u8),true=>abD el (e x) (e n) M K
       | _,_=>False
     | _=>False
   | _,_=>False
 | .call { callee:=.value (.func g),args,.. } => match P.funcs[g]? with
   | some fn=>match fn.body with
     | some _=>iy P g (args.toList.map e) M K
     | none=>abf P g (args.toList.map e) M K
   | none=>False
 | .call { callee:=.value f,args,.. } => ql (iy P) (e f) (args.toList.map e) M K
 | .next it true=>aar (e it) M K
 | .next it false=>IG (e it) M K
 | .range t x=>match P.underlying t with
   | some (.map _ _)=>E8 (e x) M K
   | _=>False
 | .mapUpdate t m k x=>match P.underlying t with
   | some (.map kt _)=>match ja P 10 kt,dm P kt with
     | some ks,some a=>nk a ks M (e m) (e k) (e x) (K .undef)
     | _,_=>False
   | _=>False
 | .call { callee:=.builtin .delete,args,argTypes } => match argTypes[0]?,args with
   | some t,⟨[m,k]⟩=>match P.underlying t with
     | some (.map kt _)=>match ja P 10 kt,dm P kt with
       | some ks,some a=>J9 a ks M (e m) (e k) K
       | _,_=>False
     | _=>False
   | _,_=>False
 | .convert src dst x=>match Nat.beq src dst,P.underlying src with
   | true,some (.slice el)=>match P.underlying el with
     | some (.int .u8)=>Rk (e x) M K
     | _=>False
   | _,_=>False
 | _=>False
section
variable {P:Program} {ρ:Ren} {o:Oper} {e:Operand→AV} {c:Operand→Value} {M:RM} {w:World} {K:ak}
structure tT (P:Program) : Prop where
 ng:∀ (f:FuncId) (fn:Func),P.funcs[f]?=some fn→fn.name ≠ "runtime.NumGoroutine"
 mixed:P.follows .mixedOrders=true
theorem Wh (hw:bC P ρ M w) {elem size:Nat} {zs:List AV} {zeros:Bool} {x:AV} {u:Value} {n:Nat} {new:List AV} (hx:aj ρ x u) (hzs:iK P elem=some zs) (h1:1≤size) (h2:zs.length=size)
  (h:mr M size zs zeros x=some (n,new)) : ∃ us,Gl P ρ w elem size zeros u n new us:=by
 unfold mr at h
 split at h
 ·split at h <;> first | (cases h; done) | skip
  rename_i k m
  split at h <;> first | (cases h; done) | skip
  rename_i hm
  cases h
  obtain⟨it,z,hi,hz,hr⟩:=iT (ρ:=ρ) hzs
  obtain⟨rfl,_⟩:=aN hx
  have hl:=hr.length
  simp only[Array.length_toList] at hl
  refine⟨(Builtin.zeroCells z.cells m.toNat).toList,by rw[← GX]; exact zX hr (by omega) _,by rw[Array.length_toList,size_zeroCells,← hl,h2],(by simp only[if_true]; exact⟨k,by congr 1; omega⟩),(fun e=>by cases e),fun _=>⟨it,z,hi,hz,rfl⟩⟩
 ·split at h <;> first | (cases h; done) | skip
  ·rename_i b o len cap
   split at h <;> first | (cases h; done) | skip
   rename_i xs hl
   cases h
   obtain⟨i,cp,hb,rfl⟩:=eX hx
   obtain⟨vs,hr,hlen,hcell⟩:=RM.gu hw hb hl
   refine⟨vs,hr,hlen,by simp[Builtin.lenOf],fun _ w' hw'=>?_,fun e=>by cases e⟩
   have:=run_loadCells_list (P:=P) w' ⟨i.cb,i.sh + o,none⟩ vs (fun j v hj=>by rw[← hcell j v hj]; simp[World.cell?,hw'])
   rw[hlen] at this
   simp[Builtin.firstCells,this]
  ·cases h
   cases hx with
   | emp b ad c =>
   exact⟨[],.nil,by simp,by simp[Builtin.lenOf],fun _ _ _=>by simp[Builtin.firstCells,loadCells,loadCellsFrom],fun e=>by cases e⟩
  ·cases h
   obtain⟨rfl,_⟩:=aN hx
   exact⟨[],.nil,by simp,by simp[Builtin.lenOf],fun _ _ _=>by simp[Builtin.firstCells],fun e=>by cases e⟩
  ·rename_i s
   split at h <;> first | (cases h; done) | skip
   rename_i hsz
   cases h
   subst hsz
   obtain⟨rfl,_⟩:=aN hx
   refine⟨_,Li s,by simp,by simp[Builtin.lenOf],fun _ _ _=>?_,fun e=>by cases e⟩
   simp only[Builtin.firstCells,Sem.run_pure]
   congr 1
   have:(s.extract 0 s.data.toList.length)=s:=by
    have h:s.data.toList.length=s.size:=by rw[Array.length_toList]; rfl
    rw[h]; simp
   rw[this]
   apply Array.ext'
   simp
def DoesM (P:Program) (ρ:Ren) (M:RM) (w:World) (run:World→Result Value) (v:AV) (M' : RM) : Prop :=
 ∃ ρ' w' v',run w=.ok v' w'∧After P M ρ w M' ρ' w'∧aj ρ' v v'
variable {A:AW} {M' : RM} {A' : AW}
theorem MW (h:rO P ρ M w A) {run:World→Result Value} {v:AV} (hd:AR P M.base ρ A w run v A') (hlo:M'.base=M.base) (hn:A'.next=M'.next)
  (hb:∀ b x,M'.heap b=some x→(∃ y,A'.heap.get b=some y∧vP x y)∨∃ c,x=.ro c∧M.heap b=some x) : DoesM P ρ M w run v M':=by
 obtain⟨ρ',w',v',h1,h2,h3,h4,h5⟩:=hd
 exact⟨ρ',w',v',h1,jg h h2 h3 hlo hn h4 hb,h5⟩
theorem kw (h:rO P ρ M w A) : ∀ b x,M.heap b=some x→(∃ y,A.heap.get b=some y∧vP x y)∨∃ c,x=.ro c∧M.heap b=some x:=by
 intro b x hx
 rcases h.blk b x hx with h1 | ⟨c,rfl,_⟩
 ·exact .inl h1
 ·exact .inr ⟨c,rfl,hx⟩
theorem yG {l:List AV} {t:Tree AV} (h:jW .leaf 0 l=some t) : vP (.row l true 0 0) (.row l.length t [] true 0 0)∧∀ (k:Nat) (v:AV),l[k]?=some v→cellAt t [] l.length k=some v:=by
 obtain⟨_,hget⟩:=fC _ _ _ h
 have:∀ (k:Nat) (v:AV),l[k]?=some v→cellAt t [] l.length k=some v:=fun k v hk=>by
  have hlt:=(List.getElem?_eq_some_iff.1 hk).1
  exact rR hlt (by rw[hget,if_pos (by omega)]; simpa using hk)
 exact⟨⟨rfl,rfl,rfl,rfl,this⟩,this⟩
theorem Q6 (h:rO P ρ M w A) {elem size bytes n:Nat} {zeros:Bool} {x:Value} {new:List AV} {us:List Value} (h1:1≤size) {s v:AV} {u:Value} (hs:aj ρ s u) (hn:Gl P ρ w elem size zeros x n new us)
  {t:TypeId} {ts:Array TypeId} {ty:TypeId} (ht:ts[0]?=some t) (hu:P.underlying t=some (.slice elem)) (hzs:lq P ts=some zeros)
  {it:TypeInfo} {z:Value} (hi:P.info? elem=some it) (hz:it.zero=some z) (hsi:it.size=size) (hzc:z.cells.size=size) (hb:it.bytes=bytes) (hnb:n * bytes≤140737488355328) (hnl:n≤140737488355328)
  (ha:sU elem size bytes n new s M=some (v,M')) : DoesM P ρ M w (fun w=>(Builtin.append_ ts ty #[u,x]).run P w) v M':=by
 have key:∀ {A' : AW},kR elem size bytes n new s A=some (v,A')→M'.base=M.base→A'.next=M'.next →
   (∀ b x,M'.heap b=some x→(∃ y,A'.heap.get b=some y∧vP x y)∨∃ c,x=.ro c∧M.heap b=some x)→DoesM P ρ M w (fun w=>(Builtin.append_ ts ty #[u,x]).run P w) v M' :=
  fun hA a b c=>MW h (Cq h.rel h.size h1 hs hn ht hu hzs hi hz hsi hzc hb hnb hnl hA) a b c
 have hnw:new.length=n * size:=by rw[hn.rel.length,hn.len]
 unfold sU at ha
 split at ha
 ·split at ha
  ·rename_i h0
   cases ha
   exact key (by simp only[kR,h0]) rfl h.next (kw h)
  ·rename_i h0
   split at ha <;> first | (cases ha; done) | skip
   rename_i hall
   cases ha
   obtain⟨tr,htr⟩:=jQ new .leaf 0 hall
   obtain⟨_,hcell⟩:=yG htr
   cases n with
   | zero=>exact absurd rfl h0
   | succ n =>
   obtain⟨k1,k2,k3⟩:=RM.Ag h (x:=.row new true elem 0) (y:=.row ((n + 1) * size) tr [] true elem 0) ⟨hnw,rfl,rfl,rfl,fun k v hk=>by rw[← hnw]; exact hcell k v hk⟩
   exact key (by simp only[kR,htr,h.next]) k1 k2 k3
 ·split at ha <;> first | (cases ha; done) | skip
  rename_i h0
  cases ha
  exact key (by simp only[kR,h0]) rfl h.next (kw h)
 ·rename_i b o len cc
  split at ha
  ·rename_i h0
   split at ha <;> first | (cases ha; done) | skip
   rename_i hle
   cases ha
   subst h0
   cases hs with
   | fI _ _ _ _ i hbi =>
   have hus:us=[]:=List.eq_nil_of_length_eq_zero (by simpa using hn.len)
   refine⟨ρ,w,_,wM hn ht hu hzs hi hsi hb hnb hnl (by omega) (w1:=w) (by simp[hus,storeCells]),After.refl ⟨A,h⟩, ?_⟩
   exact .fI _ _ _ _ i hbi
  rename_i hn0
  split at ha
  ·rename_i hle
   split at ha <;> first | (cases ha; done) | skip
   rename_i M1 hst
   cases ha
   obtain⟨A1,a1,a2,a3,a4,a5⟩:=RM.Gt h hst
   exact key (by simp only[kR,aT.2 hle,a1]) a2 a3 a5
  ·rename_i hle
   split at ha <;> first | (cases ha; done) | skip
   rename_i old hl
   split at ha <;> first | (cases ha; done) | skip
   rename_i hcond
   obtain⟨c1,c2,c3⟩:=hcond
   cases ha
   cases hs with
   | fI _ _ _ _ i hbi =>
   obtain⟨vs,hr,hlen,hcell⟩:=RM.gu ⟨A,h⟩ hbi hl
   obtain⟨tr,htr⟩:=jQ (old++new) .leaf 0 c3
   obtain⟨_,hget⟩:=fC _ _ _ htr
   obtain⟨_,hrow⟩:=yG htr
   have hol:old.length=len * size:=by rw[hr.length,hlen]
   have htot:(old++new).length=(len + n) * size:=by rw[List.length_append,hol,hnw,← Nat.add_mul]
   have hr2:=GZ hn (ty:=ty) ht hu hzs hi hz hsi hb hnb hnl hle c1 c2 (ad:=some ⟨i.cb,i.sh + o,none⟩) (vs:=vs) (fun w' hw'=>by
    have:=run_loadCells_list (P:=P) w' ⟨i.cb,i.sh + o,none⟩ vs (fun j v hj=>by rw[← hcell j v hj]; simp[World.cell?,hw'])
    rw[hlen] at this
    simp[Builtin.firstCells,this])
   have hge:=grownCap_ge w (len + n) cc elem
   have qp:=hn.len
   obtain⟨k1,k2,k3⟩:=RM.Ag h (x:=.row (old++new) true elem 0) (y:=.row ((len + n) * size) tr [] true elem 0) ⟨htot,rfl,rfl,rfl,fun k v hk=>by rw[← htot]; exact hrow k v hk⟩
   have hsz:aZ P elem=some size:=by simp[aZ,hi,hsi]
   have hd:=AP h.rel h.size h1 hsz (cap:=grownCap w (len + n) cc elem) (need:=len + n) (tree:=tr) (z:=[]) (fz:=0) (cs:=⟨vs⟩++⟨us⟩++Builtin.zeroCells z.cells (grownCap w (len + n) cc elem - (len + n)))
    (run:=fun w=>(Builtin.append_ ts ty #[.slice (some ⟨i.cb,i.sh + o,none⟩) len cc,x]).run P w) (by
     simp only[Array.size_append,List.size_toArray,size_zeroCells,hzc,hlen,qp,← Nat.add_mul]
     congr 1; omega) hge (fun k y hk=>by
     obtain⟨hk1,hk2⟩:=iJ hk
     rw[hget,if_pos (by omega),Nat.sub_zero] at hk2
     rw[rD]
     by_cases hlt:k<vs.length
     ·rw[if_pos hlt]
      rw[List.getElem?_append_left (by omega)] at hk2
      exact hr.get hk2
     ·rw[if_neg hlt,if_pos (by rw[hlen,qp,← Nat.add_mul]; omega)]
      rw[List.getElem?_append_right (by omega),hr.length] at hk2
      exact hn.rel.get hk2) hr2
   rw[h.next] at hd
   exact MW h hd k1 k2 k3
 ·rename_i b o len esz
  split at ha
  ·rename_i h0
   cases ha
   exact key (by simp only[kR,h0]) rfl h.next (kw h)
  ·rename_i h0
   cases n with
   | zero=>exact absurd rfl h0
   | succ n =>
   split at ha <;> first | (cases ha; done) | skip
   rename_i l opn el fz hh
   split at ha <;> first | (cases ha; done) | skip
   rename_i hc
   obtain⟨rfl,rfl⟩:=hc
   rcases h.blk b _ hh with⟨y,hy,hle⟩ | ⟨c,e,_⟩
   ·cases y <;> first | exact hle.elim | skip
    rename_i kn tree zs Gh jY fz'
    obtain⟨q1,rfl,rfl,rfl,q5⟩:=hle
    have hbo:(true && Nat.beq esz esz)=true:=by simp
    split at ha
    ·rename_i hroom
     split at ha <;> first | (cases ha; done) | skip
     rename_i M1 hst
     cases ha
     obtain⟨A1,a1,a2,a3,a4,a5⟩:=RM.Gt h hst
     exact key (by simp only[kR,hy,hbo,aT.2 (show o + (len + (n + 1)) * esz≤kn by omega),a1]) a2 a3 a5
    ·rename_i hroom
     split at ha <;> first | (cases ha; done) | skip
     rename_i hcond
     obtain⟨rfl,c2,c3,rfl,c5,c6,c8⟩:=hcond
     cases ha
     obtain⟨tr,htr⟩:=jQ new tree (len * esz) c8
     obtain⟨_,hget⟩:=fC _ _ _ htr
     have hl:A.loads b 0 (len * esz)=some ((l.drop 0).take (len * esz)):=by
      unfold AW.loads; rw[hy]; exact Bj q5 _ _ (by omega)
     refine key (A' := { next:=A.next + 1,heap:=(A.heap.del b).set A.next (.row ((len + (n + 1)) * esz) tr zs true jY fz') }) ?_ rfl (by simp[RM.push,RM.del,h.next]) ?_
     ·simp only[kR,hy,hbo,Uy (show ¬ 0 + (len + (n + 1)) * esz≤kn by omega),hl,htr,h.next]
      rw[nS rfl,aT.2 c2,aT.2 c3,nS rfl,nS (show kn=len * esz by omega),aT.2 c6]
      rfl
     ·intro d y hd
      change (if d=M.next then some (RB.row (l++new) true jY fz') else if d=b then none else M.heap d)=some y at hd
      simp only[Tree.aY,Tree.qP,h.next]
      by_cases e1:d=M.next
      ·subst e1
       rw[if_pos rfl] at hd ⊢
       cases hd
       refine .inl ⟨_,rfl,by rw[List.length_append,c5,hnw,← Nat.add_mul],rfl,rfl,rfl,fun k v hk=>?_⟩
       rw[nu hget]
       by_cases hin:len * esz≤k∧k<len * esz + new.length
       ·rw[if_pos hin,if_pos (by rw[Nat.add_mul]; omega)]
        rw[List.getElem?_append_right (by omega),c5] at hk
        exact hk
       ·rw[if_neg hin]
        have hkl:k<l.length:=by
         have:=(List.getElem?_eq_some_iff.1 hk).1
         rw[List.length_append] at this; omega
        rw[List.getElem?_append_left hkl] at hk
        rw[← q5 k v hk]
        exact DI (by rw[Nat.add_mul]; omega) (by omega)
      ·rw[if_neg e1] at hd ⊢
       by_cases e2:d=b
       ·subst e2; rw[if_pos rfl] at hd; cases hd
       ·rw[if_neg e2] at hd ⊢
        exact kw h d y hd
   ·cases e
 ·cases ha
theorem Si {run:World→Result Value} {v:AV} (h:DoesM P ρ M w run v M') (hr:∀ v' w',run w=.ok v' w'→(execOp c o).run P w=.ok (.value v') w') (hk:K v M') :
  ∃ M' ρ' w',After P M ρ w M' ρ' w' ∧
  ((∃ v' v,(execOp c o).run P w=.ok (.value v') w'∧aj ρ' v v'∧K v M')∨((execOp c o).run P w=.ok .skip w'∧K .undef M') ∨
    ∃ f args us,(execOp c o).run P w=.ok (.enter f ⟨us⟩) w'∧aR ρ' args us∧iy P f args M' K):=by
 obtain⟨ρ',w',v',h1,h2,h3⟩:=h
 exact⟨M',ρ',w',h2,.inl ⟨v',v,hr _ _ h1,h3,hk⟩⟩
theorem Kj (hw:bC P ρ M w) {b p:Nat} {i:fD} {xs:List AV} {vs:List Value} (hb:ρ b=some i) (hv:aR ρ xs vs) (h:M.stores b p xs=some M') :
  ∃ w',(∀ off,off=i.sh + p→(storeCells ⟨i.cb,off,none⟩ vs).run P w=.ok () w')∧After P M ρ w M' ρ w':=by
 obtain⟨A,hA⟩:=hw
 obtain⟨A1,a1,a2,a3,a4,a5⟩:=RM.Gt hA h
 obtain⟨w1,hrun,hw1,hstep,hnext⟩:=ni hA.rel hb hv a1
 exact⟨w1,hrun,jg hA hstep hw1 a2 a3 (by omega) a5⟩
theorem Pg {x:AV} {M' : RM} {b p:Nat} (h:M.stores b p x.cells=some M') : ∀ (_:x=.top),False:=by
 intro e0
 unfold RM.stores at h
 split at h <;> first | (cases h; done) | skip
 split at h <;> first | (cases h; done) | skip
 rename_i hc
 rw[e0] at hc
 simp[AV.cells,oneCell] at hc
theorem QM {t:TypeId} {a x:Operand} (hop:o.op=.store t a x) {n:Nat} (hs:aZ P t=some n) {K:RM→Prop} (h:aS M (e a) (e x) n K) : lC P o e M (fun _ M'=>K M'):=by
 obtain⟨b,p,M',hea,hn,hst,hk⟩:=h
 intro ρ w c hw he
 have ha:aj ρ (e a) (c a):=he a (by rw[hop]; simp[Op.operands])
 have hx:aj ρ (e x) (c x):=he x (by rw[hop]; simp[Op.operands])
 rw[hea] at ha
 obtain⟨i,hb,hc⟩:=dz ha
 have hcl:=hx.cells (Pg hst)
 have hlen:=hcl.length
 simp only[Array.length_toList] at hlen
 obtain⟨w1,hrun,haft⟩:=Kj hw hb hcl hst
 refine⟨M',ρ,w1,haft,.inr (.inl ⟨?_,hk⟩)⟩
 simp only[execOp,hop,Instr.storeAt,Instr.sureAddr,hc,Sem.run_bind,Sem.run_pure,Result.andThen_ok,storeVar,bW hs]
 rw[if_neg (by omega)]
 rw[hrun _ rfl]
 rfl
theorem lC.mono (h:lC P o e M K) {K' : ak} (hk:∀ v M',K v M'→K' v M') : lC P o e M K':=by
 intro ρ w c hw he
 obtain⟨M',ρ',w',h1,h2⟩:=h ρ w c hw he
 refine⟨M',ρ',w',h1, ?_⟩
 rcases h2 with⟨v',v,a,b,d⟩ | ⟨a,b⟩ | ⟨f,args,us,a,b,d⟩
 ·exact .inl ⟨v',v,a,b,hk _ _ d⟩
 ·exact .inr (.inl ⟨a,hk _ _ b⟩)
 ·exact .inr (.inr ⟨f,args,us,a,b,d.mono hk⟩)
theorem Rz (hw:bC P ρ M w) {x:AV} {u:Value} {size k:Nat} {vs:List AV} (hx:aj ρ x u) (h:firstM M size k x=some vs) : ∃ us,aR ρ vs us∧(Builtin.firstCells size k u).run P w=.ok ⟨us⟩ w:=by
 unfold firstM at h
 split at h <;> first | (cases h; done) | skip
 ·obtain⟨i,cp,hb,rfl⟩:=eX hx
  obtain⟨us,hr,hlen,_,hrun⟩:=RM.jV (P:=P) hw hb h
  exact⟨us,hr,by simp only[Builtin.firstCells]; exact hrun⟩
 ·rename_i s
  split at h <;> first | (cases h; done) | skip
  cases h
  obtain⟨rfl,_⟩:=aN hx
  have hr:aR ρ ((s.data.toList.take k).map fun b=>AV.sc (.int .u8 b.toNat)) ((s.data.toList.take k).map fun b=>Value.int .u8 b.toNat):=by
   generalize s.data.toList.take k=l
   induction l with
   | nil=>exact .nil
   | cons b l ih=>exact .cons _ _ _ _ (.sc _ rfl) ih
  refine⟨_,hr, ?_⟩
  simp only[Builtin.firstCells,Sem.run_pure]
  congr 1
  apply Array.ext'
  simp[ByteArray.data_extract]
theorem UA {t elem:TypeId} {d x:Operand} {ts:Array TypeId} (hop:o.op=.call { callee:=.builtin .copy,args:=⟨[d,x]⟩,argTypes:=ts }) (ht:ts[0]?=some t) (hu:P.underlying t=some (.slice elem))
  {size:Nat} (hs:aZ P elem=some size) {v:AV} (h:SA size (e d) (e x) M=some (v,M')) (hk:K v M') : lC P o e M K:=by
 intro ρ w c hw he
 have hd:aj ρ (e d) (c d):=he d (by rw[hop]; simp[Op.operands,Call.operands])
 have hx:aj ρ (e x) (c x):=he x (by rw[hop]; simp[Op.operands,Call.operands])
 have key:∀ {dA:Option Addr} {dl dc sn:Nat} {us:List Value} {w1:World},c d=.slice dA dl dc→(Builtin.lenOf (c x)).run P w=.ok sn w→(Builtin.firstCells size (Nat.min sn dl) (c x)).run P w=.ok ⟨us⟩ w →
   (match dA with | some a=>(storeCells a us).run P w=.ok () w1 | none=>w1=w)→(execOp c o).run P w=.ok (.value (.int .i64 (Nat.min sn dl:Nat))) w1:=by
  intro dA dl dc sn us w1 hcd hl hf hst
  have:(Builtin.copy_ ts o.type #[c d,c x]).run P w=.ok (.int .i64 (Nat.min sn dl:Nat)) w1:=by
   simp only[Builtin.copy_,ht,List.getElem?_toArray,List.getElem?_cons_zero,List.getElem?_cons_succ,Sem.run_bind,run_underlying hu,Result.andThen_ok,hcd,hl,bW hs,hf]
   cases dA with
   | none=>simp only at hst; subst hst; rfl
   | some a=>simp only at hst; simp only[Sem.run_bind,hst,Result.andThen_ok,Sem.run_pure,goInt]
  simp only[execOp,hop,resolve,invoke,builtin,Sem.run_bind,Sem.run_pure,Result.andThen_ok]
  rw[show(Array.map c ⟨[d,x]⟩) = #[c d,c x] by simp,this]
  rfl
 unfold SA at h
 split at h <;> first | (cases h; done) | skip
 ·rename_i b p dn cap hed
  rw[hed] at hd
  obtain⟨i,cp,hb,hcd⟩:=eX hd
  split at h <;> first | (cases h; done) | skip
  rename_i sn hsn
  have hl:=qU (P:=P) hx hsn w
  split at h
  ·rename_i hm
   cases h
   refine⟨M,ρ,w,After.refl hw,.inl ⟨_,_,key hcd hl (by rw[hm]; exact jb hx hsn w) (w1:=w) rfl, ?_,hk⟩⟩
   rw[hm]; exact .sc _ rfl
  ·split at h <;> first | (cases h; done) | skip
   rename_i vs hvs
   split at h <;> first | (cases h; done) | skip
   rename_i M1 hst
   cases h
   obtain⟨us,hr,hf⟩:=Rz hw hx hvs
   obtain⟨w1,hrun,haft⟩:=Kj hw hb hr hst
   exact⟨M',ρ,w1,haft,.inl ⟨_,_,key hcd hl hf (w1:=w1) (hrun _ rfl),.sc _ rfl,hk⟩⟩
 ·rename_i b hed
  rw[hed] at hd
  generalize hcd:c d=cd at hd
  cases hd with
  | emp _ ad cp =>
  split at h <;> first | (cases h; done) | skip
  rename_i sn hsn
  cases h
  have hl:=qU (P:=P) hx hsn w
  have hm:Nat.min sn 0=0:=Nat.min_zero _
  refine⟨M,ρ,w,After.refl hw,.inl ⟨_,_,key hcd hl (by rw[hm]; exact jb hx hsn w) (w1:=w) rfl, ?_,hk⟩⟩
  rw[hm]; exact .sc _ rfl
 ·rename_i hed
  rw[hed] at hd
  have hcd:=(aN hd).1
  split at h <;> first | (cases h; done) | skip
  rename_i sn hsn
  cases h
  have hl:=qU (P:=P) hx hsn w
  have hm:Nat.min sn 0=0:=Nat.min_zero _
  refine⟨M,ρ,w,After.refl hw,.inl ⟨_,_,key hcd hl (by rw[hm]; exact jb hx hsn w) (w1:=w) rfl, ?_,hk⟩⟩
  rw[hm]; exact .sc _ rfl
theorem Tj {t elem:TypeId} {x:Operand} {ts:Array TypeId} (hop:o.op=.call { callee:=.builtin .clear,args:=⟨[x]⟩,argTypes:=ts }) (ht:ts[0]?=some t) (hu:P.underlying t=some (.slice elem))
  {size:Nat} {zs:List AV} (hs:aZ P elem=some size) (hzs:iK P elem=some zs) (c1:1≤size) (c2:zs.length=size) (h:Mx zs (e x) M K) : lC P o e M K:=by
 intro ρ w c hw he
 have hx:aj ρ (e x) (c x):=he x (by rw[hop]; simp[Op.operands,Call.operands])
 rcases h with⟨b,p,n,cap,M',hex,hst,hk⟩ | ⟨b,hex,hk⟩ | ⟨hex,hk⟩
 ·obtain⟨it,z,hi,hz,hr⟩:=iT (ρ:=ρ) hzs
  have hl:=hr.length
  simp only[Array.length_toList] at hl
  rw[hex] at hx
  obtain⟨i,cp,hb,hcx⟩:=eX hx
  have hrel:=zX hr (by omega) n
  rw[GX] at hrel
  obtain⟨w1,hrun,haft⟩:=Kj hw hb hrel hst
  refine⟨M',ρ,w1,haft,.inl ⟨.tuple #[],.undef,sD (t:=t) hop ?_,.tup _ _ .nil,hk⟩⟩
  have hrun:=hrun _ rfl
  cases n with
  | zero =>
    have he:(Builtin.zeroCells z.cells 0).toList=[]:=by simp[Builtin.zeroCells]
    rw[he] at hrun
    simp only[storeCells,Sem.run_pure] at hrun
    cases hrun
    simp only[Builtin.clear_,ht,List.getElem?_toArray,List.getElem?_cons_zero,Sem.run_bind,run_underlying hu,Result.andThen_ok,hcx,Sem.run_pure]
  | succ n =>
    simp only[Builtin.clear_,ht,List.getElem?_toArray,List.getElem?_cons_zero,Sem.run_bind,run_underlying hu,Result.andThen_ok,hcx,zeroValue,typeInfo,run_program,hi,hz,Sem.run_pure,hrun]
 ·rw[hex] at hx
  generalize hcx:c x=cx at hx
  cases hx with
  | emp _ ad cp =>
  refine⟨M,ρ,w,After.refl hw,.inl ⟨.tuple #[],.undef,sD (t:=t) hop ?_,.tup _ _ .nil,hk⟩⟩
  simp only[Builtin.clear_,ht,List.getElem?_toArray,List.getElem?_cons_zero,Sem.run_bind,run_underlying hu,Result.andThen_ok,hcx,Sem.run_pure]
 ·rw[hex] at hx
  refine⟨M,ρ,w,After.refl hw,.inl ⟨.tuple #[],.undef,sD (t:=t) hop ?_,.tup _ _ .nil,hk⟩⟩
  simp only[Builtin.clear_,ht,List.getElem?_toArray,List.getElem?_cons_zero,Sem.run_bind,run_underlying hu,Result.andThen_ok,(aN hx).1,Sem.run_pure]
theorem XI:∀ {xs:List AV} {us vs:List Value},aR ρ xs vs→di dI xs=some us→vs=us
 | [],us,_,h,hu=>by simp[di] at hu; subst hu; exact h.pG
 | x :: xs,us,_,.cons _ v _ vs a b,hu=>by
   simp only[di] at hu
   split at hu
   ·rename_i y hy
    split at hu
    ·rename_i ys hys
     cases hu
     rw[jZ a hy,XI b hys]
    ·cases hu
   ·cases hu
theorem JW {m:Nat} : ∀ {ks:List Nat} {cs ds:List AV} {us vs:List Value},aR ρ cs us→aR ρ ds vs→cs.length=ks.length→ds.length=ks.length→dJ ks cs ds=some true→us.length=vs.length∧(vs.zip us).all (fun(x,y)=>Instr.sameBits m x y)=true
 | [],[],[],[],[],_,_,_,_,_=>⟨rfl,rfl⟩
 | [],_ :: _,_,_,_,_,_,h,_,_=>by simp at h
 | [],[],_ :: _,_,_,_,_,_,h,_=>by simp at h
 | _ :: _,[],_,_,_,_,_,h,_,_=>by simp at h
 | _ :: _,_ :: _,[],_,_,_,_,_,h,_=>by simp at h
 | k :: ks,x :: cs,y :: ds,_,_,.cons _ u _ us hx hc,.cons _ v _ vs hy hd,h1,h2,h=>by
   simp only[dJ] at h
   split at h <;> first | (cases h; done) | skip
   rename_i hce
   obtain⟨i1,i2⟩:=JW (m:=m) hc hd (by simpa using h1) (by simpa using h2) h
   refine⟨by simp[i1], ?_⟩
   rw[List.zip_cons_cons,List.all_cons,i2,Bool.and_true]
   unfold pV at hce
   split at hce <;> first | (cases hce; done) | skip
   ·split at hce <;> first | (cases hce; done) | skip
    rename_i e0
    subst e0
    rw[(aN hx).1,(aN hy).1]
    simp only[Option.some.injEq] at hce
    have hce:=eq_of_beq hce
    subst hce
    simp[Instr.sameBits]
   ·rw[(aN hx).1,(aN hy).1]
    simp only[Option.some.injEq] at hce
    simp only[Instr.sameBits]
    rw[bytes_beq,iO]
    have hce:=eq_of_beq hce
    rw[hce]; simp
   ·rw[(aN hx).1,(aN hy).1]
    simp only[Option.some.injEq] at hce
    have hce:=eq_of_beq hce
    subst hce
    simp[Instr.sameBits]
theorem VR {a:Bool} {ks:List Nat} {x y:AV} {xv yv:Value} {cs ds:List AV} (hx:fJ a x=some cs) (hy:fJ a y=some ds) (rx:aj ρ x xv) (ry:aj ρ y yv) (l1:cs.length=ks.length) (l2:ds.length=ks.length) (h:dJ ks cs ds=some true) : Instr.sameBits 10000 yv xv=true:=by
 obtain⟨us,r1,h1,h1'⟩:=mq hx rx
 obtain⟨vs,r2,h2,h2'⟩:=mq hy ry
 cases a with
 | true =>
   rw[h1 rfl,h2 rfl]
   obtain⟨i1,i2⟩:=JW (m:=9999) r1 r2 l1 l2 h
   show(_ && _)=true
   rw[Bool.and_eq_true]
   exact⟨by simp[i1],i2⟩
 | false =>
   have e1:=h1' rfl
   have e2:=h2' rfl
   subst e1 e2
   have:=(JW (m:=10000) r1 r2 l1 l2 h).2
   simpa using this
theorem Hf {a:Bool} {ks:List Nat} {cs:List AV} : ∀ {es:List (AV × AV × Nat)} {fs:List MapEntry} {i j:Nat} {va:AV},bJ ρ es fs→jO a ks cs es i=some (some (j,va))→∃ n f ka ds,j=i + n∧fs[n]?=some f∧aj ρ ka f.key∧fJ a ka=some ds∧ds.length=ks.length∧dJ ks cs ds=some true
 | [],_,_,_,_,_,h=>by simp[jO] at h
 | _ :: _,[],_,_,_,h,_=>h.elim
 | (ka,v,n) :: es,f :: fs,i,j,va,⟨h1,h2,h3,h4⟩,h=>by
   simp only[jO] at h
   split at h <;> first | (cases h; done) | skip
   rename_i ds hds
   split at h <;> first | (cases h; done) | skip
   rename_i hdl
   split at h <;> first | (cases h; done) | skip
   ·rename_i hn
    simp only[Option.some.injEq,Prod.mk.injEq] at h
    obtain⟨rfl,rfl⟩:=h
    exact⟨0,f,ka,ds,rfl,rfl,h1,hds,hdl,hn⟩
   ·obtain⟨m,g,kb,d2,e1,e2,e3⟩:=Hf h4 h
    exact⟨m + 1,g,kb,d2,by omega,by simpa using e2,e3⟩
theorem NS {k v:AV} {kv vv:Value} (hk:aj ρ k kv) (hv:aj ρ v vv) : ∀ {es:List (AV × AV × Nat)} {fs:List MapEntry} {i:Nat},bJ ρ es fs→bJ ρ (CU k v es i) (fs.modify i fun e => { e with key:=kv,val:=vv })
 | [],[],_,_=>by simp[CU]; trivial
 | [],_ :: _,_,h=>h.elim
 | _ :: _,[],_,h=>h.elim
 | (a,b,n) :: es,g :: fs,0,h=>⟨hk,hv,h.2.2.1,h.2.2.2⟩
 | (a,b,n) :: es,g :: fs,i + 1,h=>⟨h.1,h.2.1,h.2.2.1,NS hk hv h.2.2.2⟩
theorem KU:∀ {es:List (AV × AV × Nat)} {fs:List MapEntry} {i:Nat},bJ ρ es fs→bJ ρ (es.eraseIdx i) (fs.eraseIdx i)
 | [],[],_,_=>trivial
 | [],_ :: _,_,h=>h.elim
 | _ :: _,[],_,h=>h.elim
 | _ :: _,_ :: _,0,h=>h.2.2.2
 | (a,b,n) :: es,g :: fs,i + 1,h=>⟨h.1,h.2.1,h.2.2.1,KU h.2.2.2⟩
theorem tV {r clock:Nat} {fs:Array MapEntry} (o:Obj) (h:w.heap[r]?=some (.map fs clock)) : (setObj r o).run P w=.ok () { w with heap:=w.heap.setIfInBounds r o } := by
 simp only[setObj,Sem.run,h]
theorem map_set (hA:rO P ρ M w A) {b:Nat} {i:fD} {es es' : List (AV × AV × Nat)} {cl cl' : Nat} {fs fs' : Array MapEntry} (hb:ρ b=some i) (hg:M.heap b=some (.map es cl)) (hob:w.heap[i.cb]?=some (.map fs cl)) (he:bJ ρ es' fs'.toList) :
  After P M ρ w (M.put b (.map es' cl')) ρ { w with heap:=w.heap.setIfInBounds i.cb (.map fs' cl') } := by
 rcases hA.blk b _ hg with⟨y,hy,hle⟩ | ⟨_,e0,_⟩
 ·obtain⟨q1,q2⟩:=lD hA.rel (x:=.map es' cl') hb hy (w' := { w with heap:=w.heap.setIfInBounds i.cb (.map fs' cl') }) rfl rfl rfl (by simp)
   (fun j hj=>by simp[Array.getElem?_setIfInBounds,Ne.symm hj]) (by
    have:=(Array.getElem?_eq_some_iff.1 hob).1
    simp[Array.getElem?_setIfInBounds,this]) ⟨fs',rfl,he⟩
  refine jg hA q2 q1 rfl hA.next (Nat.le_refl _) ?_
  intro d y hd
  simp only[RM.put] at hd
  simp only[Tree.aY]
  by_cases e2:d=b
  ·subst e2; rw[if_pos rfl] at hd ⊢; cases hd; exact .inl ⟨_,rfl,rfl,rfl⟩
  ·rw[if_neg e2] at hd ⊢; exact kw hA d y hd
 ·cases e0
theorem CW (hA:rO P ρ M w A) {b:Nat} {i:fD} {es:List (AV × AV × Nat)} {cl:Nat} (hb:ρ b=some i) (hg:M.heap b=some (.map es cl)) : ∃ fs:Array MapEntry,w.heap[i.cb]?=some (.map fs cl)∧bJ ρ es fs.toList:=by
 rcases hA.blk b _ hg with⟨y,hy,hle⟩ | ⟨_,e0,_⟩
 ·cases y <;> first | exact hle.elim | skip
  obtain⟨rfl,rfl⟩:=hle
  obtain⟨ob,hob,fs,rfl,hfs⟩:=hA.rel.blk b i _ hb hy
  exact⟨fs,hob,hfs⟩
 ·cases e0
theorem O8 {t kt et:TypeId} {x:Operand} (hop:o.op=.range t x) (hu:P.underlying t=some (.map kt et)) (h:E8 (e x) M K) : lC P o e M K:=by
 obtain⟨m,es,cl,hx,hg,hk⟩:=h
 intro ρ w c hw he
 have hxr:aj ρ (e x) (c x):=he x (by rw[hop]; simp[Op.operands])
 rw[hx] at hxr
 obtain⟨A,hA⟩:=hw
 generalize hcx:c x=cx at hxr
 cases hxr with
 | map _ i hb =>
 obtain⟨fs,hob,hfs⟩:=CW hA hb hg
 have hnew:ρ A.next=none:=hA.rel.fresh (Nat.le_refl _)
 have hne:m≠A.next:=fun e=>by rw[e,hnew] at hb; cases hb
 obtain⟨q1,q2⟩:=EA hA.rel (Nat.le_trans (show M.base.n≤M.lo from Nat.le_refl _) hA.size) (x:=.iter (some m) cl [] cl) (ob:=.mapIter (some i.cb) cl #[] cl) (i:=⟨w.heap.size,0,0,0⟩) rfl
  ⟨rfl,some i.cb,rfl,i,by rw[Ren.add,if_neg hne]; exact hb,rfl⟩
 obtain⟨k1,k2,k3⟩:=RM.Ag hA (x:=.iter (some m) cl [] cl) (y:=.iter (some m) cl [] cl) ⟨rfl,rfl,rfl,rfl⟩
 refine⟨M.push (.iter (some m) cl [] cl),ρ.add A.next ⟨w.heap.size,0,0,0⟩,_,jg hA q2 q1 k1 k2 (by simp[AW.push]) k3,.inl ⟨.pointer (some ⟨w.heap.size,0,none⟩),.ptr M.next 0, ?_, ?_,hk⟩⟩
 ·have hgo:=uF (P:=P) hob
  simp only[execOp,hop,hcx,Instr.range,Sem.run_bind,run_underlying hu,Result.andThen_ok,hgo]
  rfl
 ·have:=aj.ptr (ρ:=ρ.add A.next ⟨w.heap.size,0,0,0⟩) M.next 0 ⟨w.heap.size,0,0,0⟩ (by rw[← hA.next]; simp[Ren.add])
  simpa using this
theorem Ip {ρ:Ren} : ∀ {es:List (AV × AV × Nat)} {fs:List MapEntry},bJ ρ es fs→∀ f∈fs,∃ n∈es,aj ρ n.1 f.key∧aj ρ n.2.1 f.val∧f.born=n.2.2
 | [],[],_,f,hf=>by cases hf
 | (k,v,n) :: es,g :: fs,⟨a,b,c,d⟩,f,hf=>by
   rcases List.mem_cons.1 hf with rfl | hf
   ·exact⟨_,List.mem_cons_self ..,a,b,c⟩
   ·obtain⟨n,h1,h2⟩:=Ip d f hf
    exact⟨n,List.mem_cons_of_mem _ h1,h2⟩
 | _ :: _,[],h,_,_=>h.elim
 | [],_ :: _,h,_,_=>h.elim
theorem BS {ρ:Ren} : ∀ {es:List (AV × AV × Nat)} {fs:List MapEntry},bJ ρ es fs→∀ n∈es,∃ f∈fs,f.born=n.2.2
 | [],[],_,f,hf=>by cases hf
 | (k,v,m) :: es,g :: fs,⟨a,b,c,d⟩,n,hn=>by
   rcases List.mem_cons.1 hn with rfl | hn
   ·exact⟨_,List.mem_cons_self ..,c⟩
   ·obtain⟨f,h1,h2⟩:=BS d n hn
    exact⟨f,List.mem_cons_of_mem _ h1,h2⟩
 | _ :: _,[],h,_,_=>h.elim
 | [],_ :: _,h,_,_=>h.elim
theorem O9 (n:Nat) (hn:1≤n) (w:World) : ∃ k w1,k<n∧(choose (.mapNext n)).run P w=.ok k w1∧(w1=w∨w1=w.drew):=by
 by_cases h:n≤1
 ·refine⟨0,w,by omega, ?_,.inl rfl⟩
  have hf:Question.forced (.mapNext n)=true:=by simp[Question.forced,h]
  simp[choose,Sem.run,hf]
 ·have hf:Question.forced (.mapNext n)=false:=by simp only[Question.forced,decide_eq_false_iff_not]; exact h
  refine⟨(Question.mapNext n).cut (w.tape w.drawn (.mapNext n)),w.drew, ?_, ?_,.inr rfl⟩
  ·simp only[Question.cut]; exact Nat.mod_lt _ (by omega)
  ·simp only[choose,Sem.run,hf]; rfl
theorem RA {it:Operand} (hop:o.op=.next it false) (h:IG (e it) M K) : lC P o e M K:=by
 obtain⟨b,m,since,seen,stepped,es,cl,hx,hgb,hgm,hst,hall,hend⟩:=h
 intro ρ w c hw he
 have hxr:aj ρ (e it) (c it):=he it (by rw[hop]; simp[Op.operands])
 rw[hx] at hxr
 obtain⟨i,hb,hcx⟩:=dz hxr
 obtain⟨A,hA⟩:=hw
 rcases hA.blk b _ hgb with⟨y,hy,hle⟩ | ⟨_,e0,_⟩
 rotate_left
 ·cases e0
 cases y <;> first | exact hle.elim | skip
 obtain⟨rfl,rfl,rfl,rfl⟩:=hle
 obtain⟨ob,hob,hsh,m',rfl,j,hj,rfl⟩:=hA.rel.blk b i _ hb hy
 obtain⟨fs,adu,hfs⟩:=CW hA hj hgm
 rename_i since' seen' Gz
 have Bh:c it=.pointer (some ⟨i.cb,0,none⟩):=by rw[hcx,hsh]
 have hget:(getObj i.cb).run P w=.ok (.mapIter (some j.cb) since' ⟨seen'⟩ Gz) w:=by simp[getObj,Sem.run,hob]
 have SF:(getObj j.cb).run P w=.ok (.map fs cl) w:=by simp[getObj,Sem.run,adu]
 have hguard:(!(⟨seen'⟩ : Array Nat).isEmpty && !fs.isEmpty && fs.all fun f=>decide (f.born ≥ Gz))=false:=by
  rcases hst with rfl | rfl | ⟨n,hn,hlt⟩
  ·rfl
  ·have:fs = #[]:=by
    cases hfl:fs.toList with
    | nil=>exact Array.toList_eq_nil_iff.1 hfl
    | cons f r=>rw[hfl] at hfs; exact hfs.elim
   subst this; simp
  ·obtain⟨f,hf,hfb⟩:=BS hfs n hn
   rw[Bool.and_eq_false_iff]
   right
   rw[Array.all_eq_false]
   obtain⟨q,hq,rfl⟩:=List.getElem_of_mem hf
   refine⟨q,by simpa using hq, ?_⟩
   simp only[Array.getElem_toList] at hfb
   simp only[decide_eq_true_eq]
   omega
 obtain⟨left,hleft⟩ : ∃ left,left=fs.filter fun f=>!(⟨seen'⟩ : Array Nat).contains f.born:=⟨_,rfl⟩
 obtain⟨old,hold⟩ : ∃ old,old=left.filter fun f=>decide (f.born<since'):=⟨_,rfl⟩
 obtain⟨new,hnew⟩ : ∃ new,new=left.filter fun f=>decide (f.born ≥ since'):=⟨_,rfl⟩
 obtain⟨wD,Tm⟩ : ∃ wD:Array (Option MapEntry),wD=(if old.isEmpty then #[none] else #[])++(old++new).map some:=⟨_,rfl⟩
 have hsize:1≤wD.size:=by
  rw[Tm]
  by_cases h0:old.isEmpty
  ·simp[h0]
  ·have:0<old.size:=by
    rcases Nat.eq_zero_or_pos old.size with h | h
    ·rw[Array.isEmpty_iff_size_eq_zero] at h0; exact absurd h h0
    ·exact h
   simp[h0]; omega
 obtain⟨k,w1,hk,hch,hw1⟩:=O9 (P:=P) wD.size hsize w
 have hA1:rO P ρ M w1 A:=by
  rcases hw1 with rfl | rfl
  ·exact hA
  ·exact⟨hA.next,hA.rel.drew,hA.size,hA.blk,hA.old⟩
 have hs1:Step M.lo M.next ρ w ρ w1:=by
  rcases hw1 with rfl | rfl
  ·exact Step.refl _ _ _
  ·exact Step.drew
 have hh1:w1.heap=w.heap:=by rcases hw1 with rfl | rfl <;> rfl
 have hrun:∀ {R:Value→Sem Value},(Instr.next (c it) false o.type).run P w=(match wD[k]? with
   | some (some f)=>(setObj i.cb (.mapIter (some j.cb) since' ((⟨seen'⟩ : Array Nat).push f.born) cl)).run P w1 |>.andThen fun _ w2=>(.ok (.tuple #[.bool true,f.key,f.val]) w2:Result Value)
   | some none=>.ok (.tuple #[.bool false]) w1
   | none=>(stuck "Next: no such candidate" : Sem Value).run P w1):=by
  intro _
  simp only[Instr.next,Bh,Sem.run_bind,hget,Result.andThen_ok,SF]
  rw[hguard]
  simp only[Bool.false_eq_true,if_false]
  rw[← hleft,← hold,← hnew,← Tm]
  simp only[Sem.run_bind,hch,Result.andThen_ok]
  rcases hck:wD[k]? with _ | (_ | f)
  ·rfl
  ·rfl
  ·simp only[Sem.run_bind,Sem.run_pure]
 have abE:∃ x,wD[k]?=some x∧(x=none∧old = #[]∨∃ f,x=some f∧f∈left):=by
  refine⟨wD[k],Array.getElem?_eq_getElem hk, ?_⟩
  have hm:wD[k]∈wD:=Array.getElem_mem hk
  generalize wD[k]=x at hm
  rw[Tm,Array.mem_append] at hm
  rcases hm with hm | hm
  ·by_cases h0:old.isEmpty
   ·simp only[h0,if_true] at hm
    exact .inl ⟨by simpa using hm,Array.isEmpty_iff.1 h0⟩
   ·simp[h0] at hm
  ·obtain⟨f,hf,rfl⟩:=Array.mem_map.1 hm
   refine .inr ⟨f,rfl, ?_⟩
   rcases Array.mem_append.1 hf with hf | hf
   ·rw[hold] at hf; exact(Array.mem_filter.1 hf).1
   ·rw[hnew] at hf; exact(Array.mem_filter.1 hf).1
 have Xr:∀ f∈fs.toList,f∈left↔f.born ∉ seen':=fun f hf=>by
  rw[hleft,Array.mem_filter]
  constructor
  ·rintro⟨_,h⟩ hm
   simp[hm] at h
  ·intro h
   exact⟨Array.mem_def.2 hf,by simpa using h⟩
 obtain⟨x,hx1,hx2⟩:=abE
 rcases hx2 with⟨rfl,abQ⟩ | ⟨f,rfl,hfl⟩
 ·refine⟨M,ρ,w1,⟨hs1,⟨A,hA1⟩,rfl,Nat.le_refl _⟩,.inl ⟨.tuple #[.bool false],.tup [Bo false], ?_,.tup _ _ (.cons _ _ _ _ (.sc _ rfl) .nil),hend fun n hn hns=>?_⟩⟩
  ·have:=hrun (R:=fun _=>pure (.bool true))
   rw[hx1] at this
   simp only[execOp,hop,Sem.run_bind,this,Result.andThen_ok,Sem.run_pure]
  ·obtain⟨f,hf,hfb⟩:=BS hfs n hn
   rw[← hfb] at hns
   have h1:=(Xr f hf).2 hns
   rcases Nat.lt_or_ge f.born since' with h | h
   ·have:f∈old:=by rw[hold,Array.mem_filter]; exact⟨h1,by simpa using h⟩
    rw[abQ] at this; simp at this
   ·rw[← hfb]; exact h
 ·have hff:f∈fs.toList:=by
   rw[hleft,Array.mem_filter] at hfl
   exact Array.mem_def.1 hfl.1
  have hns:=(Xr f hff).1 hfl
  obtain⟨n,hn,hnk,hnv,hnb⟩:=Ip hfs f hff
  rw[hnb] at hns
  have hlt:=(Array.getElem?_eq_some_iff.1 hob).1
  obtain⟨q1,q2⟩:=lD hA1.rel (x:=.iter (some m) since' (seen'++[n.2.2]) cl) (ob:=.mapIter (some j.cb) since' ⟨seen'++[n.2.2]⟩ cl) hb hy (w' := { w1 with heap:=w1.heap.setIfInBounds i.cb (.mapIter (some j.cb) since' ⟨seen'++[n.2.2]⟩ cl) }) rfl rfl rfl (by simp)
   (fun q hq=>by simp[Array.getElem?_setIfInBounds,Ne.symm hq]) (by simp[Array.getElem?_setIfInBounds,hh1,hlt]) ⟨hsh,some j.cb,rfl,j,hj,rfl⟩
  have haf:=jg (M':=M.put b (.iter (some m) since' (seen'++[n.2.2]) cl)) hA1 q2 q1 rfl hA1.next (Nat.le_refl _) (by
   intro d y hd
   simp only[RM.put] at hd
   simp only[Tree.aY]
   by_cases e2:d=b
   ·subst e2; rw[if_pos rfl] at hd ⊢; cases hd; exact .inl ⟨_,rfl,rfl,rfl,rfl,rfl⟩
   ·rw[if_neg e2] at hd ⊢; exact kw hA1 d y hd)
  refine⟨M.put b (.iter (some m) since' (seen'++[n.2.2]) cl),ρ,_,⟨hs1.trans haf.step (Nat.le_refl _),haf.rel,haf.base,haf.next⟩,.inl ⟨.tuple #[.bool true,f.key,f.val],.tup [Bo true,n.1,n.2.1], ?_,.tup _ _ (.cons _ _ _ _ (.sc _ rfl) (.cons _ _ _ _ hnk (.cons _ _ _ _ hnv .nil))),hall n hn hns⟩⟩
  have:=hrun (R:=fun _=>pure (.bool true))
  rw[hx1] at this
  have aep:w1.heap[i.cb]?=some (.mapIter (some j.cb) since' ⟨seen'⟩ Gz):=by rw[hh1]; exact hob
  simp only[execOp,hop,Sem.run_bind,this,setObj,Sem.run,aep,Result.andThen_ok,Sem.run_pure]
  rw[hnb]
  simp
theorem O5 {t kt et:TypeId} {m k x:Operand} (hop:o.op=.mapUpdate t m k x) (hu:P.underlying t=some (.map kt et)) {ks:List Nat} {a:Bool} (hf:ja P 10 kt=some ks) (ha:dm P kt=some a) (h:nk a ks M (e m) (e k) (e x) (K .undef)) : lC P o e M K:=by
 obtain⟨b,es,cl,kc,r,hem,hg,hkc,hl,hr,hk⟩:=h
 intro ρ w c hw he
 have hm:aj ρ (e m) (c m):=he m (by rw[hop]; simp[Op.operands])
 have hkr:aj ρ (e k) (c k):=he k (by rw[hop]; simp[Op.operands])
 have hx:aj ρ (e x) (c x):=he x (by rw[hop]; simp[Op.operands])
 rw[hem] at hm
 generalize hcm:c m=um at hm
 cases hm with
 | map _ i hb =>
 obtain⟨A,hA⟩:=hw
 obtain⟨fs,hob,hfs⟩:=CW hA hb hg
 obtain⟨r',hr1,hr2⟩:=yR (w:=w) hf ha hkc hl hkr hfs hr
 have hck:=vM (em:=false) (w:=w) hf ha hkc hl hkr
 have hgo:=uF (P:=P) hob
 cases r with
 | some p =>
   obtain⟨j,va⟩:=p
   cases r' with
   | none=>exact hr2.elim
   | some q =>
     obtain⟨j',vv⟩:=q
     obtain⟨rfl,_⟩:=hr2
     obtain⟨n,f,ka,ds,hj,hfn,hka,hds,hdl,hfe⟩:=Hf hfs hr
     rw[Nat.zero_add] at hj
     subst hj
     have hfj:fs[j']?=some f:=by rw[← Array.getElem?_toList]; exact hfn
     have hsame:=VR hkc hds hkr hka hl hdl hfe
     refine⟨_,ρ,_,map_set hA (es':=CU (e k) (e x) es j') (cl':=cl) (fs':=fs.modify j' fun e => { e with key:=c k,val:=c x }) hb hg hob (by rw[Array.toList_modify]; exact NS hkr hx hfs),.inr (.inl ⟨?_,hk⟩)⟩
     simp only[execOp,hop,hcm,Instr.mapUpdate,Sem.run_bind,run_underlying hu,Result.andThen_ok,hgo,hck,hr1,hfj,Option.map_some,Option.getD_some,Instr.keyThatStays,hsame,if_true,Sem.run_pure,tV _ hob]
 | none =>
   cases r' with
   | some q=>exact hr2.elim
   | none =>
     refine⟨_,ρ,_,map_set hA (es':=es++[(e k,e x,cl)]) (cl':=cl + 1) (fs':=fs.push { key:=c k,val:=c x,born:=cl }) hb hg hob (by rw[Array.toList_push]; exact Gu (f := { key:=c k,val:=c x,born:=cl }) hkr hx hfs),.inr (.inl ⟨?_,hk⟩)⟩
     simp only[execOp,hop,hcm,Instr.mapUpdate,Sem.run_bind,run_underlying hu,Result.andThen_ok,hgo,hck,hr1,Sem.run_pure,tV _ hob]
theorem Pv {t kt et:TypeId} {m k:Operand} {ts:Array TypeId} (hop:o.op=.call { callee:=.builtin .delete,args:=⟨[m,k]⟩,argTypes:=ts }) (ht:ts[0]?=some t) (hu:P.underlying t=some (.map kt et)) {ks:List Nat} {a:Bool} (hf:ja P 10 kt=some ks) (ha:dm P kt=some a) (h:J9 a ks M (e m) (e k) K) : lC P o e M K:=by
 obtain⟨b,es,cl,kc,r,hem,hg,hkc,hl,hr,hk⟩:=h
 intro ρ w c hw he
 have hm:aj ρ (e m) (c m):=he m (by rw[hop]; simp[Op.operands,Call.operands])
 have hkr:aj ρ (e k) (c k):=he k (by rw[hop]; simp[Op.operands,Call.operands])
 rw[hem] at hm
 generalize hcm:c m=um at hm
 cases hm with
 | map _ i hb =>
 obtain⟨A,hA⟩:=hw
 obtain⟨fs,hob,hfs⟩:=CW hA hb hg
 obtain⟨r',hr1,hr2⟩:=yR (w:=w) hf ha hkc hl hkr hfs hr
 have hck:=vM (em:=fs.isEmpty) (w:=w) hf ha hkc hl hkr
 have hgo:=uF (P:=P) hob
 have uf:∀ {w' : World},(Builtin.delete_ ts o.type #[.map (some i.cb),c k]).run P w=.ok (.tuple #[]) w'→(execOp c o).run P w=.ok (.value (.tuple #[])) w':=fun {w'} hrun=>by
  simp only[execOp,hop,resolve,invoke,builtin,Sem.run_bind,Sem.run_pure,Result.andThen_ok,List.map_toArray,List.map_cons,List.map_nil,hcm,hrun]
 cases r with
 | some p =>
   obtain⟨j,va⟩:=p
   cases r' with
   | none=>exact hr2.elim
   | some q =>
     obtain⟨j',vv⟩:=q
     obtain⟨rfl,_⟩:=hr2
     obtain⟨n,f,ka,ds,hj,hfn,hka,hds,hdl,hfe⟩:=Hf hfs hr
     rw[Nat.zero_add] at hj
     subst hj
     refine⟨_,ρ,_,map_set hA (es':=es.eraseIdx j') (cl':=cl) (fs':=fs.eraseIdxIfInBounds j') hb hg hob (by rw[show(fs.eraseIdxIfInBounds j').toList=fs.toList.eraseIdx j' by simp]; exact KU hfs),.inl ⟨_,.tup [],uf ?_,.tup _ _ .nil,hk⟩⟩
     simp only[Builtin.delete_,ht,Sem.run_bind,run_underlying hu,Result.andThen_ok,hgo,hck,hr1,Sem.run_pure,tV _ hob,List.getElem?_toArray,List.getElem?_cons_zero,List.getElem?_cons_succ]
 | none =>
   cases r' with
   | some q=>exact hr2.elim
   | none =>
     refine⟨_,ρ,_,map_set hA (es':=es) (cl':=cl) (fs':=fs) hb hg hob hfs,.inl ⟨_,.tup [],uf ?_,.tup _ _ .nil,hk⟩⟩
     simp only[Builtin.delete_,ht,Sem.run_bind,run_underlying hu,Result.andThen_ok,hgo,hck,hr1,Sem.run_pure,tV _ hob,List.getElem?_toArray,List.getElem?_cons_zero,List.getElem?_cons_succ]
theorem F7 (hP:tT P) (he0:∀ g,e (.func g)=.fn (.func g) [] []) (h:iG P o e M K) : lC P o e M K:=by
 cases hop:o.op
 case store t a x =>
  simp only[iG,hop] at h
  split at h <;> first | (cases h; done) | skip
  rename_i n hs
  intro ρ w c hw he
  obtain⟨M',ρ',w',h1,h2⟩:=QM hop hs h ρ w c hw he
  obtain⟨b,p,M1,hea,hn,hst,hk⟩:=h
  refine⟨M',ρ',w',h1, ?_⟩
  rcases h2 with⟨v',v,a1,b1,d1⟩ | ⟨a1,b1⟩ | ⟨f,args,us,a1,b1,d1⟩
  ·exfalso
   have hz:=a1
   simp only[execOp,hop,Sem.run_bind] at hz
   revert hz
   generalize (Instr.storeAt t (c a) (c x)).run P w=r
   cases r <;> simp[Result.andThen]
  ·exact .inr (.inl ⟨a1,b1⟩)
  ·exfalso
   have hz:=a1
   simp only[execOp,hop,Sem.run_bind] at hz
   revert hz
   generalize (Instr.storeAt t (c a) (c x)).run P w=r
   cases r <;> simp[Result.andThen]
 case mapUpdate t m k x =>
  simp only[iG,hop] at h
  split at h <;> first | (cases h; done) | skip
  rename_i kt et hu
  split at h <;> first | (cases h; done) | skip
  rename_i ks a hf ha
  exact O5 hop hu hf ha h
 case range t x =>
  simp only[iG,hop] at h
  split at h <;> first | (cases h; done) | skip
  rename_i kt et hu
  exact O8 hop hu h
 case next it str =>
  cases str
  ·simp only[iG,hop] at h
   exact RA hop h
  simp only[iG,hop] at h
  obtain⟨b,s,pos,hex,hg,hk⟩:=h
  intro ρ w c hw he
  have hx:aj ρ (e it) (c it):=he it (by rw[hop]; simp[Op.operands])
  rw[hex] at hx
  obtain⟨i,hb,hcx⟩:=dz hx
  obtain⟨A,hA⟩:=hw
  rcases hA.blk b _ hg with⟨y,hy,hle⟩ | ⟨_,e0,_⟩
  ·cases y <;> first | exact hle.elim | skip
   obtain⟨rfl,rfl⟩:=hle
   rename_i pos
   obtain⟨ob,hob,hsh,rfl⟩:=hA.rel.blk b i _ hb hy
   have hget:(getObj i.cb).run P w=.ok (.stringIter ⟨⟨s⟩⟩ pos) w:=by simp[getObj,Sem.run,hob]
   have Bh:c it=.pointer (some ⟨i.cb,0,none⟩):=by rw[hcx,hsh]
   by_cases hlt:pos<s.length
   ·rw[if_pos hlt] at hk
    have hlt' : pos<(⟨⟨s⟩⟩ : ByteArray).size:=hlt
    obtain⟨q1,q2⟩:=lD hA.rel (x:=.jq ⟨⟨s⟩⟩ (pos + (Utf8.decode ⟨⟨s⟩⟩ pos).2)) hb hy (w' := { w with heap:=w.heap.setIfInBounds i.cb (.stringIter ⟨⟨s⟩⟩ (pos + (Utf8.decode ⟨⟨s⟩⟩ pos).2)) }) rfl rfl rfl (by simp)
     (fun j hj=>by simp[Array.getElem?_setIfInBounds,Ne.symm hj]) (by
      have:=(Array.getElem?_eq_some_iff.1 hob).1
      simp[Array.getElem?_setIfInBounds,this]) ⟨hsh,rfl⟩
    refine⟨M.put b (.jq s (pos + (Utf8.decode ⟨⟨s⟩⟩ pos).2)),ρ,_,jg hA q2 q1 rfl hA.next (Nat.le_refl _) ?_,.inl ⟨.tuple #[.bool true,.int .i64 pos,.int .i32 (Utf8.decode ⟨⟨s⟩⟩ pos).1],_, ?_,.tup _ _ (.cons _ _ _ _ (.sc _ rfl) (.cons _ _ _ _ (.sc _ rfl) (.cons _ _ _ _ (.sc _ rfl) .nil))),hk⟩⟩
    ·intro d y hd
     simp only[RM.put] at hd
     simp only[Tree.aY]
     by_cases e2:d=b
     ·subst e2; rw[if_pos rfl] at hd ⊢; cases hd; exact .inl ⟨_,rfl,rfl,rfl⟩
     ·rw[if_neg e2] at hd ⊢; exact kw hA d y hd
    ·simp only[execOp,hop,Instr.next,Bh,Sem.run_bind,hget,Result.andThen_ok]
     rw[if_pos hlt']
     simp only[Sem.run_bind,setObj,Sem.run,hob,Result.andThen_ok,Sem.run_pure,goInt]
   ·rw[if_neg hlt] at hk
    have hlt' : ¬ pos<(⟨⟨s⟩⟩ : ByteArray).size:=hlt
    refine⟨M,ρ,w,After.refl ⟨A,hA⟩,.inl ⟨.tuple #[.bool false],_, ?_,.tup _ _ (.cons _ _ _ _ (.sc _ rfl) .nil),hk⟩⟩
    simp only[execOp,hop,Instr.next,Bh,Sem.run_bind,hget,Result.andThen_ok]
    rw[if_neg hlt']
    rfl
  ·cases e0
 case convert src dst x =>
  simp only[iG,hop] at h
  split at h <;> first | (cases h; done) | skip
  rename_i el hsd hu
  split at h <;> first | (cases h; done) | skip
  rename_i hel
  obtain⟨b,p,n,cp,l,elem,hex,hg,hk⟩:=h
  have hsd:=bf hsd
  subst hsd
  intro ρ w c hw he
  have hx:aj ρ (e x) (c x):=he x (by rw[hop]; simp[Op.operands])
  obtain⟨A,hA⟩:=hw
  rcases hA.blk b _ hg with⟨y,hy,hle⟩ | ⟨_,e0,_⟩
  ·cases y <;> first | exact hle.elim | skip
   rename_i nn tree zs Gh jY fz'
   obtain⟨h1,rfl,rfl,rfl,h5⟩:=hle
   have hx':=hx
   rw[hex] at hx
   obtain⟨i,cp',hb,hcx⟩:=eX hx
   obtain⟨ob,hob,cc,fr,rfl,hrow⟩:=hA.rel.blk b i _ hb hy
   obtain⟨hf1,hf2⟩:=hrow.mark rfl rfl
   obtain⟨hq1,_⟩:=Qh (P:=P) hob hf1 (e:=.slice (some ⟨i.cb,i.sh + p,none⟩) n cp') hu hel
   have hlt:=(Array.getElem?_eq_some_iff.1 hob).1
   obtain⟨q1,q2⟩:=lD hA.rel (x:=.row nn tree zs false jY (nn + 1)) (ob:=.cells cc jY (cc.size,cc.size + 1)) hb hy (w' := { w with heap:=w.heap.setIfInBounds i.cb (.cells cc jY (cc.size,cc.size + 1)) }) rfl rfl rfl (by simp)
    (fun j hj=>by simp[Array.getElem?_setIfInBounds,Ne.symm hj]) (by simp[Array.getElem?_setIfInBounds,hlt])
    ⟨cc,_,rfl,⟨hrow.size,hrow.val,fun k _ hk h2=>by omega,fun _ h0=>by omega,hrow.opn,hrow.sh0⟩⟩
   refine⟨M.put b (.row l false jY (l.length + 1)),ρ,_,jg hA q2 q1 rfl hA.next (Nat.le_refl _) ?_,.inl ⟨_,_,by simp only[execOp,hop,Sem.run_bind,hcx,hq1,Result.andThen_ok,Sem.run_pure],hcx▸hx',hk⟩⟩
   intro d y hd
   simp only[RM.put] at hd
   simp only[Tree.aY]
   by_cases e2:d=b
   ·subst e2; rw[if_pos rfl] at hd ⊢; cases hd; exact .inl ⟨_,rfl,h1,rfl,rfl,by rw[h1],h5⟩
   ·rw[if_neg e2] at hd ⊢; exact kw hA d y hd
  ·cases e0
 case call cl =>
  obtain⟨callee,args,ts⟩:=cl
  cases callee with
  | builtin b =>
    cases b
    case unsafeString =>
     simp only[iG,hop] at h
     split at h <;> first | (cases h; done) | skip
     rename_i t x n ht
     split at h <;> first | (cases h; done) | skip
     rename_i el hu
     split at h <;> first | (cases h; done) | skip
     rename_i hel hc1
     have hc1:=bf hc1
     intro ρ w c hw he
     obtain⟨A,hA⟩:=hw
     have hX:EB P ⟨[],[],[]⟩:=⟨hP.ng,fun f h=>(by cases h),fun f h=>(by cases h)⟩
     rcases h with⟨b,k,l,opn,fz,s,hex,hen,hk0,hg,hkl,hs,hk⟩ | ⟨hex,hen,hk⟩
     ·rcases hA.blk b _ hg with⟨y,hy,hle⟩ | ⟨_,e0,_⟩
      ·cases y <;> first | exact hle.elim | skip
       rename_i nn tree zs Gh jY fz'
       obtain⟨h1,rfl,rfl,rfl,h5⟩:=hle
       have hl:A.loads b 0 (k + 1)=some (l.take (k + 1)):=by
        unfold AW.loads
        rw[hy]
        simpa using Bj h5 (k + 1) 0 (by omega)
       have hlies:liesAt P P.depth jY (nn / P.cellsOf jY) 0 jY (k + 1)=true:=Lib.liesAt_bytes hc1 _ _ (by rw[hc1,Nat.div_one]; omega)
       have heff:jc P ⟨[],[],[]⟩ o e A=some (.value (St s),{ A with heap:=A.heap.del b }):=by
        simp only[jc,hop,ht,hu,hel,hex,hen,gz,hy,hl,bytesOf,hs,hlies,aT.2 hk0]
       obtain⟨ρ',w',q1,q2,q3,v',hrun,hv⟩:=jw hX hA.rel hA.size he heff
       refine⟨M.del b,ρ',w',jg hA q1 q2 rfl hA.next q3 fun d z hd=>?_,.inl ⟨v',_,hrun,hv,hk⟩⟩
       simp only[RM.del] at hd
       simp only[Tree.qP]
       by_cases e2:d=b
       ·rw[if_pos e2] at hd; cases hd
       ·rw[if_neg e2] at hd ⊢; exact kw hA d z hd
      ·cases e0
     ·have heff:jc P ⟨[],[],[]⟩ o e A=some (.value (St []),A):=by
       simp only[jc,hop,ht,hu,hel,hex,hen,gz]
      obtain⟨ρ',w',q1,q2,q3,v',hrun,hv⟩:=jw hX hA.rel hA.size he heff
      exact⟨M,ρ',w',jg hA q1 q2 rfl hA.next q3 fun d z hd=>kw hA d z hd,.inl ⟨v',_,hrun,hv,hk⟩⟩
    case append =>
     simp only[iG,hop] at h
     split at h <;> first | (cases h; done) | skip
     rename_i t s x ht
     split at h <;> first | (cases h; done) | skip
     rename_i elem zeros hu hz
     split at h <;> first | (cases h; done) | skip
     rename_i size bytes zs hs1 hb1 hz1
     split at h <;> first | (cases h; done) | skip
     rename_i c1 c2
     have c1:=aW c1; have c2:=bf c2
     obtain⟨n,new,hnew,c3,c4,v,M',hM,hk⟩:=h
     intro ρ w c hw he
     have hs:aj ρ (e s) (c s):=he s (by rw[hop]; simp[Op.operands,Call.operands])
     have hx:aj ρ (e x) (c x):=he x (by rw[hop]; simp[Op.operands,Call.operands])
     obtain⟨us,hn⟩:=Wh (P:=P) hw hx hz1 c1 c2 hnew
     obtain⟨it,z,hi,hzz,hr⟩:=iT (ρ:=ρ) hz1
     have hl:=hr.length
     simp only[Array.length_toList] at hl
     obtain⟨A,hA⟩:=hw
     refine Si (Q6 hA c1 hs hn (ty:=o.type) ht hu hz hi hzz (by simpa [aZ,hi] using hs1) (by omega) (by simpa [wH,hi] using hb1) c3 c4 hM) (fun v' w' hr=>?_) hk
     simp only[execOp,hop,resolve,invoke,builtin,Sem.run_bind,Sem.run_pure,Result.andThen_ok]
     rw[show(Array.map c ⟨[s,x]⟩) = #[c s,c x] by simp,hr]
     rfl
    case copy =>
     simp only[iG,hop] at h
     split at h <;> first | (cases h; done) | skip
     rename_i t s x ht
     split at h <;> first | (cases h; done) | skip
     rename_i elem hu
     split at h <;> first | (cases h; done) | skip
     rename_i size hsz
     obtain⟨v,M',hM,hk⟩:=h
     exact UA hop ht hu hsz hM hk
    case delete =>
     simp only[iG,hop] at h
     split at h <;> first | (cases h; done) | skip
     rename_i t m k ht
     split at h <;> first | (cases h; done) | skip
     rename_i kt et hu
     split at h <;> first | (cases h; done) | skip
     rename_i ks a hf ha
     exact Pv hop ht hu hf ha h
    case clear =>
     simp only[iG,hop] at h
     split at h <;> first | (cases h; done) | skip
     rename_i t x ht
     split at h <;> first | (cases h; done) | skip
     rename_i elem hu
     split at h <;> first | (cases h; done) | skip
     rename_i size zs hs hzs
     split at h <;> first | (cases h; done) | skip
     rename_i c1 c2
     exact Tj hop ht hu hs hzs (aW c1) (bf c2) h
    all_goals (simp only[iG,hop] at h)
  | value f =>
    have hrun:∀ {c:Operand→Value} {w:World} {g:FuncId} {us vs:List Value},c f=.func (.func g) ⟨us⟩ ⟨vs⟩→(execOp c o).run P w=(callFunc g ⟨us++args.toList.map c++vs⟩).run P w:=by
     intro c w g us vs hcf
     simp only[execOp,hop,resolve,hcf,Deferred.ofValue,invoke,Sem.run_bind,Sem.run_pure,Result.andThen_ok]
     congr 2
     apply Array.ext'
     simp
    have ha:∀ {ρ:Ren} {c:Operand→Value},(∀ x∈o.op.operands,aj ρ (e x) (c x))→∀ x∈args.toList,aj ρ (e x) (c x):=fun he x hx=>he x (by rw[hop]; simp[Op.operands,Call.operands]; exact .inr (by simpa using hx))
    have gen:∀ (g:FuncId) (first cap:List AV),e f=.fn (.func g) first cap→iy P g (first++args.toList.map e++cap) M K→lC P o e M K:=by
     intro g first cap hef hcall ρ w c hw he
     have hf:aj ρ (e f) (c f):=he f (by rw[hop]; simp[Op.operands,Call.operands])
     rw[hef] at hf
     generalize hcf:c f=cf at hf
     cases hf with
     | fn _ _ _ us vs hp hfi hca =>
     obtain⟨⟨fn,cd,hfn,hcd⟩,hall⟩:=hcall
     refine⟨M,ρ,w,After.refl hw,.inr (.inr ⟨g,_,us++args.toList.map c++vs, ?_,(hfi.append (aR.rJ _ (ha he))).append hca,⟨⟨fn,cd,hfn,hcd⟩,hall⟩⟩)⟩
     rw[hrun hcf]
     exact G9 hfn (hP.ng _ _ hfn) hcd w
    cases f with
    | func g =>
      simp only[iG,hop] at h
      split at h <;> first | (cases h; done) | skip
      rename_i fn hfn
      split at h
      ·rename_i cd hcd
       exact gen g [] [] (he0 g) (by simpa using h)
      ·rename_i hcd
       have start:∀ {ρ:Ren} {w:World} {c:Operand→Value},(∀ x∈o.op.operands,aj ρ (e x) (c x))→(execOp c o).run P w=(callFunc g ⟨args.toList.map c⟩).run P w:=by
        intro ρ w c he
        have hf:aj ρ (e (.func g)) (c (.func g)):=he _ (by rw[hop]; simp[Op.operands,Call.operands])
        rw[he0] at hf
        generalize hcf:c (.func g)=cf at hf
        cases hf with
        | fn _ _ _ us vs hp hfi hca =>
        cases hfi.pG
        cases hca.pG
        rw[hrun hcf]
        simp only[List.nil_append,List.append_nil]
       rcases h with⟨v,hv,hk⟩ | ⟨⟨fn',t,elem,size,tr,g1,g2,g3,g4,g5,g6⟩,⟨ba,oa,na,ca,bb,ob,nb,cb,la,ea,fa,lb,opb,eb,fb,hargs,hne,hla,hlb,q1,q2,q3⟩,hk⟩ | ⟨⟨fn',g1,g2,g3,g4⟩,v,hargs,hk⟩ | ⟨v,Vq,hk⟩ | ⟨v,M2,Vq,hk⟩
       ·intro ρ w c hw he
        unfold Jh at hv
        rw[hfn] at hv
        simp only[hcd] at hv
        split at hv <;> first | (cases hv; done) | skip
        rename_i h1
        split at hv <;> first | (cases hv; done) | skip
        rename_i s ws h2 hws
        split at hv <;> first | (cases hv; done) | skip
        rename_i u hu
        split at hv <;> first | (cases hv; done) | skip
        rename_i y hy
        cases hv
        have hval:=XI (aR.rJ _ (ha he)) hws
        refine⟨M,ρ,w,After.refl hw,.inl ⟨u,v, ?_,gY hy,hk⟩⟩
        rw[start he,hval]
        exact Jt hfn (hP.ng _ _ hfn) hcd h1 h2 (fun w=>fu hu w) w
       ·intro ρ w c hw he
        have hl:=aR.rJ _ (ha he)
        rw[hargs] at hl
        obtain⟨A,hA⟩:=hw
        rcases hA.blk ba _ hla with⟨ya,hya,Zf⟩ | ⟨_,e0,_⟩
        ·rcases hA.blk bb _ hlb with⟨yb,hyb,aaY⟩ | ⟨_,e0,_⟩
         ·cases ya <;> first | exact Zf.elim | skip
          cases yb <;> first | exact aaY.elim | skip
          obtain⟨r1,rfl,rfl,rfl,r5⟩:=Zf
          obtain⟨s1,rfl,rfl,rfl,s5⟩:=aaY
          have hov:r9 A [.slc ba oa na ca,.slc bb ob nb cb]=some (.sc (.bool false)):=by
           simp only[r9,CV hne,hya,hyb]
           subst q1
           rw[aT.2 (by omega),aT.2 (by omega)]
           rfl
          obtain⟨_,hr⟩:=Dn (tr:=tr) hA.rel hl hov g5 g6
          refine⟨M,ρ,w,After.refl ⟨A,hA⟩,.inl ⟨.bool false,Bo false, ?_,.sc _ rfl,hk⟩⟩
          rw[start he]
          exact pX g1 (hP.ng _ _ g1) g2 g3 g4 hr
         ·cases e0
        ·cases e0
       ·intro ρ w c hw he
        have hl:=aR.rJ _ (ha he)
        rw[hargs] at hl
        generalize hal:args.toList.map c=al at hl
        cases hl with
        | cons _ u _ us2 h1 hr =>
        cases hr
        refine⟨M,ρ,w,After.refl hw,.inl ⟨u,v, ?_,h1,hk⟩⟩
        rw[start he,hal]
        exact pX g1 (hP.ng _ _ g1) g2 g3 g4 rfl
       ·intro ρ w c hw he
        obtain⟨u,hrun,hv⟩:=Vq ρ w _ (aR.rJ _ (ha he)) hw
        exact⟨M,ρ,w,After.refl hw,.inl ⟨u,v,by rw[start he]; exact hrun,hv,hk⟩⟩
       ·intro ρ w c hw he
        obtain⟨ρ',w',u,hrun,haf,hv⟩:=Vq ρ w _ (aR.rJ _ (ha he)) hw
        exact⟨M2,ρ',w',haf,.inl ⟨u,v,by rw[start he]; exact hrun,hv,hk⟩⟩
    | tmp t => 
      simp only[iG,hop] at h
      obtain⟨g,first,cap,hef,hcall⟩:=h
      exact gen g first cap hef hcall
    | const v =>
      simp only[iG,hop] at h
      obtain⟨g,first,cap,hef,hcall⟩:=h
      exact gen g first cap hef hcall
    | global v =>
      simp only[iG,hop] at h
      obtain⟨g,first,cap,hef,hcall⟩:=h
      exact gen g first cap hef hcall
  | invoke r m=>simp only[iG,hop] at h
 all_goals (simp only[iG,hop] at h)
end
def Ot (nt:Nat) (T:Tree AV) (d:Option Tmp) (v:AV) (K:Tree AV→Prop) : Prop :=
 match d with
 | none=>K T
 | some d=>match Nat.ble (d + 1) nt with
   | true=>K (T.set d v)
   | false=>False
def aO (x:RB) (mk:Nat→AV) (M:RM) (K:ak) : Prop:=K (mk M.next) (M.push x)
def Tw (P:Program) (o:Oper) (e:Operand→AV) (M:RM) (K:ak) : Prop :=
 match kindOf P o with
 | .pure | .read=>dR P o e M (fun v=>K v M)
 | .alloc=>oo P o e (fun x mk=>aO x mk M K)
 | .nR=>iG P o e M K
def WA (M:RM) (g:Nat) : AV:=if g<M.lo then .ptr g 0 else .top
def Jw (M:RM) (e:Operand→AV) : Operand→AV
 | .global g=>WA M g
 | x=>e x
def jS {α:Type} (x:AV) (want:Bool) (f g:α→Prop) (k:α) : Prop :=
 match x with
 | .sc (.bool b)=>if b=want then f k else g k
 | .tup []=>g k
 | _=>False
def GD (P:Program) (nt:Nat) (ops:Array Oper) : List Oper→Tree AV→RM→(Tree AV→RM→Prop)→Prop
 | [],T,M,K=>K T M
 | o :: rest,T,M,K=>match o.guard with
   | none=>Tw P o (Jw M (jm T)) M (fun v M'=>Ot nt T o.dst v (fun T'=>GD P nt ops rest T' M' K))
   | some (j,want)=>match (ops[j]?).bind (·.dst) with
     | none=>False
     | some d=>jS ((T.get d).getD .top) want (Tw P o (Jw M (jm T)) M) (fun k=>k .undef M) (fun v M'=>Ot nt T o.dst v (fun T'=>GD P nt ops rest T' M' K))
section
variable {P:Program} {ρ:Ren} {M:RM} {w:World} {nt:Nat} {T:Tree AV} {a:Act}
theorem U3 {e:Operand→AV} (hw:bC P ρ M w) (he:∀ x,aj ρ (e x) (a.eval x)) (x:Operand) : aj ρ (Jw M e x) (a.eval x):=by
 cases x with
 | global g =>
   show aj ρ (WA M g) (a.eval (.global g))
   unfold WA
   split
   ·rename_i h
    obtain⟨A,hA⟩:=hw
    have:=aj.ptr (ρ:=ρ) g 0 ⟨g,0,0,0⟩ (hA.old g h)
    exact this
   ·exact .top _
 | tmp t=>exact he _
 | const v=>exact he _
 | func f=>exact he _
theorem ML (h:df ρ nt T a) {d:Option Tmp} {v:AV} {v' : Value} {K:Tree AV→Prop} (hv:aj ρ v v') (hp:Ot nt T d v K) : ∃ T',df ρ nt T' (a.put d v')∧K T'∧∀ t,d≠some t→T'.get t=T.get t:=by
 cases d with
 | none=>exact⟨T,Am h hv rfl,hp,fun _ _=>rfl⟩
 | some d =>
   simp only[Ot] at hp
   split at hp
   ·rename_i hb
    exact⟨T.set d v,Am h hv (by simp only[Hd,hb]),hp,fun t ht=>by rw[Tree.aY,if_neg (fun e=>ht (by rw[e]))]⟩
   ·cases hp
theorem Wq (hP:tT P) {o:Oper} {e:Operand→AV} {K:ak} (he0:∀ g,e (.func g)=.fn (.func g) [] []) (h:Tw P o e M K) : lC P o e M K:=by
 unfold Tw at h
 have val:dR P o e M (fun v=>K v M)→lC P o e M K:=by
  intro h ρ w c hw he
  obtain⟨v,hg,hk⟩:=zL h
  have hg:jR P o e M v:=by rcases hg with hg | ⟨_,hg⟩ <;> first | exact hg M | exact hg
  obtain⟨v',h1,h2⟩:=hg ρ w c M (RM.Sub.refl M) hw he
  exact⟨M,ρ,w,After.refl hw,.inl ⟨v',v,h1,h2,hk⟩⟩
 split at h
 ·exact val h
 ·exact val h
 ·obtain⟨x,mk,hm,hk⟩:=zN h
  intro ρ w c hw he
  obtain⟨ρ',w',u,h1,h2,h3⟩:=O6 hw he hm
  exact⟨_,ρ',w',h2,.inl ⟨u,_,h1,h3,hk⟩⟩
 ·exact F7 hP he0 h
theorem QA {o:Oper} {e:Operand→AV} {K:ak} (h:lC P o e M K) (hw:bC P ρ M w) (he:∀ x∈o.op.operands,aj ρ (e x) (a.eval x)) {K' : Act→World→Prop} {Q:Exit→Act→World→Prop}
  (hK:∀ v v' M' ρ' w',After P M ρ w M' ρ' w'→aj ρ' v v'→K v M'→K' (a.put o.dst v') w') : o.wp P a w K' Q:=by
 obtain⟨M',ρ',w',haft,h2⟩:=h ρ w a.eval hw he
 rcases h2 with⟨v',v,h1,h3,hk⟩ | ⟨h1,hk⟩ | ⟨f,args,us,h1,h3,hb,hc⟩
 ·exact jF o h1 (hK _ _ _ _ _ haft h3 hk)
 ·exact GL o h1 (hK _ _ _ _ _ haft (.tup _ _ .nil) hk)
 ·refine Ey o h1 (hc ρ' w' us h3 haft.rel) fun e w'' hR=>?_
  obtain⟨v',v,M2,ρ2,rfl,k1,k2,k3⟩:=hR
  exact⟨v',rfl,hK _ _ _ _ _ (haft.trans k1) k2 k3⟩
theorem RD {α:Type} {x:AV} {u:Value} {want:Bool} {f g:α→Prop} {k:α} (h:jS x want f g k) (hx:aj ρ x u) : (u=.bool want∧f k)∨((∀ b,u=.bool b→b≠want)∧g k):=by
 unfold jS at h
 split at h <;> first | (cases h; done) | skip
 ·obtain⟨rfl,_⟩:=aN hx
  split at h
  ·rename_i e; subst e; exact .inl ⟨rfl,h⟩
  ·rename_i e; exact .inr ⟨fun b hb=>by cases hb; exact e,h⟩
 ·obtain⟨vs,rfl,hr⟩:=zV hx
  exact .inr ⟨fun b hb=>(by cases hb),h⟩
theorem uE (hP:tT P) {ops:Array Oper} {Q:Exit→Act→World→Prop} {K:Tree AV→RM→Prop} {M0:RM} {ρ0:Ren} {w0:World} {T0:Tree AV}
  (hQ:∀ T' M' ρ' a' w',After P M0 ρ0 w0 M' ρ' w'→df ρ' nt T' a'→K T' M'→(∀ t,(∀ o∈ops.toList,o.dst≠some t)→T'.get t=T0.get t)→Q .normal a' w') :
  ∀ (l:List Oper) (i:Nat) {ρ:Ren} {M:RM} {w:World} {T:Tree AV} {a:Act},ops.toList.drop i=l→df ρ nt T a→After P M0 ρ0 w0 M ρ w→(∀ t,(∀ o∈ops.toList,o.dst≠some t)→T.get t=T0.get t)→GD P nt ops l T M K →
    wpOps P ops Q (List.range' i l.length) a w
 | [],i,ρ,M,w,T,a,_,hA,hw,hkp,h=>hQ T M ρ a w hw hA h hkp
 | o :: rest,i,ρ,M,w,T,a,hl,hA,hw,hkp,h=>by
   have ho:ops[i]?=some o:=by
    have:ops.toList[i]?=some o:=by
     have h0:(ops.toList.drop i)[0]?=some o:=by rw[hl]; rfl
     rw[List.getElem?_drop] at h0; exact h0
    rw[← Array.getElem?_toList]; exact this
   have hom:o∈ops.toList:=by
    have h1:ops.toList[i]?=some o:=by rw[Array.getElem?_toList]; exact ho
    exact List.mem_of_getElem? h1
   have hl' : ops.toList.drop (i + 1)=rest:=by
    rw[← List.drop_drop (i:=1) (j:=i)] <;> rw[hl]; rfl
   rw[List.length_cons,List.range'_succ,wpOps_cons]
   unfold wpOp
   simp only[ho]
   simp only[GD] at h
   have he:∀ x∈o.op.operands,aj ρ (Jw M (jm T) x) (a.eval x):=fun x _=>U3 hw.rel (oQ hA) x
   have next:Tw P o (Jw M (jm T)) M (fun v M'=>Ot nt T o.dst v (fun T'=>GD P nt ops rest T' M' K))→o.wp P a w (wpOps P ops Q (List.range' (i + 1) rest.length)) Q:=by
    intro h
    refine QA (Wq hP (fun _=>rfl) h) hw.rel he fun v v' M' ρ' w' haft hv hk=>?_
    obtain⟨T',hT,hk,hkt⟩:=ML (hA.mono (haft.le hw.rel)) hv hk
    exact uE hP hQ rest (i + 1) hl' hT (hw.trans haft) (fun t ht=>by rw[hkt t (ht o hom),hkp t ht]) hk
   split at h
   ·rename_i hg
    have:Region.wanted o (yielded ops a.tmps)=true:=by simp[Region.wanted,hg]
    rw[this]
    exact .inl (next h)
   ·rename_i j want hg
    split at h <;> first | (cases h; done) | skip
    rename_i d hd
    have hyv:yielded ops a.tmps j=match a.tmps[d]? with | some (.bool b)=>some b | _=>none:=by
     unfold yielded; rw[hd]; rfl
    have hget:∀ t:Bool,a.tmps.getD d undef=.bool t↔a.tmps[d]?=some (.bool t):=by
     intro t
     rw[Array.getD_eq_getD_getElem?]
     cases hx:a.tmps[d]? with
     | none=>simp[undef]
     | some y=>simp
    rcases RD h (hA.val d) with⟨hu,hf⟩ | ⟨hn,hk⟩
    ·have:Region.wanted o (yielded ops a.tmps)=true:=by
      simp only[Region.wanted,hg,hyv,(hget want).1 hu]; simp
     rw[this]
     exact .inl (next hf)
    ·have:Region.wanted o (yielded ops a.tmps)=false:=by
      simp only[Region.wanted,hg,hyv]
      cases hx:a.tmps[d]? with
      | none=>rfl
      | some y =>
        cases y <;> try rfl
        rename_i b
        have:=hn b ((hget b).2 hx)
        simpa using this
     rw[this]
     simp only[Bool.false_eq_true,if_false]
     obtain⟨T',hT,hk,hkt⟩:=ML (v':=undef) hA (.tup _ _ .nil) hk
     exact uE hP hQ rest (i + 1) hl' hT hw (fun t ht=>by rw[hkt t (ht o hom),hkp t ht]) hk
end
structure mh where
 vals:Tree AV
 M:RM
 bi:Tree (Option Nat)
abbrev KR:=AV→RM→Option Nat→Prop
def guardOf (ops:Array Oper) (wr:Tree Nat) (vals:Tree AV) (r:Row) : Option (Option (AV × Bool)) :=
 match r.o.guard with
 | none=>some none
 | some (j,want)=>match (ops[j]?).bind (·.dst) with
   | none=>none
   | some d=>match Nat.testBit r.m j,wr.get d with
     | true,some j'=>match Nat.beq j' j with
       | true=>some (some ((vals.get j).getD .top,want))
       | false=>none
     | _,_=>none
abbrev ax (x:AV) (want:Bool) (f g:ak→Prop) (k:ak) : Prop:=jS x want f g k
abbrev aA (x:AV) (want:Bool) (f g:KR→Prop) (k:KR) : Prop:=jS x want f g k
abbrev DF (x:AV) (want:Bool) (f g:Prop→Prop) (k:Prop) : Prop:=jS x want f g k
def vF {α:Type} (g:Option (Option (AV × Bool))) (f skip:α→Prop) (k:α) : Prop :=
 match g with
 | none=>False
 | some none=>f k
 | some (some (x,want))=>jS x want f skip k
def uS (x:RB) (mk:Nat→AV) (M:RM) (k:KR) : Prop:=k (mk M.next) (M.push x) (some M.next)
def Mg (b:Option Nat) (M:RM) (x:RB) (mk:Nat→AV) (v:AV) : Prop :=
 match b with
 | some b=>M.heap b=some x∧mk b=v
 | none=>False
def Zc (P:Program) (r:Row) (e:Operand→AV) (M:RM) (k:KR) : Prop :=
 match r.kd with
 | .pure | .read=>dR P r.o e M (fun v=>k v M none)
 | .alloc=>oo P r.o e (fun x mk=>uS x mk M k)
 | .nR=>False
def Dz (P:Program) (ops:Array Oper) (T0:Tree AV) (wr:Tree Nat) (lev:Nat) : List Row→mh→(mh→Prop)→Prop
 | [],s,K=>K s
 | r :: rest,s,K=>match Nat.beq r.lev lev && !iP r.kd with
   | false=>Dz P ops T0 wr lev rest s K
   | true=>vF (guardOf ops wr s.vals r) (Zc P r (gN T0 wr s.vals r.m) s.M) (fun k=>k .undef s.M none) (fun v M' b=>Dz P ops T0 wr lev rest { vals:=s.vals.set r.i v,M:=M',bi:=s.bi.set r.i b } K)
def QS (P:Program) (ops:Array Oper) (T0:Tree AV) (wr:Tree Nat) (r:Row) (s:mh) (K:Prop) : Prop :=
 match r.kd with
 | .read=>vF (guardOf ops wr s.vals r) (fun k=>dR P r.o (gN T0 wr s.vals r.m) s.M (fun v=>v=(s.vals.get r.i).getD .top∧k)) (fun k=>k) K
 | .alloc=>vF (guardOf ops wr s.vals r) (fun k=>oo P r.o (gN T0 wr s.vals r.m) (fun x mk=>Mg ((s.bi.get r.i).getD none) s.M x mk ((s.vals.get r.i).getD .top)∧k)) (fun k=>k) K
 | _=>K
def Lc (P:Program) (ops:Array Oper) (T0:Tree AV) (ri:RI) (lev:Nat) : List Row→mh→Prop→Prop
 | [],_,K=>K
 | r :: rest,s,K=>match Nat.ble r.lev lev && !iP r.kd && iM ri.ms ri.es (lev + 1) r with
   | false=>Lc P ops T0 ri lev rest s K
   | true=>QS P ops T0 ri.wr r s (Lc P ops T0 ri lev rest s K)
def rY (P:Program) (ops:Array Oper) (T0:Tree AV) (ri:RI) : Nat→List Nat→mh→(mh→Prop)→Prop
 | lev,[],s,K=>Dz P ops T0 ri.wr lev ri.rows s K
 | lev,x :: rest,s,K=>Dz P ops T0 ri.wr lev ri.rows s (fun s1=>match nth ri.rows x with
   | none=>False
   | some r=>vF (guardOf ops ri.wr s1.vals r) (iG P r.o (gN T0 ri.wr s1.vals r.m) s1.M) (fun k=>k .undef s1.M)
     (fun v M'=>Lc P ops T0 ri lev ri.rows { vals:=s1.vals.set x v,M:=M',bi:=s1.bi } (rY P ops T0 ri (lev + 1) rest { vals:=s1.vals.set x v,M:=M',bi:=s1.bi } K)))
def uh (P:Program) (nt:Nat) (ops:Array Oper) (T:Tree AV) (M:RM) (K:Tree AV→RM→Prop) : Prop :=
 match qh P nt ops with
 | none=>False
 | some ri=>match ri.rows.all (oO ri) with
   | false=>False
   | true=>rY P ops T ri 0 ri.es { vals:=.leaf,M,bi:=.leaf } (fun s=>K (yV T s.vals ri.rows) s.M)
def Qm (g:Option (AV × Bool)) : Prop:=match g with | none=>True | some (x,want)=>x=Bo want
def Hm (g:Option (AV × Bool)) : Prop:=match g with | none=>False | some (x,want)=>x=.undef∨∃ b,x=Bo b∧b≠want
theorem qb {α:Type} {g:Option (Option (AV × Bool))} {f skip:α→Prop} {k:α} (h:vF g f skip k) : ∃ g',g=some g'∧((Qm g'∧f k)∨(Hm g'∧skip k)):=by
 unfold vF at h
 split at h <;> first | (cases h; done) | skip
 ·exact⟨none,rfl,.inl ⟨trivial,h⟩⟩
 ·rename_i x want
  refine⟨_,rfl, ?_⟩
  unfold jS at h
  split at h <;> first | (cases h; done) | skip
  ·split at h
   ·rename_i e; subst e; exact .inl ⟨rfl,h⟩
   ·rename_i b e; exact .inr ⟨.inr ⟨b,rfl,e⟩,h⟩
  ·exact .inr ⟨.inl rfl,h⟩
section
variable {P:Program} {nt:Nat} {ops:Array Oper} {ri:RI} {T0:Tree AV}
def qj (P:Program) (ops:Array Oper) (T0:Tree AV) (wr:Tree Nat) (s:mh) (r:Row) : Prop :=
 ∃ g,guardOf ops wr s.vals r=some g∧((Qm g∧∃ v,s.vals.get r.i=some v∧match r.kd with
   | .pure=>∀ M,jR P r.o (gN T0 wr s.vals r.m) M v
   | .read=>jR P r.o (gN T0 wr s.vals r.m) s.M v
   | .alloc=>∃ x mk b,DJ P r.o (gN T0 wr s.vals r.m) x mk∧s.bi.get r.i=some (some b)∧s.M.heap b=some x∧mk b=v
   | .nR=>False)∨(Hm g∧s.vals.get r.i=some .undef))
theorem jR.sub {o:Oper} {e:Operand→AV} {M M' : RM} {v:AV} (h:jR P o e M v) (hs:M.Sub M') : jR P o e M' v :=
 fun ρ w c M2 h2 hw he=>h ρ w c M2 (hs.trans h2) hw he
theorem xW {vals Im:Tree AV} {wr:Tree Nat} {m:Nat} (h:∀ j,Nat.testBit m j=true→Im.get j=vals.get j) : gN T0 wr Im m=gN T0 wr vals m:=by
 funext x
 cases x with
 | tmp t =>
   simp only[gN]
   cases hw:wr.get t with
   | none=>rfl
   | some j =>
     simp only
     cases hb:Nat.testBit m j with
     | false=>rfl
     | true=>simp only[h j hb]
 | const v=>rfl
 | global g=>rfl
 | func f=>rfl
theorem mD {vals Im:Tree AV} {wr:Tree Nat} {r:Row} (h:∀ j,Nat.testBit r.m j=true→Im.get j=vals.get j) : guardOf ops wr Im r=guardOf ops wr vals r:=by
 unfold guardOf
 split
 ·rfl
 ·rename_i j want hg
  split
  ·rfl
  ·split
   ·rename_i hb _
    simp only[h j hb]
   ·rfl
theorem qj.keep {wr:Tree Nat} {s s' : mh} {r:Row} (h:qj P ops T0 wr s r) (hv:∀ j,Nat.testBit r.m j=true∨j=r.i→s'.vals.get j=s.vals.get j) (hb:s'.bi.get r.i=s.bi.get r.i) (hs:s.M.Sub s'.M) : qj P ops T0 wr s' r:=by
 obtain⟨g,hg,h⟩:=h
 have hi:=hv r.i (.inr rfl)
 have he:gN T0 wr s'.vals r.m=gN T0 wr s.vals r.m:=xW fun j hj=>hv j (.inl hj)
 refine⟨g,by rw[← hg]; exact mD fun j hj=>hv j (.inl hj), ?_⟩
 rcases h with⟨hon,v,hvi,hk⟩ | ⟨hoff,hvi⟩
 ·refine .inl ⟨hon,v,by rw[hi]; exact hvi, ?_⟩
  rw[he]
  cases hkd:r.kd with
  | pure=>rw[hkd] at hk; exact hk
  | read=>rw[hkd] at hk; exact hk.sub hs
  | alloc =>
    rw[hkd] at hk
    obtain⟨x,mk,b,h1,h2,h3,h4⟩:=hk
    exact⟨x,mk,b,h1,by rw[hb]; exact h2,hs.2 _ _ h3,h4⟩
  | nR=>rw[hkd] at hk; exact hk
 ·exact .inr ⟨hoff,by rw[hi]; exact hvi⟩
def Fr (M:RM) : Prop:=∀ b,M.next≤b→M.heap b=none
theorem Fr.push {M:RM} (h:Fr M) (x:RB) : Fr (M.push x):=by
 intro b hb
 simp only[RM.push] at hb ⊢
 rw[if_neg (by omega)]
 exact h b (by omega)
theorem Fr.sub {M:RM} (h:Fr M) (x:RB) : M.Sub (M.push x):=by
 refine⟨rfl,fun b y hy=>?_⟩
 simp only[RM.push]
 split
 ·rename_i e; subst e; rw[h _ (Nat.le_refl _)] at hy; cases hy
 ·exact hy
theorem bC.fr {ρ:Ren} {M:RM} {w:World} (h:bC P ρ M w) : Fr M:=by
 intro b hb
 have hlo:=h.lo_le
 obtain⟨A,hA⟩:=h
 cases hx:M.heap b with
 | none=>rfl
 | some x =>
   rcases hA.blk b x hx with⟨y,hy,_⟩ | ⟨c,_,hlt,_⟩
   ·have:=hA.rel.top b y hy
    rw[hA.next] at this; omega
   ·omega
theorem J8 {ρ:Ren} {M:RM} {w:World} {o:Oper} {e:Operand→AV} {x:RB} {mk:Nat→AV} (h:bC P ρ M w) (hm:DJ P o e x mk) : bC P ρ (M.push x) w:=by
 obtain⟨y,_,hle⟩:=hm
 exact h.XV x y hle
structure QL (P:Program) (ops:Array Oper) (T0:Tree AV) (ri:RI) (lev:Nat) (i0:Nat) (s s' : mh) : Prop where
 keep:∀ j,(∀ r,ri.rows[j]?=some r→i0≤j→¬ (r.lev=lev∧iP r.kd=false))→s'.vals.get j=s.vals.get j∧s'.bi.get j=s.bi.get j
 done:∀ j r,ri.rows[j]?=some r→i0≤j→r.lev=lev→iP r.kd=false→qj P ops T0 ri.wr s' r
 sub:s.M.Sub s'.M
 fr:Fr s'.M
 rel:∀ ρ w,bC P ρ s.M w→bC P ρ s'.M w
 next:s.M.next≤s'.M.next
 bi:∀ j b,s'.bi.get j=some (some b)→s.bi.get j=some (some b)∨(s.M.next≤b∧b<s'.M.next∧i0≤j∧∃ r,ri.rows[j]?=some r)
 uo:∀ j1 j2 b,s'.bi.get j1=some (some b)→s'.bi.get j2=some (some b)→s.M.next≤b→j1=j2
theorem xE (ht:kG P nt ops ri) {lev:Nat} {K:mh→Prop} : ∀ (rows:List Row) (i0:Nat) (s:mh),ri.rows.drop i0=rows→Fr s.M→(∀ j b,s.bi.get j=some (some b)→b<s.M.next)→Dz P ops T0 ri.wr lev rows s K→∃ s',K s'∧QL P ops T0 ri lev i0 s s'
 | [],i0,s,hd,hf,hbd,h=>by
   refine⟨s,h,fun _ _=>⟨rfl,rfl⟩,fun j r hr hj=>?_,RM.Sub.refl _,hf,fun _ _ h=>h,Nat.le_refl _,fun j b hb=>.inl hb,fun j1 j2 b h1 _ hb=>absurd (hbd j1 b h1) (by omega)⟩
   have hlen:ri.rows.length≤i0:=List.drop_eq_nil_iff.1 hd
   have:=(List.getElem?_eq_some_iff.1 hr).1
   omega
 | r :: rows,i0,s,hd,hf,hbd,h=>by
   have hri:ri.rows[i0]?=some r:=by
    have h0:(ri.rows.drop i0)[0]?=some r:=by rw[hd]; rfl
    rw[List.getElem?_drop] at h0; exact h0
   have hd' : ri.rows.drop (i0 + 1)=rows:=by
    rw[← List.drop_drop (i:=1) (j:=i0)] <;> rw[hd]; rfl
   obtain⟨e1,e2,e3,e4,e5⟩:=ht.row hri
   simp only[Dz] at h
   split at h
   ·rename_i hk
    obtain⟨s',hK,hp⟩:=xE ht rows (i0 + 1) s hd' hf hbd h
    have hne:¬ (r.lev=lev∧iP r.kd=false):=by
     rintro⟨a,b⟩
     rw[nS a,b] at hk
     cases hk
    refine⟨s',hK,fun j hj=>hp.keep j fun r' hr' hj'=>hj r' hr' (by omega),fun j r' hr' hj hl he=>?_,hp.sub,hp.fr,hp.rel,hp.next,fun j b hb=>(hp.bi j b hb).imp id fun⟨a,b,c,d⟩=>⟨a,b,by omega,d⟩,hp.uo⟩
    rcases Nat.lt_or_ge i0 j with hlt | hge
    ·exact hp.done j r' hr' hlt hl he
    ·have:j=i0:=by omega
     subst this
     rw[hri] at hr'; cases hr'
     exact absurd ⟨hl,he⟩ hne
   ·rename_i hk
    simp only[Bool.and_eq_true,Bool.not_eq_true'] at hk
    have sV:=bf hk.1
    obtain⟨g,hg,hcase⟩:=qb h
    -- whatever the row gives
    have fin:∀ (v:AV) (M' : RM) (b:Option Nat),s.M.Sub M'→Fr M'→s.M.next≤M'.next→(∀ ρ w,bC P ρ s.M w→bC P ρ M' w)→(∀ b',b=some b'→s.M.next≤b'∧b'<M'.next) →
      (∀ s2:mh,(∀ j,Nat.testBit r.m j=true→s2.vals.get j=s.vals.get j)→s2.vals.get r.i=some v→s2.bi.get r.i=some b→M'.Sub s2.M→qj P ops T0 ri.wr s2 r) →
      Dz P ops T0 ri.wr lev rows { vals:=s.vals.set r.i v,M:=M',bi:=s.bi.set r.i b } K→∃ s',K s'∧QL P ops T0 ri lev i0 s s':=by
     intro v M' b hsub hfr hnx hrel hb hok h
     obtain⟨s',hK,hp⟩:=xE ht rows (i0 + 1) _ hd' hfr (fun j b' hj=>by
      rw[Tree.aY] at hj
      split at hj
      ·cases hj; exact(hb b' rfl).2
      ·exact Nat.lt_of_lt_of_le (hbd j b' hj) hnx) h
     have MR:=hp.keep r.i (fun r' hr' hj'=>by omega)
     simp only[Tree.aY,if_true] at MR
     refine⟨s',hK,fun j hj=>?_,fun j r' hr' hj hl he=>?_,hsub.trans hp.sub,hp.fr,fun ρ w h=>hp.rel ρ w (hrel ρ w h),Nat.le_trans hnx hp.next,fun j b' hb'=>?_,fun j1 j2 b' h1 h2 hb'=>?_⟩
     ·have hji:j≠r.i:=fun e=>hj r (by rw[e,e1]; exact hri) (by omega) ⟨sV,hk.2⟩
      obtain⟨k1,k2⟩:=hp.keep j fun r' hr' hj'=>hj r' hr' (by omega)
      simp only[Tree.aY,if_neg hji] at k1 k2
      exact⟨k1,k2⟩
     ·rcases Nat.lt_or_ge i0 j with hlt | hge
      ·exact hp.done j r' hr' hlt hl he
      ·have:j=i0:=by omega
       subst this
       rw[hri] at hr'; cases hr'
       refine hok s' (fun q hq=>?_) MR.1 MR.2 hp.sub
       have hqlt:q<j:=by
        have hc:Closed ops.toList (fun i=>i<j):=fun i o ho hi e he' hb'=>by have:=ht.uA i o ho e he' hb'; omega
        exact ht.ahead hc hri (fun e he' hb'=>ht.uA j r.o e2 e he' hb') hq
       have hqi:q≠r.i:=by omega
       have:=(hp.keep q fun r' hr' hj'=>by omega).1
       rw[this]
       simp only[Tree.aY,if_neg hqi]
     ·rcases hp.bi j b' hb' with k | ⟨k1,k2,k3,k4⟩
      ·simp only[Tree.aY] at k
       split at k
       ·rename_i e
        cases k
        obtain⟨q1,q2⟩:=hb b' rfl
        exact .inr ⟨q1,Nat.lt_of_lt_of_le q2 hp.next,by omega,r,by rw[e,e1]; exact hri⟩
       ·exact .inl k
      ·simp only at k1
       exact .inr ⟨by omega,k2,by omega,k4⟩
     ·rcases Nat.lt_or_ge b' M'.next with hlt | hge
      ·have q:∀ j,s'.bi.get j=some (some b')→j=r.i:=by
        intro j hj
        rcases hp.bi j b' hj with k | ⟨k1,_⟩
        ·simp only[Tree.aY] at k
         split at k
         ·assumption
         ·have:=hbd j b' k; omega
        ·simp only at k1; omega
       rw[q j1 h1,q j2 h2]
      ·exact hp.uo j1 j2 b' h1 h2 hge
    rcases hcase with⟨hon,hv⟩ | ⟨hoff,hv⟩
    ·unfold Zc at hv
     have val:(r.kd=.pure∨r.kd=.read)→dR P r.o (gN T0 ri.wr s.vals r.m) s.M (fun v=>Dz P ops T0 ri.wr lev rows { vals:=s.vals.set r.i v,M:=s.M,bi:=s.bi.set r.i none } K)→∃ s',K s'∧QL P ops T0 ri lev i0 s s':=by
      intro hkd hv
      obtain⟨v,hgv,hk2⟩:=zL hv
      refine fin v s.M none (RM.Sub.refl _) hf (Nat.le_refl _) (fun _ _ h=>h) (fun b' h=>by cases h) (fun s2 q1 q2 q3 q4=>?_) hk2
      refine⟨g,by rw[← hg]; exact mD q1,.inl ⟨hon,v,q2, ?_⟩⟩
      rw[xW q1]
      rcases hkd with hkd | hkd
      ·rw[hkd]
       rcases hgv with hgv | ⟨hrd,_⟩
       ·exact hgv
       ·rw[← e5,hkd] at hrd; cases hrd
      ·rw[hkd]
       rcases hgv with hgv | ⟨_,hgv⟩
       ·exact hgv _
       ·exact hgv.sub q4
     split at hv
     ·exact val (.inl ‹_›) hv
     ·exact val (.inr ‹_›) hv
     ·rename_i hkd
      obtain⟨x,mk,hm,hk2⟩:=zN hv
      refine fin (mk s.M.next) (s.M.push x) (some s.M.next) (hf.sub x) (hf.push x) (by simp[RM.push]) (fun ρ w h=>J8 h hm) (fun b' h=>by cases h; simp[RM.push]) (fun s2 q1 q2 q3 q4=>?_) hk2
      refine⟨g,by rw[← hg]; exact mD q1,.inl ⟨hon,_,q2, ?_⟩⟩
      rw[xW q1,hkd]
      exact⟨x,mk,s.M.next,hm,q3,q4.2 _ _ (by simp[RM.push]),rfl⟩
     ·cases hv
    ·refine fin .undef s.M none (RM.Sub.refl _) hf (Nat.le_refl _) (fun _ _ h=>h) (fun b' h=>by cases h) (fun s2 q1 q2 q3 q4=>?_) hv
     exact⟨g,by rw[← hg]; exact mD q1,.inr ⟨hoff,q2⟩⟩
end
section
variable {P:Program} {nt:Nat} {ops:Array Oper} {ri:RI} {T0:Tree AV}
theorem Rp {wr:Tree Nat} {r:Row} {s s0:mh} {K:Prop} (h:QS P ops T0 wr r s K) (hold:qj P ops T0 wr s0 r) (hv:∀ j,Nat.testBit r.m j=true∨j=r.i→s.vals.get j=s0.vals.get j) (hb:s.bi.get r.i=s0.bi.get r.i) :
  K∧qj P ops T0 wr s r:=by
 obtain⟨g,hg,hold⟩:=hold
 have hi:=hv r.i (.inr rfl)
 have he:gN T0 wr s.vals r.m=gN T0 wr s0.vals r.m:=xW fun j hj=>hv j (.inl hj)
 have hg' : guardOf ops wr s.vals r=some g:=by rw[← hg]; exact mD fun j hj=>hv j (.inl hj)
 have Mq:Hm g→Qm g→False:=by
  intro h1 h2
  unfold Hm at h1
  unfold Qm at h2
  split at h1
  ·exact h1
  ·simp only at h2
   rcases h1 with h1 | ⟨b,h1,h3⟩
   ·rw[h2] at h1; cases h1
   ·rw[h2] at h1; cases h1; exact h3 rfl
 have Rv:∀ {K'},K'→Hm g∧s0.vals.get r.i=some .undef→K'∧qj P ops T0 wr s r:=fun k h=>⟨k,g,hg',.inr ⟨h.1,by rw[hi]; exact h.2⟩⟩
 unfold QS at h
 cases hkd:r.kd with
 | pure =>
   rw[hkd] at h
   refine⟨h,g,hg', ?_⟩
   rcases hold with⟨hon,v,hvi,hk⟩ | ⟨hoff,hvi⟩
   ·refine .inl ⟨hon,v,by rw[hi]; exact hvi, ?_⟩
    rw[hkd] at hk ⊢
    rw[he]; exact hk
   ·exact .inr ⟨hoff,by rw[hi]; exact hvi⟩
 | nR =>
   rcases hold with⟨hon,v,hvi,hk⟩ | ho
   ·rw[hkd] at hk; exact hk.elim
   ·rw[hkd] at h; exact Rv h ho
 | read =>
   rw[hkd] at h
   obtain⟨g2,hg2,hcase⟩:=qb h
   rw[hg'] at hg2; cases hg2
   rcases hold with⟨hon,v,hvi,hk⟩ | ho
   ·rcases hcase with⟨_,hn⟩ | ⟨hoff,_⟩
    ·obtain⟨v',hgv,hv',hK⟩:=zL hn
     have hgv:jR P r.o (gN T0 wr s.vals r.m) s.M v':=by rcases hgv with hgv | ⟨_,hgv⟩ <;> first | exact hgv _ | exact hgv
     rw[hi,hvi] at hv'
     simp only[Option.getD_some] at hv'
     subst hv'
     refine⟨hK,g,hg',.inl ⟨hon,v',by rw[hi]; exact hvi, ?_⟩⟩
     rw[hkd]; exact hgv
    ·exact(Mq hoff hon).elim
   ·rcases hcase with⟨hon,_⟩ | ⟨_,hK⟩
    ·exact(Mq ho.1 hon).elim
    ·exact Rv hK ho
 | alloc =>
   rw[hkd] at h
   obtain⟨g2,hg2,hcase⟩:=qb h
   rw[hg'] at hg2; cases hg2
   rcases hold with⟨hon,v,hvi,hk⟩ | ho
   ·rcases hcase with⟨_,hn⟩ | ⟨hoff,_⟩
    ·obtain⟨x,mk,hm,hx,hK⟩:=zN hn
     rw[hkd] at hk
     obtain⟨x0,mk0,b,_,h2,_,_⟩:=hk
     rw[hb,h2] at hx
     simp only[Option.getD_some] at hx
     rw[hi,hvi] at hx
     simp only[Option.getD_some] at hx
     refine⟨hK,g,hg',.inl ⟨hon,v,by rw[hi]; exact hvi, ?_⟩⟩
     rw[hkd]
     exact⟨x,mk,b,hm,by rw[hb]; exact h2,hx.1,hx.2⟩
    ·exact(Mq hoff hon).elim
   ·rcases hcase with⟨hon,_⟩ | ⟨_,hK⟩
    ·exact(Mq ho.1 hon).elim
    ·exact Rv hK ho
theorem Gw {lev:Nat} {s s0:mh} {K:Prop} : ∀ (rows:List Row),Lc P ops T0 ri lev rows s K →
  (∀ r∈rows,iP r.kd=false→r.lev≤lev→iM ri.ms ri.es (lev + 1) r=true→qj P ops T0 ri.wr s0 r∧(∀ j,Nat.testBit r.m j=true∨j=r.i→s.vals.get j=s0.vals.get j)∧s.bi.get r.i=s0.bi.get r.i) →
  K∧∀ r∈rows,iP r.kd=false→r.lev≤lev→iM ri.ms ri.es (lev + 1) r=true→qj P ops T0 ri.wr s r
 | [],h,_=>⟨h,fun r hr=>by cases hr⟩
 | r :: rows,h,ho=>by
   simp only[Lc] at h
   split at h
   ·rename_i hc
    obtain⟨h1,h2⟩:=Gw rows h fun r' hr'=>ho r' (.tail _ hr')
    refine⟨h1,fun r' hr' e1 e2 e3=>?_⟩
    rcases List.mem_cons.1 hr' with e | hr'
    ·subst e
     rw[aT.2 e2,e1,e3] at hc
     cases hc
    ·exact h2 r' hr' e1 e2 e3
   ·rename_i hc
    simp only[Bool.and_eq_true,Bool.not_eq_true'] at hc
    obtain⟨⟨c1,c2⟩,c3⟩:=hc
    obtain⟨o1,o2,o3⟩:=ho r (.head _) c2 (aW c1) c3
    obtain⟨h1,h2⟩:=Rp h o1 o2 o3
    obtain⟨h3,h4⟩:=Gw rows h1 fun r' hr'=>ho r' (.tail _ hr')
    refine⟨h3,fun r' hr' e1 e2 e3=>?_⟩
    rcases List.mem_cons.1 hr' with e | hr'
    ·subst e; exact h2
    ·exact h4 r' hr' e1 e2 e3
theorem Yj {ρ:Ren} {i:fD} {x:RB} {y y' : dU} {ob:Obj} (h:vP x y) (h' : vP x y') (hb:gW P ρ i y ob) : gW P ρ i y' ob:=by
 cases x with
 | row l opn elem fz =>
   cases y <;> first | exact h.elim | skip
   cases y' <;> first | exact h'.elim | skip
   obtain⟨rfl,rfl,rfl,rfl,h5⟩:=h
   obtain⟨h1,rfl,rfl,rfl,h5'⟩:=h'
   subst h1
   obtain⟨c,fr,rfl,hr⟩:=hb
   refine⟨c,fr,rfl,hr.size,fun k u hk=>?_,hr.free,hr.mark,hr.opn,hr.sh0⟩
   have hlt:=xI hk
   have hv:l[k]?=some l[k]:=by simp[hlt]
   have e1:=h5' k _ hv
   rw[hk] at e1; cases e1
   exact hr.val k _ (h5 k _ hv)
 | ro c=>cases y <;> exact h.elim
 | map es c =>
   cases y <;> first | exact h.elim | skip
   cases y' <;> first | exact h'.elim | skip
   obtain⟨rfl,rfl⟩:=h
   obtain⟨rfl,rfl⟩:=h'
   exact hb
 | iter m a b c =>
   cases y <;> first | exact h.elim | skip
   cases y' <;> first | exact h'.elim | skip
   obtain⟨rfl,rfl,rfl,rfl⟩:=h
   obtain⟨rfl,rfl,rfl,rfl⟩:=h'
   exact hb
 | jq s p =>
   cases y <;> first | exact h.elim | skip
   cases y' <;> first | exact h'.elim | skip
   obtain⟨rfl,rfl⟩:=h
   obtain⟨rfl,rfl⟩:=h'
   exact hb
theorem Tx {ρ:Ren} {M:RM} {w:World} {b:Nat} {x:RB} {y:dU} {ob:Obj} {i:fD} (hw:bC P ρ M w) (hi:i.cb=w.heap.size) (hb:ρ b=none) (hlt:b<M.next) (hx:M.heap b=some x) (hle:vP x y)
  (hrel:gW P ρ i y ob) : bC P (ρ.add b i) M (w.alloc ob)∧Step M.lo b ρ w (ρ.add b i) (w.alloc ob):=by
 obtain⟨A,hA⟩:=hw
 rcases hA.blk b x hx with⟨y',hy',NJ⟩ | ⟨c,rfl,_⟩
 ·obtain⟨h1,h2⟩:=GK hA.rel hA.size hi hb (by rw[hA.next]; exact hlt) hy' ((Yj hle NJ hrel).mono (Ren.nX hb))
  have:=hA.size
  refine⟨⟨A,hA.next,h1,by simp; omega,fun c z hz=>?_,fun c hc=>?_⟩,h2⟩
  ·rcases hA.blk c z hz with k | ⟨d,rfl,hlt,elem,fr,hh⟩
   ·exact .inl k
   ·exact .inr ⟨d,rfl,hlt,elem,fr,by rw[heap_alloc_old w ob c (by omega)]; exact hh⟩
  ·unfold Ren.add
   rw[if_neg (fun e=>by subst e; rw[hA.old _ hc] at hb; cases hb)]
   exact hA.old c hc
 ·cases y <;> exact hle.elim
structure Di (P:Program) (nt:Nat) (ops:Array Oper) (ri:RI) (T0:Tree AV) (M0:RM) (ρ0:Ren) (w0:World) (k:Nat) (done rest:List Nat) (s:mh) (S:Nat→Prop) (ρ:Ren) (a:Act) (w:World) : Prop where
 es:ri.es=done++rest
 len:done.length=k
 closed:Closed ops.toList S
 dn:∀ x∈done,S x
 rs:∀ x∈rest,¬ S x
 lev:∀ (j:Nat) (r:Row),ri.rows[j]?=some r→iP r.kd=false→S j→r.lev≤k
 size:a.tmps.size=nt
 defers:a.defers=[]
 slot:ET ρ T0 ri.wr s.vals S a
 jJ:bC P ρ s.M w
 step:Step M0.lo M0.next ρ0 w0 ρ w
 base:s.M.base=M0.base
 next:M0.next≤s.M.next
 bid:∀ j b,s.bi.get j=some (some b)→M0.next≤b∧b<s.M.next∧(¬ S j→ρ b=none)∧j<ops.size
 uo:∀ j1 j2 b,s.bi.get j1=some (some b)→s.bi.get j2=some (some b)→j1=j2
variable {M0:RM} {ρ0:Ren} {w0:World} {k:Nat} {done rest:List Nat} {s:mh} {S:Nat→Prop} {ρ:Ren} {a:Act} {w:World}
theorem Uk (ht:kG P nt ops ri) (hI:Di P nt ops ri T0 M0 ρ0 w0 k done rest s S ρ a w) {i:Nat} {r:Row} (hr:ri.rows[i]?=some r) (hns:¬ S i) (hd:∀ e∈r.o.after.toList,Region.binds .any e=true→S e.on)
  (hok:oO ri r=true) : ∀ x∈r.o.op.operands,aj ρ (gN T0 ri.wr s.vals r.m x) (a.eval x):=by
 intro x hx
 have hx' : Ej ri r x=true:=by
  unfold oO at hok
  exact List.all_eq_true.1 hok x (by simpa using hx)
 cases x with
 | tmp t =>
   obtain⟨h1,h2⟩:=hI.slot t
   simp only[gN,Act.eval]
   simp only[Ej] at hx'
   cases hw:ri.wr.get t with
   | none =>
     simp only
     exact h2 fun j hj=>by rw[hw] at hj; cases hj
   | some j =>
     rw[hw] at hx'
     simp only
     cases hb:Nat.testBit r.m j with
     | true =>
       simp only
       exact h1 j hw (ht.ahead hI.closed hr hd hb)
     | false =>
       simp only
       refine h2 fun j' hj'=>?_
       rw[hw] at hj'; cases hj'
       simp only[hb,Bool.false_or,Bool.or_eq_true] at hx'
       obtain⟨e1,_⟩:=ht.row hr
       rcases hx' with hx' | hx'
       ·rw[bf hx',e1]; exact hns
       ·intro hS
        rw[bQ,e1] at hx'
        obtain⟨o,ho,_⟩:=ht.wrs t j hw
        exact hns (ht.zW hI.closed hS ho hx')
 | const v =>
   simp only[gN,jm,Act.eval]
   cases hv:iQ v with
   | none=>exact .top _
   | some u=>exact gY hv
 | global g=>exact .top _
 | func f=>exact .fn _ _ _ _ _ rfl .nil .nil
theorem HZ (ht:kG P nt ops ri) (hI:Di P nt ops ri T0 M0 ρ0 w0 k done rest s S ρ a w) {i:Nat} {r:Row} (hr:ri.rows[i]?=some r) (hd:∀ e∈r.o.after.toList,Region.binds .any e=true→S e.on) {g:Option (AV × Bool)}
  (hg:guardOf ops ri.wr s.vals r=some g) : (Qm g→Region.wanted r.o (yielded ops a.tmps)=true)∧(Hm g→Region.wanted r.o (yielded ops a.tmps)=false):=by
 unfold guardOf at hg
 unfold Region.wanted
 split at hg
 ·rename_i hgu; simp only[hgu]; cases hg
  exact⟨fun _=>trivial,fun h=>h.elim⟩
 ·rename_i j want hgu
  simp only[hgu]
  split at hg <;> first | (cases hg; done) | skip
  rename_i d hdst
  split at hg <;> first | (cases hg; done) | skip
  rename_i j' hb hwr
  split at hg <;> first | (cases hg; done) | skip
  rename_i he
  cases hg
  have he:=bf he
  subst he
  have hv:=(hI.slot d).1 j' hwr (ht.ahead hI.closed hr hd hb)
  have hyv:yielded ops a.tmps j'=match a.tmps[d]? with | some (.bool b)=>some b | _=>none:=by
   unfold yielded; rw[hdst]; rfl
  have hget:∀ t:Bool,a.tmps.getD d undef=.bool t↔a.tmps[d]?=some (.bool t):=by
   intro t
   rw[Array.getD_eq_getD_getElem?]
   cases hx:a.tmps[d]? with
   | none=>simp[undef]
   | some y=>simp
  have off:(∀ b,a.tmps.getD d undef=.bool b→b≠want)→(yielded ops a.tmps j' == some want)=false:=by
   intro hn
   rw[hyv]
   cases hx:a.tmps[d]? with
   | none=>rfl
   | some y =>
     cases y <;> try rfl
     rename_i b
     have:=hn b ((hget b).2 hx)
     simpa using this
  constructor
  ·intro hon
   simp only[Qm] at hon
   rw[hon] at hv
   have hc:=(aN hv).1
   rw[hyv,(hget want).1 hc]; simp
  ·intro hoff
   simp only[Hm] at hoff
   refine off fun b hb'=>?_
   rcases hoff with hu | ⟨b',hu,hne⟩
   ·rw[hu] at hv
    obtain⟨vs,hc,hrl⟩:=zV hv
    rw[hc] at hb'; cases hb'
   ·rw[hu] at hv
    rw[(aN hv).1] at hb'; cases hb'; exact hne
def Mr (P:Program) (ops:Array Oper) (T0:Tree AV) (ri:RI) (k:Nat) (s:mh) (K:mh→Prop) : List Nat→Prop
 | []=>K s
 | x :: rest=>∃ r,nth ri.rows x=some r∧vF (guardOf ops ri.wr s.vals r) (iG P r.o (gN T0 ri.wr s.vals r.m) s.M) (fun k=>k .undef s.M)
    (fun v M'=>Lc P ops T0 ri k ri.rows { vals:=s.vals.set x v,M:=M',bi:=s.bi } (rY P ops T0 ri (k + 1) rest { vals:=s.vals.set x v,M:=M',bi:=s.bi } K))
theorem zD (ht:kG P nt ops ri) {K:mh→Prop} {es:List Nat} (hf:Fr s.M) (hbd:∀ j b,s.bi.get j=some (some b)→b<s.M.next) (h:rY P ops T0 ri k es s K) :
  ∃ s1,Mr P ops T0 ri k s1 K es∧QL P ops T0 ri k 0 s s1:=by
 cases es with
 | nil =>
   rw[rY] at h
   exact xE ht ri.rows 0 s rfl hf hbd h
 | cons x rest =>
   rw[rY] at h
   obtain⟨s1,hk,hp⟩:=xE ht ri.rows 0 s rfl hf hbd h
   refine⟨s1, ?_,hp⟩
   split at hk
   ·cases hk
   ·rename_i r hr
    exact⟨r,hr,hk⟩
def Chk (P:Program) (ops:Array Oper) (T0:Tree AV) (ri:RI) (k:Nat) (s:mh) : Prop:=∀ r∈ri.rows,iP r.kd=false→iM ri.ms ri.es k r=true→qj P ops T0 ri.wr s r
theorem BG {acc:List Nat} : ∀ (es:List Edge) (e:Edge),e∈es→Region.binds .any e=true→Nat.testBit (kL acc es) e.on=true∧∀ j,Nat.testBit ((nth acc e.on).getD 0) j=true→Nat.testBit (kL acc es) j=true
 | [],e,h,_=>by cases h
 | x :: es,e,h,hb=>by
   simp only[kL]
   rcases List.mem_cons.1 h with rfl | h
   ·rw[hb]
    simp only
    refine⟨?_,fun j hj=>?_⟩
    ·rw[Nat.testBit_or,Nat.testBit_or,Nat.testBit_two_pow]; simp
    ·rw[Nat.testBit_or,Nat.testBit_or,hj]; simp
   ·obtain⟨h1,h2⟩:=BG (acc:=acc) es e h hb
    split
    ·refine⟨?_,fun j hj=>?_⟩
     ·rw[Nat.testBit_or,h1]; simp
     ·rw[Nat.testBit_or,h2 j hj]; simp
    ·exact⟨h1,h2⟩
theorem Lp (ht:kG P nt ops ri) {q:Nat} {r:Row} (hq:ri.rows[q]?=some r) : ∃ pre,(∀ i,i<q→nth pre i=ri.ms[i]?)∧r.m=kL pre r.o.after.toList:=by
 obtain⟨g1,g2,g3,g4,g5⟩:=ht.row hq
 obtain⟨pre,h1,h2,h3⟩:=(uV ops.toList []).2 q r.o g2
 simp only[List.length_nil,Nat.zero_add] at h1 h2 h3
 refine⟨pre,fun i hi=>by rw[bQ,h2 i hi,← ht.ms], ?_⟩
 rw[← ht.ms,g3] at h3
 exact Option.some.inj h3
theorem Js (ht:kG P nt ops ri) {q:Nat} {r:Row} (hq:ri.rows[q]?=some r) {e:Edge} (he:e∈r.o.after.toList) (hb:Region.binds .any e=true) : Nat.testBit r.m e.on=true:=by
 obtain⟨pre,_,h2⟩:=Lp ht hq
 rw[h2]; exact(BG _ e he hb).1
theorem PD (ht:kG P nt ops ri) : ∀ (q:Nat) {i:Nat} {r:Row} {o:Oper},ri.rows[q]?=some r→Nat.testBit r.m i=true→ops.toList[i]?=some o→∀ {e:Edge},e∈o.after.toList→Region.binds .any e=true→Nat.testBit r.m e.on=true:=by
 intro q
 induction q using Nat.strongRecOn with
 | _ q ih =>
   intro i r o hq hi ho e he hb
   obtain⟨g1,g2,g3,g4,g5⟩:=ht.row hq
   obtain⟨pre,h1,h2⟩:=Lp ht hq
   have hi':=hi
   rw[h2] at hi'
   obtain⟨e0,he0,hb0,hcase⟩:=uB _ hi'
   have hlt:=ht.uA q r.o g2 e0 he0 hb0
   obtain⟨r0,hr0,_⟩:=ht.ex (j:=e0.on) (o:=ops.toList[e0.on]'(by have:=(List.getElem?_eq_some_iff.1 g2).1; omega)) (by simp)
   obtain⟨k1,k2,k3,k4,k5⟩:=ht.row hr0
   have hsub:∀ j,Nat.testBit r0.m j=true→Nat.testBit r.m j=true:=by
    intro j hj
    rw[h2]
    refine(BG _ e0 he0 hb0).2 j ?_
    rw[h1 e0.on hlt,k3]; exact hj
   rcases hcase with rfl | ⟨m,hm,hmi⟩
   ·rw[k2] at ho; cases ho
    exact hsub _ (Js ht hr0 he hb)
   ·rw[← bQ,h1 e0.on hlt,k3] at hm
    cases hm
    exact hsub _ (ih e0.on hlt hr0 hmi ho he hb)
theorem BP {m m' : Nat} (h:∀ x,Nat.testBit m x=true→Nat.testBit m' x=true) : ∀ (es:List Nat) (i0 b b' : Nat),b≤b'→b'≤i0→jX m es i0 b≤jX m' es i0 b'
 | [],i0,b,b',hb,_=>by simpa [jX] using hb
 | x :: es,i0,b,b',hb,hi=>by
   simp only[jX]
   cases hm:Nat.testBit m x with
   | true =>
     rw[h x hm]
     exact BP h es (i0 + 1) _ _ (Nat.le_refl _) (Nat.le_refl _)
   | false =>
     cases hm' : Nat.testBit m' x with
     | true=>exact BP h es (i0 + 1) b (i0 + 1) (by omega) (Nat.le_refl _)
     | false=>exact BP h es (i0 + 1) b b' hb (by omega)
theorem WJ (ht:kG P nt ops ri) {listed:Array Bool} (hsz:listed.size=ops.size) (hI:Di P nt ops ri T0 M0 ρ0 w0 k done rest s (dP listed) ρ a w) {i:Nat} {r:Row} (hi:i<ops.size) (hr:ri.rows[i]?=some r)
  (hd:∀ e∈r.o.after.toList,Region.binds .any e=true→dP listed e.on) (hk:iP r.kd=false) (sV:r.lev≤k) {v:AV} {v' : Value} {ρ' : Ren} {w' : World} (hvi:s.vals.get i=some v) (hv:aj ρ' v v') (hle:ρ.le ρ')
  (hw:bC P ρ' s.M w') (hst:Step M0.lo M0.next ρ w ρ' w') (We:∀ j b,s.bi.get j=some (some b)→¬ dP (listed.setIfInBounds i true) j→ρ' b=none) :
  Di P nt ops ri T0 M0 ρ0 w0 k done rest s (dP (listed.setIfInBounds i true)) ρ' (a.put r.o.dst v') w':=by
 have hS:∀ j,dP (listed.setIfInBounds i true) j↔dP listed j∨j=i:=oZ (by omega)
 obtain⟨e1,e2,_⟩:=ht.row hr
 refine⟨hI.es,hI.len, ?_,fun x hx=>(hS x).2 (.inl (hI.dn x hx)), ?_, ?_, ?_, ?_, ?_,hw,hI.step.trans hst (Nat.le_refl _),hI.base,hI.next,fun j b hb=>⟨(hI.bid j b hb).1,(hI.bid j b hb).2.1,We j b hb,(hI.bid j b hb).2.2.2⟩,hI.uo⟩
 ·intro j o ho hj e he hb
  rcases(hS j).1 hj with hj | rfl
  ·exact(hS _).2 (.inl (hI.closed j o ho hj e he hb))
  ·rw[e2] at ho; cases ho
   exact(hS _).2 (.inl (hd e he hb))
 ·intro x hx hl
  rcases(hS x).1 hl with hl | rfl
  ·exact hI.rs x hx hl
  ·have:x∈ri.es:=by rw[hI.es]; exact List.mem_append_right _ hx
   rw[ht.nR hr,hk] at this
   cases this
 ·intro j r' hr' hk' hj
  rcases(hS j).1 hj with hj | rfl
  ·exact hI.lev j r' hr' hk' hj
  ·rw[hr] at hr'; cases hr'; exact sV
 ·cases hdst:r.o.dst <;> simp[Act.put,hI.size]
 ·cases hdst:r.o.dst <;> simp[Act.put,hI.defers]
 ·exact BQ ht (fun t=>⟨fun j h1 h2=>((hI.slot t).1 j h1 h2).mono hle,fun h=>((hI.slot t).2 h).mono hle⟩) hI.size hr hv hvi hS
theorem VH (ht:kG P nt ops ri) {listed:Array Bool} (hsz:listed.size=ops.size) {i:Nat} {rest' : List Nat} (hI:Di P nt ops ri T0 M0 ρ0 w0 k done (i :: rest') s (dP listed) ρ a w) (pY:Chk P ops T0 ri k s) {r:Row} (hi:i<ops.size) (hr:ri.rows[i]?=some r)
  (hd:∀ e∈r.o.after.toList,Region.binds .any e=true→dP listed e.on) (hnd:i ∉ rest') {v:AV} {v' : Value} {ρ' : Ren} {w' : World} {M' : RM} (hv:aj ρ' v v') {K:mh→Prop}
  (haft:After P s.M ρ w M' ρ' w') (hre:Lc P ops T0 ri k ri.rows { vals:=s.vals.set i v,M:=M',bi:=s.bi } (rY P ops T0 ri (k + 1) rest' { vals:=s.vals.set i v,M:=M',bi:=s.bi } K)) :
  ∃ s3,Di P nt ops ri T0 M0 ρ0 w0 (k + 1) (done++[i]) rest' s3 (dP (listed.setIfInBounds i true)) ρ' (a.put r.o.dst v') w'∧Chk P ops T0 ri (k + 1) s3∧Mr P ops T0 ri (k + 1) s3 K rest':=by
 have hS:∀ j,dP (listed.setIfInBounds i true) j↔dP listed j∨j=i:=oZ (by omega)
 obtain⟨e1,e2,e3,e4,e5⟩:=ht.row hr
 have hmem:i∈ri.es:=by rw[hI.es]; simp
 have hke:=(ht.nR hr).1 hmem
 have hle:=haft.le hI.jJ
 -- an alive row that was done does not look at the effect
 have acu:ri.es[k]?=some i:=by
  rw[hI.es,List.getElem?_append_right (by rw[hI.len]; omega),hI.len]; simp
 have nY:∀ r'∈ri.rows,r'.lev≤k→Nat.testBit r'.m i=true→False:=by
  intro r' hr' hl hb
  obtain⟨q,hq⟩:=List.mem_iff_getElem?.1 hr'
  obtain⟨g1,g2,g3,g4,g5⟩:=ht.row hq
  have key:∀ (es:List Nat) (i0 kE k:Nat),es[k]?=some i→i0 + k + 1≤jX r'.m es i0 kE:=by
   intro es
   induction es with
   | nil=>intro i0 kE k h; simp at h
   | cons x es ih =>
     intro i0 kE k h
     simp only[jX]
     cases k with
     | zero =>
       simp at h; subst h
       rw[hb]
       simp only
       have mono:∀ (es:List Nat) (j kE:Nat),kE≤j→kE≤jX r'.m es j kE:=by
        intro es
        induction es with
        | nil=>intro j kE _; exact Nat.le_refl _
        | cons y es ih2 =>
          intro j kE hbj
          simp only[jX]
          split
          ·exact Nat.le_trans (by omega) (ih2 (j + 1) (j + 1) (Nat.le_refl _))
          ·exact ih2 (j + 1) kE (by omega)
       exact mono es (i0 + 1) (i0 + 1) (Nat.le_refl _)
     | succ k =>
       split
       ·have:=ih (i0 + 1) (i0 + 1) k (by simpa using h); omega
       ·have:=ih (i0 + 1) kE k (by simpa using h); omega
  have:=key ri.es 0 0 k acu
  rw[← g4] at this
  omega
 obtain⟨MF,hrows⟩:=Gw (s0:=s) ri.rows hre fun r' hr' f1 f2 f3=>by
  refine⟨pY r' hr' f1 ?_,fun j hj=>?_,rfl⟩
  ·unfold iM at f3 ⊢
   rw[Bool.and_eq_true] at f3 ⊢
   refine⟨aT.2 f2, ?_⟩
   have f4:=f3.2
   rw[List.all_eq_true] at f4 ⊢
   intro x hx
   refine f4 x ?_
   have:=List.take_subset_take_left ri.es (Nat.le_succ k)
   exact this hx
  ·simp only[Tree.aY]
   rw[if_neg]
   rintro rfl
   rcases hj with hj | hj
   ·exact nY r' hr' f2 hj
   ·obtain⟨q,hq⟩:=List.mem_iff_getElem?.1 hr'
    obtain⟨g1,_⟩:=ht.row hq
    have:q=j:=by omega
    subst this
    rw[hr] at hq; cases hq
    rw[f1] at hke; cases hke
 obtain⟨s3,hcont,hp⟩:=zD (s := { vals:=s.vals.set i v,M:=M',bi:=s.bi }) ht (haft.rel.fr) (fun j b hb=>Nat.lt_of_lt_of_le (hI.bid j b hb).2.1 haft.next) MF
 have hkeep:∀ j,dP listed j∨j=i→s3.vals.get j=(s.vals.set i v).get j:=by
  intro j hj
  refine(hp.keep j fun r' hr' _=>?_).1
  rintro⟨hl,hk'⟩
  rcases hj with hj | rfl
  ·have:=hI.lev j r' hr' hk' hj; omega
  ·rw[hr] at hr'; cases hr'; rw[hke] at hk'; cases hk'
 have hvi:s3.vals.get i=some v:=by rw[hkeep i (.inr rfl),Tree.aY,if_pos rfl]
 refine⟨s3,⟨by rw[hI.es]; simp,by simp[hI.len], ?_, ?_, ?_, ?_, ?_, ?_, ?_,hp.rel _ _ haft.rel,hI.step.trans (haft.step.PW hI.base) hI.next, ?_, ?_, ?_, ?_⟩, ?_,hcont⟩
 ·intro j o ho hj e he hb
  rcases(hS j).1 hj with hj | rfl
  ·exact(hS _).2 (.inl (hI.closed j o ho hj e he hb))
  ·rw[e2] at ho; cases ho
   exact(hS _).2 (.inl (hd e he hb))
 ·intro x hx
  rcases List.mem_append.1 hx with hx | hx
  ·exact(hS x).2 (.inl (hI.dn x hx))
  ·simp at hx; subst hx; exact(hS x).2 (.inr rfl)
 ·intro x hx hl
  rcases(hS x).1 hl with hl | rfl
  ·exact hI.rs x (.tail _ hx) hl
  ·exact hnd hx
 ·intro j r' hr' hk' hj
  rcases(hS j).1 hj with hj | rfl
  ·have:=hI.lev j r' hr' hk' hj; omega
  ·rw[hr] at hr'; cases hr'; rw[hke] at hk'; cases hk'
 ·cases hdst:r.o.dst <;> simp[Act.put,hI.size]
 ·cases hdst:r.o.dst <;> simp[Act.put,hI.defers]
 ·refine BQ ht (v:=v) (S:=dP listed) (fun t=>⟨fun j h1 h2=>?_,fun h=>((hI.slot t).2 h).mono hle⟩) hI.size hr hv hvi hS
  rw[hkeep j (.inl h2),Tree.aY]
  split
  ·rename_i e
   subst e
   exact absurd h2 (hI.rs j (.head _))
  ·exact((hI.slot t).1 j h1 h2).mono hle
 ·rw[hp.sub.1,← hI.base]; exact haft.base
 ·exact Nat.le_trans hI.next (Nat.le_trans haft.next hp.next)
 ·intro j b hb
  rcases hp.bi j b hb with h | ⟨h,h',_,r',hr'⟩
  ·obtain⟨b1,b2,b3,b4⟩:=hI.bid j b h
   refine⟨b1,Nat.lt_of_lt_of_le b2 (Nat.le_trans haft.next hp.next),fun hj=>?_,b4⟩
   rw[haft.step.ext b b2]
   exact b3 fun hl=>hj ((hS j).2 (.inl hl))
  ·refine⟨Nat.le_trans hI.next (Nat.le_trans haft.next h),h',fun _=>haft.rel.fresh h, ?_⟩
   obtain⟨g1,g2,_⟩:=ht.row hr'
   have:=(List.getElem?_eq_some_iff.1 g2).1
   rw[Array.length_toList] at this
   exact this
 ·intro j1 j2 b h1 h2
  rcases Nat.lt_or_ge b M'.next with hlt | hge
  ·have q:∀ j,s3.bi.get j=some (some b)→s.bi.get j=some (some b):=by
    intro j hj
    rcases hp.bi j b hj with k | ⟨k1,_⟩
    ·exact k
    ·simp only at k1; omega
   exact hI.uo j1 j2 b (q j1 h1) (q j2 h2)
  ·exact hp.uo j1 j2 b h1 h2 hge
 ·intro r' hr' f1 f3
  obtain⟨q,hq⟩:=List.mem_iff_getElem?.1 hr'
  obtain⟨g1,g2,g3,g4,g5⟩:=ht.row hq
  have f3':=f3
  unfold iM at f3'
  rw[Bool.and_eq_true] at f3'
  have hl:=aW f3'.1
  by_cases he:r'.lev=k + 1
  ·exact hp.done q r' hq (Nat.zero_le _) he f1
  ·have hl' : r'.lev≤k:=by omega
   refine(hrows r' hr' f1 hl' f3).keep (fun j hj=>?_) ?_ hp.sub
   ·refine(hp.keep j fun r2 hr2 _=>?_).1
    rintro⟨h1,h2⟩
    rcases hj with hj | hj
    ·
     have hjm:r2.lev≤r'.lev:=by
      obtain⟨q1,q2,q3,q4,q5⟩:=ht.row hr2
      have sub:∀ x,Nat.testBit r2.m x=true→Nat.testBit r'.m x=true:=by
       intro x hx
       have hcl:Closed ops.toList (fun i=>Nat.testBit r'.m i=true∨i=q):=by
        intro i o ho hi e he' hb'
        rcases hi with hi | rfl
        ·exact .inl (PD ht _ hq hi ho he' hb')
        ·rw[g2] at ho; cases ho
         exact .inl (Js ht hq he' hb')
       rcases ht.zW hcl (.inl hj) q2 (by rw[q3]; exact hx) with h | h
       ·exact h
       ·subst h
        exfalso
        have hlt:j<x:=by
         have hc:Closed ops.toList (fun i=>i<x):=fun i o ho hi e he' hb'=>by have:=ht.uA i o ho e he' hb'; omega
         exact ht.ahead hc hq (fun e he' hb'=>ht.uA x r'.o g2 e he' hb') hj
        have hlt2:x<j:=by
         have hc:Closed ops.toList (fun i=>i<j):=fun i o ho hi e he' hb'=>by have:=ht.uA i o ho e he' hb'; omega
         exact ht.ahead hc hr2 (fun e he' hb'=>ht.uA j r2.o q2 e he' hb') hx
        omega
      rw[q4,g4]
      exact BP sub ri.es 0 0 0 (Nat.le_refl _) (Nat.le_refl _)
     omega
    ·have:q=j:=by omega
     subst this
     rw[hq] at hr2; cases hr2; omega
   ·refine(hp.keep r'.i fun r2 hr2 _=>?_).2
    rw[g1,hq] at hr2; cases hr2
    rintro⟨h1,_⟩; omega
theorem KP (hP:tT P) (ht:kG P nt ops ri) (qf:∀ r∈ri.rows,oO ri r=true) {Q:Exit→Act→World→Prop} {K:mh→Prop}
  (hQ:∀ s ρ' a' w',K s→Step M0.lo M0.next ρ0 w0 ρ' w'→df ρ' nt (yV T0 s.vals ri.rows) a'→bC P ρ' s.M w'→s.M.base=M0.base→M0.next≤s.M.next→Q .normal a' w') :
  ∀ (fuel:Nat) (listed:Array Bool) (k:Nat) (done rest:List Nat) (s:mh) (ρ:Ren) (a:Act) (w:World),listed.size=ops.size→listed.toList.count false≤fuel →
    Di P nt ops ri T0 M0 ρ0 w0 k done rest s (dP listed) ρ a w→Chk P ops T0 ri k s→Mr P ops T0 ri k s K rest→wpAny P .any ops Q fuel listed a w:=by
 have fin:∀ (listed:Array Bool) (k:Nat) (done rest:List Nat) (s:mh) (ρ:Ren) (a:Act) (w:World),listed.size=ops.size→(∀ i,i<ops.size→dP listed i) →
   Di P nt ops ri T0 M0 ρ0 w0 k done rest s (dP listed) ρ a w→Mr P ops T0 ri k s K rest→Q .normal a w:=by
  intro listed k done rest s ρ a w hsz hall hI hcont
  have hrest:rest=[]:=by
   cases rest with
   | nil=>rfl
   | cons x rest =>
     have hx:x∈ri.es:=by rw[hI.es]; simp
     rw[ht.es,nE] at hx
     obtain⟨j,o,hj,rfl,_⟩:=hx
     have:=(List.getElem?_eq_some_iff.1 hj).1
     exact absurd (hall (0 + j) (by simpa using this)) (hI.rs _ (.head _))
  subst hrest
  have hcont:K s:=hcont
  refine hQ s ρ a w hcont hI.step ⟨hI.size,fun t=>?_,hI.defers⟩ hI.jJ hI.base hI.next
  obtain⟨g1,g2⟩:=hI.slot t
  refine Bq t _ ri.rows T0 (fun r hr hd=>?_) ?_
  ·obtain⟨q,hq⟩:=List.mem_iff_getElem?.1 hr
   obtain⟨e1,e2,_⟩:=ht.row hq
   have hql:=(List.getElem?_eq_some_iff.1 e2).1
   have:=g1 r.i (ht.dst q r hq t hd).1 (by rw[e1]; exact hall q (by simpa using hql))
   exact this
  ·by_cases hex:∃ j,ri.wr.get t=some j
   ·obtain⟨j,hj⟩:=hex
    obtain⟨o,ho,hdo⟩:=ht.wrs t j hj
    obtain⟨r,hr,rfl⟩:=ht.ex ho
    exact .inl ⟨r,List.mem_of_getElem? hr,hdo⟩
   ·exact .inr (g2 fun j hj=>absurd ⟨j,hj⟩ hex)
 intro fuel
 induction fuel with
 | zero =>
   intro listed k done rest s ρ a w hsz hcnt hI pY hcont
   have hall:∀ i,i<ops.size→dP listed i:=fun i hi=>Ju (by omega) (by omega)
   refine⟨?_,fin listed k done rest s ρ a w hsz hall hI hcont⟩
   rw[List.eq_nil_iff_forall_not_mem]
   intro i hi
   obtain⟨h1,h2,_⟩:=wW hsz hi
   exact h2 (hall i h1)
 | succ fuel ih =>
   intro listed k done rest s ρ a w hsz hcnt hI pY hcont
   refine⟨fun hr=>fin listed k done rest s ρ a w hsz (Cv ht hsz hr) hI hcont,fun i hi=>?_⟩
   obtain⟨hilt,hnl,o,ho,hd⟩:=wW hsz hi
   obtain⟨r,hr,rfl⟩:=ht.ex (j:=i) (o:=o) (by rw[Array.getElem?_toList]; exact ho)
   obtain⟨e1,e2,e3,e4,e5⟩:=ht.row hr
   have hrm:=List.mem_of_getElem? hr
   have he:=Uk ht hI hr hnl hd (qf r hrm)
   unfold wpOp
   simp only[ho]
   cases hk:iP r.kd with
   | false =>
     have hall:iM ri.ms ri.es k r=true:=by
      unfold iM
      rw[Bool.and_eq_true,List.all_eq_true]
      constructor
      ·rw[aT,e4]
       rcases uq (m:=r.m) ri.es 0 0 with h | ⟨q,x,a1,a2,a3⟩
       ·omega
       ·have hx:=ht.ahead hI.closed hr hd a2
        rw[a3]
        rcases Nat.lt_or_ge q k with h | h
        ·omega
        ·rw[hI.es,List.getElem?_append_right (by rw[hI.len]; exact h)] at a1
         exact absurd hx (hI.rs x (List.mem_of_getElem? a1))
      ·intro x hx
       rw[hI.es,List.take_left' hI.len] at hx
       rw[Bool.not_eq_true',← Bool.not_eq_true,e1,bQ]
       intro hb
       have hxe:x∈ri.es:=by rw[hI.es]; exact List.mem_append_left _ hx
       rw[ht.es,nE] at hxe
       obtain⟨j,o',hj,hxj,_⟩:=hxe
       rw[Nat.zero_add] at hxj; subst hxj
       exact hnl (ht.zW hI.closed (hI.dn x hx) hj hb)
     have sV:r.lev≤k:=by
      unfold iM at hall
      rw[Bool.and_eq_true] at hall
      exact aW hall.1
     have hok:=pY r hrm hk hall
     have hnb:∀ j b,s.bi.get j=some (some b)→¬ dP (listed.setIfInBounds i true) j→ρ b=none:=fun j b hb hj =>
      (hI.bid j b hb).2.2.1 fun hl=>hj ((oZ (by omega) j).2 (.inl hl))
     have next:∀ {v:AV} {v' : Value} {ρ' : Ren} {w' : World},s.vals.get i=some v→aj ρ' v v'→ρ.le ρ'→bC P ρ' s.M w'→Step M0.lo M0.next ρ w ρ' w' →
       (∀ j b,s.bi.get j=some (some b)→¬ dP (listed.setIfInBounds i true) j→ρ' b=none)→wpAny P .any ops Q fuel (listed.setIfInBounds i true) (a.put r.o.dst v') w':=by
      intro v v' ρ' w' hvi hv hle hw hst hb
      exact ih _ k done rest s ρ' _ w' (by simpa using hsz) (count_set (by omega) hnl hcnt) (WJ ht hsz hI hilt hr hd hk sV hvi hv hle hw hst hb) pY hcont
     have ER:ρ.le ρ:=fun _ _ h=>h
     obtain⟨g,hg,hcase⟩:=hok
     obtain⟨gon,Wd⟩:=HZ ht hI hr hd hg
     rw[e1] at hcase
     rcases hcase with⟨hon,v,hvi,hkd⟩ | ⟨hoff,hvi⟩
     ·rw[gon hon]
      simp only[if_true]
      refine .inl ?_
      have val:jR P r.o (gN T0 ri.wr s.vals r.m) s.M v→r.o.wp P a w (wpAny P .any ops Q fuel (listed.setIfInBounds i true)) Q:=by
       intro hgv
       obtain⟨v',h1,h2⟩:=hgv ρ w a.eval s.M (RM.Sub.refl _) hI.jJ he
       exact jF r.o h1 (next hvi h2 ER hI.jJ (Step.refl _ _ _) hnb)
      cases hkk:r.kd with
      | pure=>rw[hkk] at hkd; exact val (hkd _)
      | read=>rw[hkk] at hkd; exact val hkd
      | nR=>rw[hkk] at hkd; exact hkd.elim
      | alloc =>
        rw[hkk] at hkd
        obtain⟨x,mk,b,⟨y,hx,hle⟩,hbi,hy,hmk⟩:=hkd
        obtain⟨d,ob,u,inf,hrun,acn,hrel,VV⟩:=oh he hx w
        obtain⟨b1,b2,b3,b4⟩:=hI.bid i b hbi
        have hbn:=b3 hnl
        have hd' : bC P ρ s.M (if d=true then w.drew else w):=by cases d <;> simp[hI.jJ,hI.jJ.drew]
        have hsz' : (if d=true then w.drew else w).heap.size=w.heap.size:=by cases d <;> simp
        have hst' : Step M0.lo M0.next ρ w ρ (if d=true then w.drew else w):=by cases d <;> simp[Step.refl,Step.drew]
        obtain⟨h1,h2⟩:=Tx hd' (by omega) hbn b2 hy hle hrel
        replace h2:=h2.PW hI.base
        refine jF r.o hrun (next hvi (hmk▸VV _ b (by simp[Ren.add])) (Ren.nX hbn) h1 (hst'.trans h2 b1) fun j b' hb' hj=>?_)
        have hne:b'≠b:=by
         intro e
         subst e
         have hji:j≠i:=fun e=>hj ((oZ (by omega) j).2 (.inr e))
         exact hji (hI.uo j i b' hb' hbi)
        unfold Ren.add
        rw[if_neg hne]
        exact hnb j b' hb' hj
     ·rw[Wd hoff]
      simp only[Bool.false_eq_true,if_false]
      exact next hvi (.tup _ _ .nil) ER hI.jJ (Step.refl _ _ _) hnb
   | true =>
     have hie:i∈ri.es:=(ht.nR hr).2 hk
     rw[hI.es] at hie
     have hir:i∈rest:=by
      rcases List.mem_append.1 hie with h | h
      ·exact absurd (hI.dn i h) hnl
      ·exact h
     cases rest with
     | nil=>cases hir
     | cons x rest' =>
       have hxi:x=i:=by
        rcases List.mem_cons.1 hir with e | hm
        ·exact e.symm
        ·obtain⟨l1,l2,hl⟩:=List.append_of_mem hm
         have:=ht.chain (done++x :: l1) i l2 (by rw[hI.es,hl]; simp) x (by simp)
         rw[e3] at this
         exact absurd (ht.ahead hI.closed hr hd this) (hI.rs x (.head _))
       subst hxi
       have hnd:x ∉ rest':=by
        intro hm
        obtain⟨l1,l2,hl⟩:=List.append_of_mem hm
        have:=ht.chain (done++x :: l1) x l2 (by rw[hI.es,hl]; simp) x (by simp)
        rw[e3] at this
        exact hnl (ht.ahead hI.closed hr hd this)
       obtain⟨r',hr',hgs⟩:=hcont
       rw[bQ,hr] at hr'; cases hr'
       obtain⟨g,hg,hcase⟩:=qb hgs
       obtain⟨gon,Wd⟩:=HZ ht hI hr hd hg
       have next:∀ {v:AV} {v' : Value} {ρ' : Ren} {w' : World} {M' : RM},aj ρ' v v'→After P s.M ρ w M' ρ' w' →
         Lc P ops T0 ri k ri.rows { vals:=s.vals.set x v,M:=M',bi:=s.bi } (rY P ops T0 ri (k + 1) rest' { vals:=s.vals.set x v,M:=M',bi:=s.bi } K) →
         wpAny P .any ops Q fuel (listed.setIfInBounds x true) (a.put r.o.dst v') w':=by
        intro v v' ρ' w' M' hv haft hre
        obtain⟨s3,h1,h2,h3⟩:=VH ht hsz hI pY hilt hr hd hnd hv haft hre
        exact ih _ (k + 1) _ rest' s3 ρ' _ w' (by simpa using hsz) (count_set (by omega) hnl hcnt) h1 h2 h3
       rcases hcase with⟨hon,hn⟩ | ⟨hoff,hn⟩
       ·rw[gon hon]
        simp only[if_true]
        exact .inl (QA (F7 hP (fun _=>rfl) hn) hI.jJ he fun v v' M' ρ' w' haft hv hk=>next hv haft hk)
       ·rw[Wd hoff]
        simp only[Bool.false_eq_true,if_false]
        exact next (.tup _ _ .nil) (After.refl hI.jJ) hn
theorem A8 {vals:Tree AV} {t:Nat} : ∀ (rows:List Row) (T:Tree AV),(∀ r∈rows,r.o.dst≠some t)→(yV T vals rows).get t=T.get t
 | [],T,_=>rfl
 | r :: rows,T,h=>by
   simp only[yV]
   cases hd:r.o.dst with
   | none=>exact A8 rows T fun r' hr'=>h r' (.tail _ hr')
   | some d =>
     simp only
     rw[A8 rows _ fun r' hr'=>h r' (.tail _ hr'),Tree.aY,if_neg]
     intro e; subst e
     exact h r (.head _) hd
theorem PP (hP:tT P) {id:Nat} {T:Tree AV} {M:RM} {K:Tree AV→RM→Prop} {Q:Exit→Act→World→Prop} (hM:After P M0 ρ0 w0 M ρ w) (hA:df ρ nt T a)
  (hQ:∀ T' M' ρ' a' w',After P M0 ρ0 w0 M' ρ' w'→df ρ' nt T' a'→K T' M'→(∀ t,(∀ o∈ops.toList,o.dst≠some t)→T'.get t=T.get t)→Q .normal a' w') (h:uh P nt ops T M K) : (Code.region id ops true).wp P Q a w:=by
 unfold uh at h
 split at h <;> first | (cases h; done) | skip
 rename_i ri hri
 split at h <;> first | (cases h; done) | skip
 rename_i qf
 have ht:=qJ hri
 obtain⟨s1,h1,hp⟩:=zD ht hM.rel.fr (fun j b hb=>by simp[Tree.get] at hb) h
 have hno:∀ i,¬ dP (Array.replicate ops.size false) i:=by
  intro i h
  unfold dP at h
  simp only[Array.getD_eq_getD_getElem?,Array.getElem?_replicate] at h
  split at h <;> simp at h
 refine wp_region_any hP.mixed (KP (M0:=M0) (ρ0:=ρ0) (w0:=w0) (T0:=T) hP ht (fun r hr=>List.all_eq_true.1 qf r hr) (fun s ρ' a' w' k0 k1 k2 k3 k4 k5=>hQ _ _ ρ' a' w' ⟨k1,k3,k4,k5⟩ k2 k0 (fun t hnt=>A8 ri.rows T fun r hr=>by
   obtain⟨q,hq⟩:=List.mem_iff_getElem?.1 hr
   exact hnt r.o (List.mem_of_getElem? (ht.row hq).2.1))) ops.size _ 0 [] ri.es s1 ρ a _ (by simp) (by simp) ?_ ?_ h1)
 ·refine⟨rfl,rfl,fun i o _ hi=>absurd hi (hno i),(fun x hx=>by cases hx),fun x _=>hno x,fun j r _ _ hj=>absurd hj (hno j),hA.size,hA.defers,fun t=>⟨fun j _ hj=>absurd hj (hno j),fun _=>hA.val t⟩,hp.rel _ _ hM.rel.drew,hM.step.trans (Step.drew (n:=M0.next)) (Nat.le_refl _),by rw[hp.sub.1]; exact hM.base,Nat.le_trans hM.next hp.next,fun j b hb'=>?_,fun j1 j2 b b1 b2=>?_⟩
  ·rcases hp.bi j b hb' with h | ⟨h,h',_,r,hr⟩
   ·simp[Tree.get] at h
   ·refine⟨Nat.le_trans hM.next h,h',fun _=>hM.rel.fresh h, ?_⟩
    obtain⟨g1,g2,_⟩:=ht.row hr
    have:=(List.getElem?_eq_some_iff.1 g2).1
    rw[Array.length_toList] at this
    exact this
  ·rcases hp.bi j1 b b1 with h | ⟨h,_⟩
   ·simp[Tree.get] at h
   ·exact hp.uo j1 j2 b b1 b2 h
 ·intro r hr hk hal
  obtain⟨q,hq⟩:=List.mem_iff_getElem?.1 hr
  unfold iM at hal
  rw[Bool.and_eq_true] at hal
  exact hp.done q r hq (Nat.zero_le _) (by have:=aW hal.1; omega) hk
end
set_option maxRecDepth 10000
def posOf (p:List Nat) (x:Nat) : Nat:=p.idxOf x
def wQ (p:List Nat) (x y k:Nat) (o:Oper) : Oper :=
 { o with after:=(o.after.toList.map (fun e:Edge=>({ e with on:=posOf p e.on } : Edge))++(if k=y then[(⟨posOf p x,.data⟩ : Edge)] else[])).toArray,guard:=o.guard.map fun g=>(posOf p g.1,g.2) }
def iU (p:List Nat) (x y:Nat) (ops:Array Oper) : Array Oper:=(p.map fun k=>wQ p x y k ((ops[k]?).getD default)).toArray
def II (p:List Nat) (n:Nat) : Bool :=
 Nat.beq p.length n && ((List.range n).all (fun i=>p.contains i) && (List.range n).all (fun k=>match p[k]? with | some i=>Nat.beq (posOf p i) k && Nat.ble (i + 1) n | none=>false))
def OB (ms:List Nat) : List Nat→Option (Nat × Nat)
 | x :: y :: es=>match Nat.testBit ((nth ms y).getD 0) x with
   | true=>OB ms (y :: es)
   | false=>some (x,y)
 | _=>none
def front (m y n:Nat) : List Nat:=((List.range n).filter fun i=>Nat.testBit m i || Nat.beq i y)++((List.range n).filter fun i=>!(Nat.testBit m i || Nat.beq i y))
def abG (P:Program) (ops:Array Oper) : Option (Nat × Nat × List Nat) :=
 match OB (je ops.toList []) (sN P ops.toList 0) with
 | none=>none
 | some (x,y)=>some (x,y,front ((nth (je ops.toList []) y).getD 0) y ops.size)
structure Perm (p:List Nat) (n:Nat) : Prop where
 len:p.length=n
 mem:∀ i,i<n→i∈p
 back:∀ k,k<n→∃ i,p[k]?=some i∧posOf p i=k∧i<n
theorem rG {p:List Nat} {n:Nat} (h:II p n=true) : Perm p n:=by
 unfold II at h
 simp only[Bool.and_eq_true,List.all_eq_true,List.mem_range,List.contains_iff_mem] at h
 refine⟨Nat.eq_of_beq_eq_true h.1,h.2.1,fun k hk=>?_⟩
 have:=h.2.2 k hk
 split at this
 ·rename_i i hi
  rw[Bool.and_eq_true] at this
  exact⟨i,hi,Nat.eq_of_beq_eq_true this.1,by have:=aW this.2; omega⟩
 ·cases this
section
variable {p:List Nat} {n:Nat}
theorem Perm.lt (h:Perm p n) {i:Nat} (hi:i<n) : posOf p i<n:=by
 have:=List.idxOf_lt_length_of_mem (h.mem i hi)
 unfold posOf; rw[h.len] at this; exact this
theorem Perm.get (h:Perm p n) {i:Nat} (hi:i<n) : p[posOf p i]?=some i:=by
 have hl:=List.idxOf_lt_length_of_mem (h.mem i hi)
 unfold posOf
 rw[List.getElem?_eq_getElem hl,List.getElem_idxOf hl]
theorem Perm.out (h:Perm p n) {i:Nat} (hi:n≤i) : posOf p i=n:=by
 have:i ∉ p:=fun hm=>by
  obtain⟨k,hk,e⟩:=List.getElem_of_mem hm
  obtain⟨j,h1,_,h3⟩:=h.back k (by rw[← h.len]; exact hk)
  rw[List.getElem?_eq_getElem hk,e] at h1
  cases h1
  omega
 unfold posOf
 rw[List.idxOf_eq_length this,h.len]
theorem Perm.inj (h:Perm p n) {i j:Nat} (hi:i<n) (e:posOf p i=posOf p j) : i=j:=by
 rcases Nat.lt_or_ge j n with hj | hj
 ·have h1:=h.get hi
  rw[e,h.get hj] at h1
  exact(Option.some.inj h1).symm
 ·have:=h.lt hi
  rw[e,h.out hj] at this
  omega
end
def vY (ops:Array Oper) : Nat→Array Bool→List Nat→Prop
 | 0,_,l=>l=[]
 | fuel + 1,listed,l=>(Region.ready .any ops listed=[]∧l=[])∨∃ i l',l=i :: l'∧i∈Region.ready .any ops listed∧vY ops fuel (listed.setIfInBounds i true) l'
theorem DV (ops:Array Oper) : ∀ (fuel t:Nat) (listed:Array Bool),vY ops fuel listed (Region.linearise.go .any ops fuel t listed [])
 | 0,t,listed=>by simp[Region.linearise.go,vY]
 | fuel + 1,t,listed=>by
   simp only[Region.linearise.go,vY]
   change (Region.ready .any ops listed=[]∧(match (Region.ready .any ops listed)[t % (Region.ready .any ops listed).length]? with
    | some i=>Region.linearise.go .any ops fuel (t / (Region.ready .any ops listed).length) (listed.setIfInBounds i true) [i]
    | none=>[].reverse)=[])∨∃ i l',(match (Region.ready .any ops listed)[t % (Region.ready .any ops listed).length]? with
    | some i=>Region.linearise.go .any ops fuel (t / (Region.ready .any ops listed).length) (listed.setIfInBounds i true) [i]
    | none=>[].reverse)=i :: l'∧i∈Region.ready .any ops listed∧vY ops fuel (listed.setIfInBounds i true) l'
   cases hi:(Region.ready .any ops listed)[t % (Region.ready .any ops listed).length]? with
   | none =>
     refine .inl ⟨?_,rfl⟩
     cases hr:Region.ready .any ops listed with
     | nil=>rfl
     | cons x xs =>
       rw[hr] at hi
       have:=List.getElem?_eq_none_iff.1 hi
       have h2:=Nat.mod_lt t (show 0<(x :: xs).length by simp)
       omega
   | some i =>
     refine .inr ⟨i,Region.linearise.go .any ops fuel (t / (Region.ready .any ops listed).length) (listed.setIfInBounds i true) [], ?_,List.mem_of_getElem? hi,DV ops fuel _ _⟩
     simp only
     rw[linearise_go_acc]
     rfl
def N8 (x y:Nat) : Array Bool→List Nat→Prop
 | _,[]=>True
 | listed,i :: l=>(i=y→listed.getD x false=true)∧N8 x y (listed.setIfInBounds i true) l
theorem Eg {x y:Nat} : ∀ (l:List Nat) (listed:Array Bool),listed.getD x false=true→N8 x y listed l
 | [],_,_=>trivial
 | i :: l,listed,h=>⟨fun _=>h,Eg l _ (getD_set_true h)⟩
theorem NM {ops:Array Oper} {listed:Array Bool} {i:Nat} (h:i∈Region.ready .any ops listed) : i<ops.size:=by
 obtain⟨_,o,ho,_⟩:=Go.mem_ready.1 h
 exact(Array.getElem?_eq_some_iff.1 ho).1
theorem Kq {ops:Array Oper} {x y:Nat} (hxy:x≠y) : ∀ (fuel:Nat) (l:List Nat) (listed:Array Bool),listed.size=ops.size→vY ops fuel listed l→N8 x y listed l∨N8 y x listed l
 | _,[],_,_,_=>.inl trivial
 | 0,i :: l,_,_,h=>by cases h
 | fuel + 1,i :: l,listed,hs,h=>by
   rcases h with⟨_,h⟩ | ⟨i',l',e,hr,hv⟩
   ·cases h
   ·cases e
    have hlt:i<listed.size:=by rw[hs]; exact NM hr
    have hset:(listed.setIfInBounds i true).getD i false=true:=by simp[hlt]
    by_cases h1:i=x
    ·subst h1
     exact .inl ⟨fun e=>absurd e hxy,Eg _ _ hset⟩
    ·by_cases h2:i=y
     ·subst h2
      exact .inr ⟨fun e=>absurd e h1,Eg _ _ hset⟩
     ·rcases Kq hxy fuel l (listed.setIfInBounds i true) (by simpa using hs) hv with h | h
      ·exact .inl ⟨fun e=>absurd e h2,h⟩
      ·exact .inr ⟨fun e=>absurd e h1,h⟩
section
variable {P:Program} {ops:Array Oper} {Q:Exit→Act→World→Prop} {p:List Nat} {x y:Nat}
theorem xL (h:Perm p ops.size) {i:Nat} {o:Oper} (ho:ops[i]?=some o) : (iU p x y ops)[posOf p i]?=some (wQ p x y i o):=by
 have hi:=(Array.getElem?_eq_some_iff.1 ho).1
 have hg:=h.get hi
 unfold iU
 rw[List.getElem?_toArray,List.getElem?_map,hg,Option.map_some,ho]
 rfl
theorem uk (h:Perm p ops.size) : (iU p x y ops).size=ops.size:=by
 unfold iU; simp[h.len]
theorem Bf (h:Perm p ops.size) {k:Nat} {o' : Oper} (ho:(iU p x y ops)[k]?=some o') : ∃ i o,ops[i]?=some o∧posOf p i=k∧o'=wQ p x y i o:=by
 have hk:k<ops.size:=by rw[← uk (x:=x) (y:=y) h]; exact(Array.getElem?_eq_some_iff.1 ho).1
 obtain⟨i,h1,h2,h3⟩:=h.back k hk
 refine⟨i,ops[i],Array.getElem?_eq_getElem h3,h2, ?_⟩
 have:=xL (x:=x) (y:=y) h (Array.getElem?_eq_getElem h3)
 rw[h2,ho] at this
 exact Option.some.inj this
theorem QY (h:Perm p ops.size) (tmps:Array Value) (j:Nat) : yielded (iU p x y ops) tmps (posOf p j)=yielded ops tmps j:=by
 unfold yielded
 rcases Nat.lt_or_ge j ops.size with hj | hj
 ·rw[xL h (Array.getElem?_eq_getElem hj),Array.getElem?_eq_getElem hj]
  rfl
 ·rw[h.out hj,Array.getElem?_eq_none (by rw[uk h]; exact Nat.le_refl _),Array.getElem?_eq_none hj]
theorem U9 (h:Perm p ops.size) (i:Nat) (o:Oper) (tmps:Array Value) : Region.wanted (wQ p x y i o) (yielded (iU p x y ops) tmps)=Region.wanted o (yielded ops tmps):=by
 unfold Region.wanted wQ
 cases hg:o.guard with
 | none=>rfl
 | some g =>
   obtain⟨j,want⟩:=g
   simp only[hg,Option.map_some]
   rw[QY h]
theorem Yg (h:Perm p ops.size) {i:Nat} (hi:i<ops.size) {K:Act→World→Prop} {a:Act} {w:World} (hw:wpOp P (iU p x y ops) Q (posOf p i) K a w) : wpOp P ops Q i K a w:=by
 have ho:=Array.getElem?_eq_getElem hi
 unfold wpOp at hw ⊢
 rw[xL h ho] at hw
 rw[ho]
 simp only at hw ⊢
 rw[U9 h] at hw
 exact hw
structure Ko (p:List Nat) (n:Nat) (listed gU:Array Bool) : Prop where
 s:listed.size=n
 s1:gU.size=n
 at_:∀ z,gU.getD (posOf p z) false=listed.getD z false
theorem Ko.set {n:Nat} {listed gU:Array Bool} (h:Ko p n listed gU) (hp:Perm p n) {i:Nat} (hi:i<n) : Ko p n (listed.setIfInBounds i true) (gU.setIfInBounds (posOf p i) true):=by
 refine⟨by simpa using h.s,by simpa using h.s1,fun z=>?_⟩
 by_cases hz:i=z
 ·subst hz
  have h1:i<listed.size:=by rw[h.s]; exact hi
  have h2:posOf p i<gU.size:=by rw[h.s1]; exact hp.lt hi
  simp[h1,h2]
 ·rw[getD_set_ne false hz,getD_set_ne false (fun e=>hz (hp.inj hi e)),h.at_]
theorem EQ {l:Array Bool} {i:Nat} (hi:i<l.size) : l.getD i true=l.getD i false:=by
 simp[Array.getD_eq_getD_getElem?,Array.getElem?_eq_getElem hi]
theorem sj (h:Perm p ops.size) : ∀ (fuel:Nat) (listed gU:Array Bool) (l:List Nat) (a:Act) (w:World),vY ops fuel listed l→N8 x y listed l→Ko p ops.size listed gU →
  wpAny P .any (iU p x y ops) Q fuel gU a w→wpOps P ops Q l a w
 | 0,listed,gU,l,a,w,hv,ho,hr,hw=>by
   cases hv
   simpa [wpOps] using hw.2
 | fuel + 1,listed,gU,l,a,w,hv,ho,hr,hw=>by
   rcases hv with⟨hn,rfl⟩ | ⟨i,l',rfl,hi,hv⟩
   ·have:Region.ready .any (iU p x y ops) gU=[]:=by
     cases hq:Region.ready .any (iU p x y ops) gU with
     | nil=>rfl
     | cons k ks =>
       exfalso
       have hk:k∈Region.ready .any (iU p x y ops) gU:=by rw[hq]; simp
       obtain⟨h0,o',ho',hall⟩:=Go.mem_ready.1 hk
       obtain⟨j,o,hj,hjk,rfl⟩:=Bf h ho'
       have hjn:=(Array.getElem?_eq_some_iff.1 hj).1
       have:j∈Region.ready .any ops listed:=by
        refine Go.mem_ready.2 ⟨?_,o,hj,fun e he hb=>?_⟩
        ·rw[EQ (by rw[hr.s]; exact hjn),← hr.at_,hjk,← EQ (by rw[hr.s1,← hjk]; exact h.lt hjn)]; exact h0
        ·have:=hall { e with on:=posOf p e.on } (by
          unfold wQ
          simp only[List.mem_toArray,List.mem_append,List.mem_map]
          exact .inl ⟨e,by simpa using he,rfl⟩) hb
         rw[← hr.at_]; exact this
       rw[hn] at this; cases this
    simpa [wpOps] using hw.1 this
   ·have hin:=NM hi
    obtain⟨h0,o,hio,hall⟩:=Go.mem_ready.1 hi
    have hk:posOf p i∈Region.ready .any (iU p x y ops) gU:=by
     refine Go.mem_ready.2 ⟨?_,_,xL h hio,fun e he hb=>?_⟩
     ·rw[EQ (by rw[hr.s1]; exact h.lt hin),hr.at_,← EQ (by rw[hr.s]; exact hin)]; exact h0
     ·unfold wQ at he
      simp only[List.mem_toArray,List.mem_append,List.mem_map] at he
      rcases he with⟨e',he',rfl⟩ | he
      ·have:=hall e' (by simpa using he') hb
       show gU.getD (posOf p e'.on) false=true
       rw[hr.at_]; exact this
      ·split at he
       ·rename_i hy
        simp only[List.mem_singleton] at he
        subst he
        show gU.getD (posOf p x) false=true
        rw[hr.at_]
        exact ho.1 hy
       ·cases he
    have h1:=Yg h hin (hw.2 _ hk)
    rw[wpOps_cons]
    exact wpOp_mono (fun a' w' h'=>sj h fuel _ _ l' a' w' hv ho.2 (hr.set h hin) h') h1
theorem Vz {id:Nat} {a:Act} {w:World} {p2:List Nat} (hm:P.follows .mixedOrders=true) (hxy:x≠y) (h1:Perm p ops.size) (h2:Perm p2 ops.size)
  (w1:wpAny P .any (iU p x y ops) Q ops.size (Array.replicate ops.size false) a { w with drawn:=w.drawn + 1 }) (w2:wpAny P .any (iU p2 y x ops) Q ops.size (Array.replicate ops.size false) a { w with drawn:=w.drawn + 1 }) : (Code.region id ops true).wp P Q a w:=by
 refine wp_region_draw fun t=>?_
 simp only[Region.schedule,hm,Bool.true_or,if_true]
 have hv:=DV ops ops.size t (Array.replicate ops.size false)
 have rel:∀ q:List Nat,Ko q ops.size (Array.replicate ops.size false) (Array.replicate ops.size false):=fun q=>⟨by simp,by simp,fun z=>by
  simp only[Array.getD_eq_getD_getElem?,Array.getElem?_replicate]
  split <;> split <;> rfl⟩
 rcases Kq hxy ops.size _ _ (by simp) hv with ho | ho
 ·exact sj h1 ops.size _ _ _ a _ hv ho (rel p) w1
 ·exact sj h2 ops.size _ _ _ a _ hv ho (rel p2) w2
end
def Fb (P:Program) (nt:Nat) (ops:Array Oper) (T:Tree AV) (M:RM) (K:Tree AV→RM→Prop) : Prop :=
 match qh P nt ops with
 | some _=>uh P nt ops T M K
 | none=>match abG P ops with
   | none=>False
   | some (x,y,p)=>match II (List.range ops.size) ops.size && II p ops.size && !Nat.beq x y with
     | false=>False
     | true=>uh P nt (iU (List.range ops.size) x y ops) T M K∧uh P nt (iU p y x ops) T M K
section
variable {P:Program} {nt:Nat} {ops:Array Oper} {M0:RM} {ρ0 ρ:Ren} {w0 w:World} {a:Act}
theorem Dp (hP:tT P) {T:Tree AV} {M:RM} {K:Tree AV→RM→Prop} {Q:Exit→Act→World→Prop} (hM:After P M0 ρ0 w0 M ρ w) (hA:df ρ nt T a)
  (hQ:∀ T' M' ρ' a' w',After P M0 ρ0 w0 M' ρ' w'→df ρ' nt T' a'→K T' M'→(∀ t,(∀ o∈ops.toList,o.dst≠some t)→T'.get t=T.get t)→Q .normal a' w') (h:uh P nt ops T M K) :
  wpAny P .any ops Q ops.size (Array.replicate ops.size false) a { w with drawn:=w.drawn + 1 } := by
 unfold uh at h
 split at h <;> first | (cases h; done) | skip
 rename_i ri hri
 split at h <;> first | (cases h; done) | skip
 rename_i qf
 have ht:=qJ hri
 obtain⟨s1,h1,hp⟩:=zD ht hM.rel.fr (fun j b hb=>by simp[Tree.get] at hb) h
 have hno:∀ i,¬ dP (Array.replicate ops.size false) i:=by
  intro i h
  unfold dP at h
  simp only[Array.getD_eq_getD_getElem?,Array.getElem?_replicate] at h
  split at h <;> simp at h
 refine(KP (M0:=M0) (ρ0:=ρ0) (w0:=w0) (T0:=T) hP ht (fun r hr=>List.all_eq_true.1 qf r hr) (fun s ρ' a' w' k0 k1 k2 k3 k4 k5=>hQ _ _ ρ' a' w' ⟨k1,k3,k4,k5⟩ k2 k0 (fun t hnt=>A8 ri.rows T fun r hr=>by
   obtain⟨q,hq⟩:=List.mem_iff_getElem?.1 hr
   exact hnt r.o (List.mem_of_getElem? (ht.row hq).2.1))) ops.size _ 0 [] ri.es s1 ρ a _ (by simp) (by simp) ?_ ?_ h1)
 ·refine⟨rfl,rfl,fun i o _ hi=>absurd hi (hno i),(fun x hx=>by cases hx),fun x _=>hno x,fun j r _ _ hj=>absurd hj (hno j),hA.size,hA.defers,fun t=>⟨fun j _ hj=>absurd hj (hno j),fun _=>hA.val t⟩,hp.rel _ _ hM.rel.drew,hM.step.trans (Step.drew (n:=M0.next)) (Nat.le_refl _),by rw[hp.sub.1]; exact hM.base,Nat.le_trans hM.next hp.next,fun j b hb'=>?_,fun j1 j2 b b1 b2=>?_⟩
  ·rcases hp.bi j b hb' with h | ⟨h,h',_,r,hr⟩
   ·simp[Tree.get] at h
   ·refine⟨Nat.le_trans hM.next h,h',fun _=>hM.rel.fresh h, ?_⟩
    obtain⟨g1,g2,_⟩:=ht.row hr
    have:=(List.getElem?_eq_some_iff.1 g2).1
    rw[Array.length_toList] at this
    exact this
  ·rcases hp.bi j1 b b1 with h | ⟨h,_⟩
   ·simp[Tree.get] at h
   ·exact hp.uo j1 j2 b b1 b2 h
 ·intro r hr hk hal
  obtain⟨q,hq⟩:=List.mem_iff_getElem?.1 hr
  unfold iM at hal
  rw[Bool.and_eq_true] at hal
  exact hp.done q r hq (Nat.zero_le _) (by have:=aW hal.1; omega) hk
theorem Pz (hP:tT P) {id:Nat} {T:Tree AV} {M:RM} {K:Tree AV→RM→Prop} {Q:Exit→Act→World→Prop} (hM:After P M0 ρ0 w0 M ρ w) (hA:df ρ nt T a)
  (hQ:∀ T' M' ρ' a' w',After P M0 ρ0 w0 M' ρ' w'→df ρ' nt T' a'→K T' M'→(∀ t,(∀ o∈ops.toList,o.dst≠some t)→T'.get t=T.get t)→Q .normal a' w') (h:Fb P nt ops T M K) : (Code.region id ops true).wp P Q a w:=by
 unfold Fb at h
 split at h
 ·exact PP hP hM hA hQ h
 ·split at h
  ·exact h.elim
  ·rename_i x y p _
   split at h
   ·exact h.elim
   ·rename_i hc
    simp only[Bool.and_eq_true,Bool.not_eq_true'] at hc
    obtain⟨⟨c1,c2⟩,c3⟩:=hc
    have p1:=rG c1
    have p2:=rG c2
    have hxy:x≠y:=fun e=>by subst e; rw[Nat.beq_refl] at c3; cases c3
    have go:∀ (q:List Nat) (x y:Nat),Perm q ops.size→uh P nt (iU q x y ops) T M K→wpAny P .any (iU q x y ops) Q ops.size (Array.replicate ops.size false) a { w with drawn:=w.drawn + 1 } := by
     intro q x y hq hd
     have:=Dp hP hM hA (Q:=Q) (fun T' M' ρ' a' w' k1 k2 k3 k4=>hQ T' M' ρ' a' w' k1 k2 k3 fun t ht=>k4 t fun o' ho'=>?_) hd
     ·rw[uk hq] at this; exact this
     ·obtain⟨k,hk⟩:=List.mem_iff_getElem?.1 ho'
      rw[Array.getElem?_toList] at hk
      obtain⟨i,o,hi,_,rfl⟩:=Bf hq hk
      exact ht o (by rw[← Array.getElem?_toList] at hi; exact List.mem_of_getElem? hi)
    exact Vz hP.mixed hxy p1 p2 (go _ _ _ p1 h.1) (go _ _ _ p2 h.2)
end
def NZ:Option Tmp→Nat
 | some d=>2 ^ d
 | none=>0
def TG:Operand→Nat
 | .tmp t=>2 ^ t
 | _=>0
def Vf:List Operand→Nat
 | []=>0
 | x :: xs=>TG x ||| Vf xs
def Xg (L m:Nat) : Nat:=L ^^^ (L &&& m)
def Em:List Oper→Nat
 | []=>0
 | o :: os=>NZ o.dst ||| Em os
def dG:Nat→Code→Nat
 | 0,_=>0
 | f + 1,c=>match c with
   | .region _ ops _=>Em ops.toList
   | .seq a b=>dG f a ||| dG f b
   | .cond _ a b=>dG f a ||| dG f b
   | .block _ c=>dG f c
   | .loop c=>dG f c
   | .scope c=>dG f c
   | _=>0
def P5:List Oper→Nat→Nat
 | [],L=>L
 | o :: os,L=>Xg (P5 os L) (NZ o.dst) ||| Vf o.op.operands.toList
def UX:List (Nat × Nat)→Nat→Nat
 | [],_=>0
 | (i,L) :: r,id=>match Nat.beq i id with
   | true=>L
   | false=>UX r id
def fB (ret:Nat) : Nat→List (Nat × Nat)→Code→Nat→Nat
 | 0,_,_,_=>0
 | f + 1,env,c,L=>match c with
   | .skip=>L
   | .region _ ops _=>P5 ops.toList L
   | .seq a b=>fB ret f env a (fB ret f env b L)
   | .cond c a b=>TG c ||| fB ret f env a L ||| fB ret f env b L
   | .block id c=>fB ret f ((id,L) :: env) c L
   | .loop c=>fB ret f env c (fB ret f env c 0)
   | .exit id=>UX env id
   | .ret=>ret
   | .scope c=>fB ret f env c L
   | .label _=>L
   | _=>0
def cap2 (n:Nat) : Nat:=match n with | 0=>0 | 1=>1 | _=>2
def qC (id:Nat) : Nat→Code→Nat
 | 0,_=>2
 | f + 1,c=>match c with
   | .seq a b=>cap2 (qC id f a + qC id f b)
   | .cond _ a b=>cap2 (qC id f a + qC id f b)
   | .block _ c=>qC id f c
   | .loop c=>qC id f c
   | .exit i=>match Nat.beq i id with | true=>1 | false=>0
   | _=>0
def sO:Nat→Code→Nat
 | 0,_=>2
 | f + 1,c=>match c with
   | .skip=>1
   | .region _ _ _=>1
   | .seq a b=>cap2 (sO f a * sO f b)
   | .cond _ a b=>cap2 (sO f a + sO f b)
   | .block id c=>cap2 (sO f c + qC id f c)
   | .scope c=>sO f c
   | .label _=>1
   | _=>0
def zY (m:Nat) : Nat→Nat→List Nat
 | _,0=>[]
 | i,n + 1=>match Nat.testBit m i with
   | true=>i :: zY m (i + 1) n
   | false=>zY m (i + 1) n
def bitsOf (m nt:Nat) : List Nat:=zY m 0 nt
def vW (T:Tree AV) : List Nat→List AV
 | []=>[]
 | t :: ts=>(T.get t).getD .top :: vW T ts
def aa:List AV→Nat→AV
 | [],_=>.top
 | x :: _,0=>x
 | _ :: xs,n + 1=>aa xs n
def AJ (T:Tree AV) : List Nat→Tree AV
 | []=>T
 | t :: ts=>AJ (T.set t .top) ts
def Oh (T:Tree AV) (xs:List AV) : Nat→List Nat→Tree AV
 | _,[]=>T
 | i,t :: ts=>Oh (T.set t (aa xs i)) xs (i + 1) ts
def xR (T:Tree AV) (asg vs:List Nat) (xs:List AV) : Tree AV:=Oh (AJ T asg) xs 0 vs
def az (x:AV) (p q:Prop) : Prop :=
 match x with
 | .sc (.bool b)=>(b=true→p)∧(b=false→q)
 | _=>False
def ek (f:(List AV→RM→Prop)→Prop) (g:List AV→RM→Prop) : Prop:=f g
def aX (body:(List AV→RM→Prop)→List AV→RM→Prop) (xs:List AV) (M:RM) : Prop :=
 ∃ (I:Nat→List AV→RM→Prop) (n:Nat),I n xs M∧∀ m ys M',I m ys M'→body (fun zs M''=>∃ m',m'<m∧I m' zs M'') ys M'
abbrev K3:=Ex→Tree AV→RM→Prop
def wpC (P:Program) (nt ret:Nat) : Nat→Code→List (Nat × Nat)→Nat→Tree AV→RM→K3→Prop
 | 0,_,_,_,_,_,_=>False
 | f + 1,c,env,L,T,M,K=>match c with
   | .skip=>K .normal T M
   | .region _ ops false=>GD P nt ops ops.toList T M (fun T' M'=>K .normal T' M')
   | .region _ ops true=>Fb P nt ops T M (fun T' M'=>K .normal T' M')
   | .seq a b=>match Nat.ble (sO f a) 1 with
     | true=>wpC P nt ret f a env (fB ret f env b L) T M (fun e T' M'=>match e with
       | .normal=>wpC P nt ret f b env L T' M' K
       | e=>K e T' M')
     | false=>ek (fun J=>wpC P nt ret f a env (fB ret f env b L) T M (fun e T' M'=>match e with
       | .normal=>J (vW T' (bitsOf (dG f a &&& fB ret f env b L) nt)) M'
       | e=>K e T' M'))
       (fun xs M'=>wpC P nt ret f b env L (xR T (bitsOf (dG f a) nt) (bitsOf (dG f a &&& fB ret f env b L) nt) xs) M' K)
   | .cond c a b=>az (jm T c) (wpC P nt ret f a env L T M K) (wpC P nt ret f b env L T M K)
   | .block id c=>wpC P nt ret f c ((id,L) :: env) L T M (fun e T' M'=>match e with
     | .exit i=>match Nat.beq i id with
       | true=>K .normal T' M'
       | false=>K (.exit i) T' M'
     | e=>K e T' M')
   | .loop c=>aX (fun next xs M'=>wpC P nt ret f c env (fB ret f env c (fB ret f env c 0)) (xR T (bitsOf (dG f c) nt) (bitsOf (dG f c &&& fB ret f env c (fB ret f env c 0)) nt) xs) M'
     (fun e T' M'=>match e with
      | .normal=>next (vW T' (bitsOf (dG f c &&& fB ret f env c (fB ret f env c 0)) nt)) M'
      | e=>K e T' M'))
     (vW T (bitsOf (dG f c &&& fB ret f env c (fB ret f env c 0)) nt)) M
   | .exit id=>K (.exit id) T M
   | .ret=>K .ret T M
   | .scope c=>wpC P nt ret f c env L T M K
   | .label _=>K .normal T M
   | _=>False
def Vs (P:Program) (T:Tree AV) (M:RM) (r:ResultVar) (K:AV→Prop) : Prop :=
 match r with
 | .tmp t=>K ((T.get t).getD .top)
 | .cell a t=>match dm P t with
   | some false=>ag M ((T.get a).getD .top) K
   | some true=>match aZ P t with
     | some n=>dE M ((T.get a).getD .top) n K
     | none=>False
   | none=>False
def Rx (P:Program) (T:Tree AV) (M:RM) : List ResultVar→(List AV→Prop)→Prop
 | [],K=>K []
 | r :: rs,K=>Vs P T M r (fun v=>Rx P T M rs (fun vs=>K (v :: vs)))
def Q9 (Q:ak) (M:RM) : List AV→Prop
 | [v]=>Q v M
 | vs=>Q (.tup vs) M
def EK:List ResultVar→Nat
 | []=>0
 | .tmp t :: rs=>2 ^ t ||| EK rs
 | .cell a _ :: rs=>2 ^ a ||| EK rs
def UC (P:Program) (fn:Func) (c:Code) (args:List AV) (M:RM) (Q:ak) : Prop :=
 wpC P (args.length + (fn.ntmps - args.length)) (EK fn.results.toList) 1000 c [] 0 (Tree.ofList args 0 .leaf) M
  (fun e T M'=>match e with
   | .exit _=>False
   | _=>Rx P T M' fn.results.toList (Q9 Q M'))
section
variable {P:Program} {nt ret:Nat}
def RQ (P:Program) (nt:Nat) (M0:RM) (ρ0:Ren) (w0:World) (T:Tree AV) (asg:Nat) (K:K3) (e:Exit) (a:Act) (w:World) : Prop :=
 ∃ x T' M' ρ',e=yD x∧After P M0 ρ0 w0 M' ρ' w∧df ρ' nt T' a∧(∀ t,Nat.testBit asg t=false→T'.get t=T.get t)∧K x T' M'
theorem MM {T:Tree AV} : ∀ (vs:List Nat) (i:Nat),aa (vW T vs) i=match vs[i]? with | some t=>(T.get t).getD .top | none=>.top
 | [],i=>by simp[vW,aa]
 | t :: vs,0=>by simp[vW,aa]
 | t :: vs,i + 1=>by simp[vW,aa,MM vs i]
theorem DC:∀ (asg:List Nat) (T:Tree AV) (t:Nat),(AJ T asg).get t=if t∈asg then some .top else T.get t
 | [],T,t=>by simp[AJ]
 | d :: asg,T,t=>by
   simp only[AJ,DC asg,Tree.aY,List.mem_cons]
   by_cases h1:t∈asg
   ·simp[h1]
   ·by_cases h2:t=d <;> simp[h1,h2]
theorem Ha:∀ (vs:List Nat) (T:Tree AV) (xs:List AV) (i t:Nat),(t ∉ vs∧(Oh T xs i vs).get t=T.get t)∨∃ j,vs[j]?=some t∧(Oh T xs i vs).get t=some (aa xs (i + j))
 | [],T,xs,i,t=>.inl ⟨by simp,rfl⟩
 | d :: vs,T,xs,i,t=>by
   simp only[Oh]
   rcases Ha vs (T.set d (aa xs i)) xs (i + 1) t with⟨h1,h2⟩ | ⟨j,h1,h2⟩
   ·rw[Tree.aY] at h2
    by_cases e:t=d
    ·rw[if_pos e] at h2
     exact .inr ⟨0,by simp[e],h2⟩
    ·rw[if_neg e] at h2
     exact .inl ⟨by simp[e,h1],h2⟩
   ·exact .inr ⟨j + 1,by simpa using h1,by rw[h2]; congr 2; omega⟩
theorem Ba {m:Nat} : ∀ (n i t:Nat),t∈zY m i n↔i≤t∧t<i + n∧Nat.testBit m t=true
 | 0,i,t=>by simp[zY]; omega
 | n + 1,i,t=>by
   simp only[zY]
   split
   ·rename_i h
    rw[List.mem_cons,Ba n (i + 1) t]
    constructor
    ·rintro(rfl | ⟨a,b,c⟩)
     ·exact⟨Nat.le_refl _,by omega,h⟩
     ·exact⟨by omega,by omega,c⟩
    ·rintro⟨a,b,c⟩
     by_cases e:t=i
     ·exact .inl e
     ·exact .inr ⟨by omega,by omega,c⟩
   ·rename_i h
    rw[Ba n (i + 1) t]
    constructor
    ·rintro⟨a,b,c⟩; exact⟨by omega,by omega,c⟩
    ·rintro⟨a,b,c⟩
     have:t≠i:=fun e=>by subst e; rw[h] at c; cases c
     exact⟨by omega,by omega,c⟩
theorem qi {m n t:Nat} : t∈bitsOf m n↔t<n∧Nat.testBit m t=true:=by
 unfold bitsOf; rw[Ba]; simp
theorem wZ {ρ:Ren} {T T' : Tree AV} {a:Act} {asg:Nat} {vs:List Nat} (h:df ρ nt T' a) (hge:∀ t,nt≤t→aj ρ ((T.get t).getD .top) undef) (hk:∀ t,Nat.testBit asg t=false→T'.get t=T.get t) : df ρ nt (xR T (bitsOf asg nt) vs (vW T' vs)) a:=by
 refine⟨h.size,fun t=>?_,h.defers⟩
 unfold xR
 rcases Ha vs (AJ T (bitsOf asg nt)) (vW T' vs) 0 t with⟨_,h2⟩ | ⟨j,h1,h2⟩
 ·rw[h2,DC]
  split
  ·exact .top _
  ·rename_i hm
   by_cases hb:Nat.testBit asg t=true
   ·have hge' : nt≤t:=by
     rcases Nat.lt_or_ge t nt with hlt | hge
     ·exact absurd (qi.2 ⟨hlt,hb⟩) hm
     ·exact hge
    have hv:a.tmps.getD t undef=undef:=by
     rw[Array.getD_eq_getD_getElem?,Array.getElem?_eq_none (by rw[h.size]; exact hge')]; rfl
    rw[hv]; exact hge t hge'
   ·rw[← hk t (by simpa using hb)]
    exact h.val t
 ·rw[h2,Nat.zero_add,MM,h1]
  exact h.val t
theorem AA {T:Tree AV} {asg:Nat} {vs:List Nat} {xs:List AV} (hvs:∀ t∈vs,Nat.testBit asg t=true) (t:Nat) (h:Nat.testBit asg t=false) : (xR T (bitsOf asg nt) vs xs).get t=T.get t:=by
 unfold xR
 rcases Ha vs (AJ T (bitsOf asg nt)) xs 0 t with⟨_,h2⟩ | ⟨j,h1,h2⟩
 ·rw[h2,DC,if_neg]
  intro hm
  rw[(qi.1 hm).2] at h; cases h
 ·have:=hvs t (List.mem_of_getElem? h1)
  rw[h] at this; cases this
theorem df.ge {ρ:Ren} {T:Tree AV} {a:Act} (h:df ρ nt T a) : ∀ t,nt≤t→aj ρ ((T.get t).getD .top) undef:=by
 intro t ht
 have:=h.val t
 rw[Array.getD_eq_getD_getElem?,Array.getElem?_eq_none (by rw[h.size]; exact ht)] at this
 exact this
theorem FJ {c:Code} {Q:Exit→Act→World→Prop} : ∀ {n m:Nat} {a:Act} {w:World},n≤m→Code.rounds P c Q n a w→Code.rounds P c Q m a w
 | 0,_,_,_,_,h=>h.elim
 | n + 1,m + 1,a,w,hle,h=>by
   rw[rounds_succ] at h ⊢
   refine wp_mono h fun e a' w' hp=>?_
   cases e with
   | normal=>exact FJ (Nat.le_of_succ_le_succ hle) hp
   | exit id=>exact hp
   | ret=>exact hp
   | goto l=>exact hp
   | panic c=>exact hp
   | outgrown=>exact hp
theorem ug {t:Nat} : ∀ (l:List Oper),Nat.testBit (Em l) t=false→∀ o∈l,o.dst≠some t
 | [],_,o,ho=>by cases ho
 | x :: l,h,o,ho=>by
   simp only[Em,Nat.testBit_or,Bool.or_eq_false_iff] at h
   rcases List.mem_cons.1 ho with rfl | ho
   ·intro e
    rw[e] at h
    simp[NZ,Nat.testBit_two_pow] at h
   ·exact ug l h.2 o ho
theorem Lj {ρ:Ren} {x:AV} {u:Value} {p q:Prop} (h:az x p q) (hx:aj ρ x u) : ∃ b,u=.bool b∧(b=true→p)∧(b=false→q):=by
 unfold az at h
 split at h <;> first | (cases h; done) | skip
 rename_i b
 exact⟨b,(aN hx).1,h.1,h.2⟩
theorem TZ (hP:tT P) : ∀ (f:Nat) (c:Code) (env:List (Nat × Nat)) (L:Nat) (T:Tree AV) (M:RM) (K:K3),wpC P nt ret f c env L T M K →
  ∀ (M0:RM) (ρ0:Ren) (w0:World) (ρ:Ren) (a:Act) (w:World),After P M0 ρ0 w0 M ρ w→df ρ nt T a→c.wp P (RQ P nt M0 ρ0 w0 T (dG f c) K) a w:=by
 intro f
 induction f with
 | zero=>intro c env L T M K h; exact h.elim
 | succ f ih =>
   intro c env L T M K h M0 ρ0 w0 ρ a w hM hA
   cases c with
   | skip=>exact wp_skip ⟨.normal,T,M,ρ,rfl,hM,hA,fun _ _=>rfl,h⟩
   | region id ops d =>
     cases d with
     | false =>
       refine wp_region ?_
       have:=uE (nt:=nt) hP (ops:=ops) (Q:=RQ P nt M0 ρ0 w0 T (dG (f + 1) (.region id ops false)) K) (K:=fun T' M'=>K .normal T' M') (M0:=M0) (ρ0:=ρ0) (w0:=w0) (T0:=T)
        (fun T' M' ρ' a' w' k1 k2 k3 k4=>⟨.normal,T',M',ρ',rfl,k1,k2,fun t ht=>k4 t (ug _ ht),k3⟩) ops.toList 0 (by simp) hA hM (fun _ _=>rfl) h
       rw[Array.length_toList,← List.range_eq_range'] at this
       exact this
     | true =>
       exact Pz (nt:=nt) (T:=T) hP hM hA (fun T' M' ρ' a' w' k1 k2 k3 k4=>⟨.normal,T',M',ρ',rfl,k1,k2,fun t ht=>k4 t (ug _ ht),k3⟩) h
   | seq c1 c2 =>
     simp only[wpC] at h
     refine wp_seq ?_
     split at h
     ·refine wp_mono (ih c1 _ _ _ _ _ h M0 ρ0 w0 ρ a w hM hA) fun e a' w' hp=>?_
      obtain⟨x,T1,M1,ρ1,rfl,k1,k2,k3,k4⟩:=hp
      cases x with
      | normal =>
        refine wp_mono (ih c2 _ _ _ _ _ k4 M0 ρ0 w0 ρ1 a' w' k1 k2) fun e a2 w2 hp=>?_
        obtain⟨x,T2,M2,ρ2,he,q1,q2,q3,q4⟩:=hp
        exact⟨x,T2,M2,ρ2,he,q1,q2,fun t ht=>by
         simp only[dG,Nat.testBit_or,Bool.or_eq_false_iff] at ht
         rw[q3 t ht.2,k3 t ht.1],q4⟩
      | exit i=>exact⟨.exit i,T1,M1,ρ1,rfl,k1,k2,fun t ht=>by
        simp only[dG,Nat.testBit_or,Bool.or_eq_false_iff] at ht
        exact k3 t ht.1,k4⟩
      | ret=>exact⟨.ret,T1,M1,ρ1,rfl,k1,k2,fun t ht=>by
        simp only[dG,Nat.testBit_or,Bool.or_eq_false_iff] at ht
        exact k3 t ht.1,k4⟩
     ·unfold ek at h
      refine wp_mono (ih c1 _ _ _ _ _ h M0 ρ0 w0 ρ a w hM hA) fun e a' w' hp=>?_
      obtain⟨x,T1,M1,ρ1,rfl,k1,k2,k3,k4⟩:=hp
      have hge:∀ t,nt≤t→aj ρ1 ((T.get t).getD .top) undef:=fun t ht=>by
       have h1:=k2.ge t ht
       by_cases hb:Nat.testBit (dG f c1) t=false
       ·rw[k3 t hb] at h1; exact h1
       ·have h0:=hA.ge t ht
        have hu:∀ (ρ ρ' : Ren) (x:AV),aj ρ x undef→aj ρ' x undef:=by
         intro ρ ρ' x hx
         unfold undef at hx ⊢
         cases hx with
         | top=>exact .top _
         | sc v p=>exact .sc _ p
         | tup xs vs a=>cases a; exact .tup _ _ .nil
        exact hu _ _ _ h0
      cases x with
      | normal =>
        refine wp_mono (ih c2 _ _ _ _ _ k4 M0 ρ0 w0 ρ1 a' w' k1 (wZ k2 hge k3)) fun e a2 w2 hp=>?_
        obtain⟨x,T2,M2,ρ2,he,q1,q2,q3,q4⟩:=hp
        refine⟨x,T2,M2,ρ2,he,q1,q2,fun t ht=>?_,q4⟩
        simp only[dG,Nat.testBit_or,Bool.or_eq_false_iff] at ht
        rw[q3 t ht.2]
        refine AA (fun t' ht'=>?_) t ht.1
        have:=(qi.1 ht').2
        rw[Nat.testBit_and,Bool.and_eq_true] at this
        exact this.1
      | exit i=>exact⟨.exit i,T1,M1,ρ1,rfl,k1,k2,fun t ht=>by
        simp only[dG,Nat.testBit_or,Bool.or_eq_false_iff] at ht
        exact k3 t ht.1,k4⟩
      | ret=>exact⟨.ret,T1,M1,ρ1,rfl,k1,k2,fun t ht=>by
        simp only[dG,Nat.testBit_or,Bool.or_eq_false_iff] at ht
        exact k3 t ht.1,k4⟩
   | cond cnd c1 c2 =>
     simp only[wpC] at h
     obtain⟨b,hb,h1,h2⟩:=Lj h (oQ hA cnd)
     cases b with
     | true =>
       refine wp_cond_true hb (wp_mono (ih c1 _ _ _ _ _ (h1 rfl) M0 ρ0 w0 ρ a w hM hA) fun e a' w' hp=>?_)
       obtain⟨x,T1,M1,ρ1,he,k1,k2,k3,k4⟩:=hp
       exact⟨x,T1,M1,ρ1,he,k1,k2,fun t ht=>by
         simp only[dG,Nat.testBit_or,Bool.or_eq_false_iff] at ht
         exact k3 t ht.1,k4⟩
     | false =>
       refine wp_cond_false hb (wp_mono (ih c2 _ _ _ _ _ (h2 rfl) M0 ρ0 w0 ρ a w hM hA) fun e a' w' hp=>?_)
       obtain⟨x,T1,M1,ρ1,he,k1,k2,k3,k4⟩:=hp
       exact⟨x,T1,M1,ρ1,he,k1,k2,fun t ht=>by
         simp only[dG,Nat.testBit_or,Bool.or_eq_false_iff] at ht
         exact k3 t ht.2,k4⟩
   | block id c1 =>
     simp only[wpC] at h
     refine wp_block (wp_mono (ih c1 _ _ _ _ _ h M0 ρ0 w0 ρ a w hM hA) fun e a' w' hp=>?_)
     obtain⟨x,T1,M1,ρ1,rfl,k1,k2,k3,k4⟩:=hp
     cases x with
     | normal=>exact⟨.normal,T1,M1,ρ1,rfl,k1,k2,k3,k4⟩
     | ret=>exact⟨.ret,T1,M1,ρ1,rfl,k1,k2,k3,k4⟩
     | exit i =>
       simp only at k4
       split at k4
       ·rename_i he
        have he:=bf he
        subst he
        simp only[yD,Exit.inBlock,if_true]
        exact⟨.normal,T1,M1,ρ1,rfl,k1,k2,k3,k4⟩
       ·rename_i he
        have he:=ul he
        simp only[yD,Exit.inBlock,if_neg he]
        exact⟨.exit i,T1,M1,ρ1,rfl,k1,k2,k3,k4⟩
   | loop c1 =>
     simp only[wpC] at h
     obtain⟨I,n,hI,hbody⟩:=h
     have hvs:∀ t∈bitsOf (dG f c1 &&& fB ret f env c1 (fB ret f env c1 0)) nt,Nat.testBit (dG f c1) t=true:=fun t' ht'=>by
      have:=(qi.1 ht').2
      rw[Nat.testBit_and,Bool.and_eq_true] at this
      exact this.1
     generalize hv:bitsOf (dG f c1 &&& fB ret f env c1 (fB ret f env c1 0)) nt=vs at hI hbody hvs
     have hu:∀ (ρ ρ' : Ren) (x:AV),aj ρ x undef→aj ρ' x undef:=by
      intro ρ ρ' x hx
      unfold undef at hx ⊢
      cases hx with
      | top=>exact .top _
      | sc v p=>exact .sc _ p
      | tup xs vs a=>cases a; exact .tup _ _ .nil
     have hge:∀ (ρ1:Ren) t,nt≤t→aj ρ1 ((T.get t).getD .top) undef:=fun ρ1 t ht=>hu _ _ _ (hA.ge t ht)
     have key:∀ (m:Nat) (ys:List AV) (M1:RM) (ρ1:Ren) (a1:Act) (w1:World),I m ys M1→After P M0 ρ0 w0 M1 ρ1 w1→df ρ1 nt (xR T (bitsOf (dG f c1) nt) vs ys) a1 →
       Code.rounds P c1 (RQ P nt M0 ρ0 w0 T (dG (f + 1) (.loop c1)) K) (m + 1) a1 w1:=by
      intro m
      induction m using Nat.strongRecOn with
      | _ m ihm =>
        intro ys M1 ρ1 a1 w1 hIm hM1 hA1
        rw[rounds_succ]
        refine wp_mono (ih c1 _ _ _ _ _ (hbody m ys M1 hIm) M0 ρ0 w0 ρ1 a1 w1 hM1 hA1) fun e a' w' hp=>?_
        obtain⟨x,T2,M2,ρ2,rfl,k1,k2,k3,k4⟩:=hp
        have k3' : ∀ t,Nat.testBit (dG f c1) t=false→T2.get t=T.get t:=fun t ht=>by rw[k3 t ht]; exact AA hvs t ht
        cases x with
        | normal =>
          obtain⟨m',hlt,hI'⟩:=k4
          exact FJ (by omega) (ihm m' hlt _ M2 ρ2 a' w' hI' k1 (wZ k2 (hge ρ2) k3'))
        | exit i=>exact⟨.exit i,T2,M2,ρ2,rfl,k1,k2,k3',k4⟩
        | ret=>exact⟨.ret,T2,M2,ρ2,rfl,k1,k2,k3',k4⟩
     exact wp_loop_rounds _ (key n _ M ρ a w hI hM (wZ hA (hge ρ) fun _ _=>rfl))
   | exit id=>exact wp_exit ⟨.exit id,T,M,ρ,rfl,hM,hA,fun _ _=>rfl,h⟩
   | ret=>exact wp_ret ⟨.ret,T,M,ρ,rfl,hM,hA,fun _ _=>rfl,h⟩
   | rangeFunc=>simp[wpC] at h
   | scope c1 =>
     simp only[wpC] at h
     refine wp_scope_straight (wp_mono (ih c1 _ _ _ _ _ h M0 ρ0 w0 ρ a w hM hA) fun e a' w' hp=>?_)
     obtain⟨x,T1,M1,ρ1,rfl,k1,k2,k3,k4⟩:=hp
     cases x with
     | normal=>exact⟨.normal,T1,M1,ρ1,rfl,k1,k2,k3,k4⟩
     | exit i=>exact⟨.exit i,T1,M1,ρ1,rfl,k1,k2,k3,k4⟩
     | ret=>exact⟨.ret,T1,M1,ρ1,rfl,k1,k2,k3,k4⟩
   | label l=>exact wp_label ⟨.normal,T,M,ρ,rfl,hM,hA,fun _ _=>rfl,h⟩
   | goto=>simp[wpC] at h
   | refuse=>simp[wpC] at h
theorem SH {ρ:Ren} {T:Tree AV} {M:RM} {a:Act} {w:World} (hA:df ρ nt T a) (hw:bC P ρ M w) {r:ResultVar} {K:AV→Prop} (h:Vs P T M r K) :
  ∃ v v',(ny a.tmps r).run P w=.ok v' w∧aj ρ v v'∧K v:=by
 cases r with
 | tmp t=>exact⟨_,_,rfl,hA.val t,h⟩
 | cell x t =>
   simp only[Vs] at h
   have hv:=hA.val x
   split at h <;> first | (cases h; done) | skip
   ·rename_i ha
    obtain⟨b,p,v,hx,hl,hk⟩:=h
    rw[hx] at hv
    obtain⟨i,hb,hc⟩:=dz hv
    obtain⟨u,hu,hcell⟩:=Dv hw hb hl
    refine⟨v,u, ?_,hu,hk⟩
    simp only[ny,hc,asAddr,Sem.run_bind,Sem.run_pure,Result.andThen_ok,loadVar,gL ha,Bool.false_eq_true,if_false,load,Sem.run,hcell]
   ·rename_i ha
    split at h <;> first | (cases h; done) | skip
    rename_i n hs
    obtain⟨b,p,xs,hx,hl,hk⟩:=h
    rw[hx] at hv
    obtain⟨i,hb,hc⟩:=dz hv
    obtain⟨vs,hr,hlen,_,hrun⟩:=RM.jV (P:=P) hw hb hl
    exact⟨.agg xs,.agg ⟨vs⟩,by simp only[ny,hc,asAddr,Sem.run_bind,Sem.run_pure,Result.andThen_ok,loadVar,gL ha,if_true,bW hs,hrun],.agg _ _ hr,hk⟩
theorem pM {ρ:Ren} {T:Tree AV} {M:RM} {a:Act} {w:World} (hA:df ρ nt T a) (hw:bC P ρ M w) : ∀ (rs:List ResultVar) (K:List AV→Prop),Rx P T M rs K →
  ∃ vs us,(rs.mapM (ny a.tmps)).run P w=.ok us w∧aR ρ vs us∧K vs
 | [],K,h=>⟨[],[],by simp,.nil,h⟩
 | r :: rs,K,h=>by
   obtain⟨v,v',h1,h2,h3⟩:=SH hA hw h
   obtain⟨vs,us,h4,h5,h6⟩:=pM hA hw rs _ h3
   refine⟨v :: vs,v' :: us, ?_,.cons _ _ _ _ h2 h5,h6⟩
   simp only[List.mapM_cons,Sem.run_bind,h1,Result.andThen_ok,h4,Sem.run_pure]
theorem JM (hP:tT P) {f:FuncId} {fn:Func} {c:Code} {args:List AV} {M:RM} {Q:ak} (hfn:P.funcs[f]?=some fn) (hbody:fn.body=some c) (h:UC P fn c args M Q) : iy P f args M Q:=by
 refine⟨⟨fn,c,hfn,hbody⟩,fun ρ w us hargs hw=>?_⟩
 have hlen:=hargs.length
 have hA:df ρ (args.length + (fn.ntmps - args.length)) (Tree.ofList args 0 .leaf) { tmps:=⟨us⟩++Array.replicate (fn.ntmps - (⟨us⟩ : Array Value).size) undef,defers:=[] } := by
  refine⟨by simp[hlen],fun t=>?_,rfl⟩
  rw[Tree.iR]
  by_cases ht:t<args.length
  ·rw[if_pos (by omega),Nat.sub_zero]
   obtain⟨u,hu,hv⟩:=hargs.get (n:=t) (x:=args[t]) (by simp[ht])
   rw[List.getElem?_eq_getElem ht]
   simp only[Option.getD_some]
   have:((⟨us⟩ : Array Value)++Array.replicate (fn.ntmps - (⟨us⟩ : Array Value).size) undef).getD t undef=u:=by
    rw[Array.getD_eq_getD_getElem?,Array.getElem?_append_left (by simp; omega)]
    simp[hu]
   rw[this]; exact hv
  ·rw[if_neg (by omega)]
   exact .top _
 refine calls_of_wp hfn hbody (wp_mono (TZ hP 1000 c [] 0 _ M _ h M ρ w ρ _ w (After.refl hw) hA) fun e a w' hp=>?_)
 obtain⟨x,T',M',ρ',rfl,k1,k2,k3,k4⟩:=hp
 have key:(∃ vs us,(fn.results.toList.mapM (ny a.tmps)).run P w'=.ok us w'∧aR ρ' vs us∧Q9 Q M' vs) →
   a.defers=[]∧∃ v,(results fn a.tmps).run P w'=.ok v w'∧∃ v' v_1 ZY aat,Ending.returned v=.returned v'∧After P M ρ w ZY aat w'∧aj aat v_1 v'∧Q v_1 ZY:=by
  rintro⟨vs,us,h1,h2,h3⟩
  have hres:(results fn a.tmps).run P w'=.ok (if h:(⟨us⟩ : Array Value).size=1 then(⟨us⟩ : Array Value)[0] else .tuple ⟨us⟩) w':=by
   have e:results fn a.tmps=(fn.results.mapM (ny a.tmps) >>= fun vs=>pure (if h:vs.size=1 then vs[0] else .tuple vs)):=rfl
   rw[e,Array.mapM_eq_mapM_toList]
   simp only[Sem.run_bind,Sem.run_map,h1,Result.andThen_ok,Sem.run_pure]
  refine⟨k2.defers,_,hres, ?_⟩
  cases h2 with
  | nil=>exact⟨_,_,M',ρ',rfl,k1,.tup _ _ .nil,h3⟩
  | cons x v xs vs2 hv htl =>
    cases htl with
    | nil=>exact⟨_,x,M',ρ',rfl,k1,hv,h3⟩
    | cons y u ys us2 hu Vt=>exact⟨_,_,M',ρ',rfl,k1,.tup _ _ (.cons _ _ _ _ hv (.cons _ _ _ _ hu Vt)),h3⟩
 cases x with
 | normal=>exact key (pM k2 k1.rel _ _ k4)
 | ret=>exact key (pM k2 k1.rel _ _ k4)
 | exit id=>exact k4.elim
abbrev au:=List AV→RM→ak→Prop
def Fj (P:Program) (fn:Func) (args:List AV) (M:RM) (Q:ak) : Prop :=
 match fn.body with
 | some c=>UC P fn c args M Q
 | none=>False
theorem LB (hP:tT P) {f:FuncId} {fn:Func} {args:List AV} {M:RM} {Q:ak} (hfn:P.funcs[f]?=some fn) (h:Fj P fn args M Q) : iy P f args M Q:=by
 unfold Fj at h
 split at h
 ·rename_i c hc; exact JM hP hfn hc h
 ·cases h
end
def RM.cell (M:RM) (b o:Nat) : Option AV:=(M.cells b).bind (·[o]?)
section
variable {M M' : RM} {K:AV→Prop} {KQ:ak}
theorem fO {b o:Nat} {v:AV} : M.loads b o 1=some [v]↔M.cell b o=some v:=by
 unfold RM.loads RM.cell
 cases hc:M.cells b with
 | none=>simp
 | some l =>
   simp only[Option.bind_some]
   constructor
   ·intro h
    split at h
    ·rename_i hlt
     have h1:=Option.some.inj h
     have:((l.drop o).take 1)[0]?=some v:=by rw[h1]; rfl
     rw[List.getElem?_take,if_pos (by omega),List.getElem?_drop] at this
     simpa using this
    ·cases h
   ·intro h
    have hlt:=(List.getElem?_eq_some_iff.1 h).1
    rw[if_pos (by omega)]
    congr 1
    rw[List.drop_eq_getElem_cons hlt]
    simp only[List.take_succ_cons,List.take_zero]
    congr 1
    exact(List.getElem?_eq_some_iff.1 h).2
@[go_sem] theorem dM (b o:Nat) : ag M (.ptr b o) K=∃ v,M.cell b o=some v∧K v:=by
 apply propext; unfold ag
 constructor
 ·rintro⟨b',o',v,h,hl,hk⟩; cases h; exact⟨v,fO.1 hl,hk⟩
 ·rintro⟨v,hl,hk⟩; exact⟨b,o,v,rfl,fO.2 hl,hk⟩
@[go_sem] theorem si (b o n:Nat) : dE M (.ptr b o) n K=∃ vs,M.loads b o n=some vs∧K (.agg vs):=by
 apply propext; unfold dE
 constructor
 ·rintro⟨b',o',v,h,hl,hk⟩; cases h; exact⟨v,hl,hk⟩
 ·rintro⟨v,hl,hk⟩; exact⟨b,o,v,rfl,hl,hk⟩
@[go_sem] theorem Jp (b p:Nat) (x:AV) (n:Nat) (K:RM→Prop) : aS M (.ptr b p) x n K=(x.cells.length=n∧∃ M',M.stores b p x.cells=some M'∧K M'):=by
 apply propext; unfold aS
 constructor
 ·rintro⟨b',o',M',h,h1,h2,hk⟩; cases h; exact⟨h1,M',h2,hk⟩
 ·rintro⟨h1,M',h2,hk⟩; exact⟨b,p,M',rfl,h1,h2,hk⟩
def nI (k:IntKind) (a b:Int) : Int:=k.wrap (BitVec.ofInt k.bits a &&& BitVec.ofInt k.bits b).toNat
def Ae (k:IntKind) (a b:Int) : Int:=k.wrap (BitVec.ofInt k.bits a ||| BitVec.ofInt k.bits b).toNat
def Ei (k:IntKind) (a b:Int) : Int:=k.wrap (BitVec.ofInt k.bits a ^^^ BitVec.ofInt k.bits b).toNat
def Yt (k:IntKind) (a b:Int) : Int:=k.wrap (BitVec.ofInt k.bits a &&& ~~~BitVec.ofInt k.bits b).toNat
def BM (k:IntKind) (a b:Int) : Int:=k.wrap (a * 2 ^ (min b.toNat k.bits))
def jK (k:IntKind) (a b:Int) : Int:=a.fdiv (2 ^ (min b.toNat k.bits))
section
variable (k:IntKind) (a b:Int)
theorem gX {op:BinOp} {v:Value} (h:wE op k a b=some v) : af op (N k a) (N k b) K=K (.sc v):=by
 apply propext; unfold af
 constructor
 ·rintro⟨k',a',b',u,h1,h2,h3,hk⟩; cases h1; cases h2; rw[h] at h3; cases h3; exact hk
 ·intro hk; exact⟨k,a,b,v,rfl,rfl,h,hk⟩
@[go_sem] theorem bz:af .add (N k a) (N k b) K=K (N k (k.wrap (a + b))):=gX k a b rfl
@[go_sem] theorem gM:af .sub (N k a) (N k b) K=K (N k (k.wrap (a - b))):=gX k a b rfl
@[go_sem] theorem fK:af .mul (N k a) (N k b) K=K (N k (k.wrap (a * b))):=gX k a b rfl
@[go_sem] theorem dB:af .and (N k a) (N k b) K=K (N k (nI k a b)):=gX k a b rfl
@[go_sem] theorem dV:af .or (N k a) (N k b) K=K (N k (Ae k a b)):=gX k a b rfl
@[go_sem] theorem dS:af .xor (N k a) (N k b) K=K (N k (Ei k a b)):=gX k a b rfl
@[go_sem] theorem aa1:af .andNot (N k a) (N k b) K=K (N k (Yt k a b)):=gX k a b rfl
@[go_sem] theorem bS:af .eql (N k a) (N k b) K=K (Bo (a == b)):=gX k a b rfl
@[go_sem] theorem bX:af .neq (N k a) (N k b) K=K (Bo (a != b)):=gX k a b rfl
@[go_sem] theorem dK:af .lss (N k a) (N k b) K=K (Bo (decide (a<b))):=gX k a b rfl
@[go_sem] theorem Bb:af .leq (N k a) (N k b) K=K (Bo (decide (a≤b))):=gX k a b rfl
@[go_sem] theorem fZ:af .gtr (N k a) (N k b) K=K (Bo (decide (a > b))):=gX k a b rfl
@[go_sem] theorem fV:af .geq (N k a) (N k b) K=K (Bo (decide (a ≥ b))):=gX k a b rfl
@[go_sem] theorem qY:af .quo (N k a) (N k b) K=(b≠0∧K (N k (k.wrap (a.tdiv b)))):=by
 apply propext; unfold af wE
 constructor
 ·rintro⟨k',a',b',u,h1,h2,h3,hk⟩; cases h1; cases h2
  simp only at h3
  split at h3
  ·cases h3
  ·cases h3; exact⟨‹_›,hk⟩
 ·rintro⟨h0,hk⟩; exact⟨k,a,b,_,rfl,rfl,by simp only[if_neg h0],hk⟩
@[go_sem] theorem oG:af .rem (N k a) (N k b) K=(b≠0∧K (N k (a.tmod b))):=by
 apply propext; unfold af wE
 constructor
 ·rintro⟨k',a',b',u,h1,h2,h3,hk⟩; cases h1; cases h2
  simp only at h3
  split at h3
  ·cases h3
  ·cases h3; exact⟨‹_›,hk⟩
 ·rintro⟨h0,hk⟩; exact⟨k,a,b,_,rfl,rfl,by simp only[if_neg h0],hk⟩
variable (l:IntKind)
@[go_sem] theorem jM:iX .shl (N k a) (N l b) K=(0≤b∧K (N k (BM k a b))):=by
 apply propext; unfold iX Jg
 constructor
 ·rintro⟨k',a',l',b',u,h1,h2,h3,hk⟩; cases h1; cases h2
  split at h3
  ·cases h3
  ·cases h3; exact⟨by omega,hk⟩
 ·rintro⟨h0,hk⟩; exact⟨k,a,l,b,_,rfl,rfl,by rw[if_neg (by omega)]; rfl,hk⟩
@[go_sem] theorem iD:iX .shr (N k a) (N l b) K=(0≤b∧K (N k (jK k a b))):=by
 apply propext; unfold iX Jg
 constructor
 ·rintro⟨k',a',l',b',u,h1,h2,h3,hk⟩; cases h1; cases h2
  split at h3
  ·cases h3
  ·cases h3; exact⟨by omega,hk⟩
 ·rintro⟨h0,hk⟩; exact⟨k,a,l,b,_,rfl,rfl,by rw[if_neg (by omega)]; rfl,hk⟩
@[go_sem] theorem aeE {l:IntKind} {a:Int} {K:AV→Prop} : QT (N l a) K=K (St (Utf8.encode a).data.toList):=by
 apply propext; unfold QT
 constructor
 ·rintro⟨l',n,h,hk⟩; cases h; exact hk
 ·intro h; exact⟨_,_,rfl,h⟩
@[go_sem] theorem cZ:eD k (N l a) K=K (N k (k.wrap a)):=by
 apply propext; unfold eD
 constructor
 ·rintro⟨l',n,h,hk⟩; cases h; exact hk
 ·intro hk; exact⟨l,a,rfl,hk⟩
@[go_sem] theorem Z9 (mx:Bool) : Gj mx (N k a) (N k b) K=K (N k (if mx then(if b > a then b else a) else(if b<a then b else a))):=by
 apply propext; unfold Gj
 constructor
 ·rintro⟨k',a',b',h1,h2,hk⟩; cases h1; cases h2; exact hk
 ·intro hk; exact⟨k,a,b,rfl,rfl,hk⟩
@[go_sem] theorem Zv:QP (N k a) K=K (N k (k.wrap (0 - a))):=by
 apply propext; unfold QP
 constructor
 ·rintro⟨k',a',h1,hk⟩; cases h1; exact hk
 ·intro hk; exact⟨k,a,rfl,hk⟩
end
@[go_sem] theorem dO (b:Bool) : ji (Bo b) K=K (Bo (!b)):=by
 apply propext; unfold ji
 constructor
 ·rintro⟨b',h,hk⟩; cases h; exact hk
 ·intro hk; exact⟨b,rfl,hk⟩
@[go_sem] theorem abo (neg a b:Bool) : uL neg (Bo a) (Bo b) K=K (Bo ((a == b) != neg)):=by
 apply propext; unfold uL
 constructor
 ·rintro⟨a',b',h,h',hk⟩; cases h; cases h'; exact hk
 ·intro hk; exact⟨a,b,rfl,rfl,hk⟩
@[go_sem] theorem OC (t:Bool) (a b:AV) : aV (Bo t) a b K=K (if t then a else b):=by
 apply propext; unfold aV
 constructor
 ·rintro⟨t',h,hk⟩; cases h; exact hk
 ·intro hk; exact⟨t,rfl,hk⟩
@[go_sem] theorem Om (b:Bool) (p q:Prop) : az (Bo b) p q=((b=true→p)∧(b=false→q)):=rfl
@[go_sem] theorem acb {α:Type} (b want:Bool) (f g:α→Prop) (k:α) : jS (Bo b) want f g k=if b=want then f k else g k:=rfl
@[go_sem] theorem aaU {α:Type} (want:Bool) (f g:α→Prop) (k:α) : jS .undef want f g k=g k:=rfl
@[go_sem] theorem bP (b o:Nat) : fF (.ptr b o) K=K (.ptr b o):=by
 apply propext; unfold fF
 constructor
 ·rintro⟨b',o',h,hk⟩; cases h; exact hk
 ·intro hk; exact⟨b,o,rfl,hk⟩
@[go_sem] theorem bE (b o n:Nat) : bT (.ptr b o) n K=K (.ptr b (o + n)):=by
 apply propext; unfold bT
 constructor
 ·rintro⟨b',o',h,hk⟩; cases h; exact hk
 ·intro hk; exact⟨b,o,rfl,hk⟩
@[go_sem] theorem qK (b p len:Nat) (cap:Cap) (k:IntKind) (n:Int) (size:Nat) : aI (.slc b p len cap) (N k n) size K=(0≤n∧n<len∧K (.ptr b (p + n.toNat * size))):=by
 apply propext; unfold aI
 constructor
 ·rintro⟨b',p',l',c',k',n',h,h',h0,h1,hk⟩; cases h; cases h'; exact⟨h0,h1,hk⟩
 ·rintro⟨h0,h1,hk⟩; exact⟨b,p,len,cap,k,n,rfl,rfl,h0,h1,hk⟩
@[go_sem] theorem WR (b p:Nat) (k:IntKind) (n:Int) (len size:Nat) : bN (.ptr b p) (N k n) len size K=(0≤n∧n<len∧K (.ptr b (p + n.toNat * size))):=by
 apply propext; unfold bN
 constructor
 ·rintro⟨b',p',k',n',h,h',h0,h1,hk⟩; cases h; cases h'; exact⟨h0,h1,hk⟩
 ·rintro⟨h0,h1,hk⟩; exact⟨b,p,k,n,rfl,rfl,h0,h1,hk⟩
@[go_sem] theorem ab5 (cs:List AV) (off:Nat) : QX (.agg cs) off K=∃ v,cs[off]?=some v∧K v:=by
 apply propext; unfold QX
 constructor
 ·rintro⟨cs',v,h,h1,hk⟩; cases h; exact⟨v,h1,hk⟩
 ·rintro⟨v,h1,hk⟩; exact⟨cs,v,rfl,h1,hk⟩
@[go_sem] theorem ab1 (cs:List AV) (off n:Nat) : Sz (.agg cs) off n K=(off + n≤cs.length∧K (.agg ((cs.drop off).take n))):=by
 apply propext; unfold Sz
 constructor
 ·rintro⟨cs',h,h1,hk⟩; cases h; exact⟨h1,hk⟩
 ·rintro⟨h1,hk⟩; exact⟨cs,rfl,h1,hk⟩
@[go_sem] theorem LG (cs:List AV) (k:IntKind) (n:Int) (len:Nat) : Jn (.agg cs) (N k n) len K=(0≤n∧n<len∧∃ v,cs[n.toNat]?=some v∧K v):=by
 apply propext; unfold Jn
 constructor
 ·rintro⟨cs',k',n',v,h,h',h0,h1,h2,hk⟩; cases h; cases h'; exact⟨h0,h1,v,h2,hk⟩
 ·rintro⟨h0,h1,v,h2,hk⟩; exact⟨cs,k,n,v,rfl,rfl,h0,h1,h2,hk⟩
@[go_sem] theorem ab0 (cs:List AV) (k:IntKind) (n:Int) (len size:Nat) : Tg (.agg cs) (N k n) len size K=(0≤n∧n<len∧n.toNat * size + size≤cs.length∧K (.agg ((cs.drop (n.toNat * size)).take size))):=by
 apply propext; unfold Tg
 constructor
 ·rintro⟨cs',k',n',h,h',h0,h1,h2,hk⟩; cases h; cases h'; exact⟨h0,h1,h2,hk⟩
 ·rintro⟨h0,h1,h2,hk⟩; exact⟨cs,k,n,rfl,rfl,h0,h1,h2,hk⟩
@[go_sem] theorem XT (s:List UInt8) (k:IntKind) (n:Int) : nM (St s) (N k n) K=(0≤n∧∃ b,s[n.toNat]?=some b∧K (N .u8 b.toNat)):=by
 apply propext; unfold nM
 constructor
 ·rintro⟨s',k',n',b,h,h',h0,h1,hk⟩; cases h; cases h'; exact⟨h0,b,h1,hk⟩
 ·rintro⟨h0,b,h1,hk⟩; exact⟨s,k,n,b,rfl,rfl,h0,h1,hk⟩
@[go_sem] theorem BX (vs:List AV) (i:Nat) : bB (.tup vs) i K=∃ v,vs[i]?=some v∧K v:=by
 apply propext; unfold bB
 constructor
 ·rintro⟨cs',v,h,h1,hk⟩; cases h; exact⟨v,h1,hk⟩
 ·rintro⟨v,h1,hk⟩; exact⟨vs,v,rfl,h1,hk⟩
@[go_sem] theorem iF (v:AV) : gQ (some v) K=K v:=by
 apply propext; unfold gQ
 constructor
 ·rintro⟨v',h,hk⟩; cases h; exact hk
 ·intro hk; exact⟨v,rfl,hk⟩
@[go_sem] theorem MV (b o n:Nat) (c:Cap) : aU (.slc b o n c) K=K (N .i64 n):=by
 apply propext; unfold aU
 constructor
 ·rintro⟨n',h,hk⟩; cases h; exact hk
 ·intro hk; exact⟨n,rfl,hk⟩
@[go_sem] theorem Wo (b:Nat) : aU (.emp b) K=K (N .i64 0):=by
 apply propext; unfold aU
 constructor
 ·rintro⟨n',h,hk⟩; cases h; exact hk
 ·intro hk; exact⟨0,rfl,hk⟩
@[go_sem] theorem Ws:aU (.sc (.slice none 0 0)) K=K (N .i64 0):=by
 apply propext; unfold aU
 constructor
 ·rintro⟨n',h,hk⟩; cases h; exact hk
 ·intro hk; exact⟨0,rfl,hk⟩
@[go_sem] theorem xQ (s:List UInt8) : vO (St s) K=K (N .i64 s.length):=by
 apply propext; unfold vO
 constructor
 ·rintro⟨s',h,hk⟩; cases h; exact hk
 ·intro hk; exact⟨s,rfl,hk⟩
@[go_sem] theorem aeD (b o n c:Nat) : OG (.slc b o n (.ex c)) K=K (N .i64 c):=by
 apply propext; unfold OG
 constructor
 ·rintro⟨n',h,hk⟩; cases h; exact hk
 ·intro hk; exact⟨c,rfl,hk⟩
@[go_sem] theorem adn:OG (.sc (.slice none 0 0)) K=K (N .i64 0):=by
 apply propext; unfold OG
 constructor
 ·rintro⟨n',h,hk⟩; cases h; exact hk
 ·intro hk; exact⟨0,rfl,hk⟩
@[go_sem] theorem acB (s:List UInt8) : isStr (St s) K=K (St s):=by
 apply propext; unfold isStr
 constructor
 ·rintro⟨s',h,hk⟩; cases h; exact hk
 ·intro hk; exact⟨s,rfl,hk⟩
@[go_sem] theorem Px {x:AV} {s:List UInt8} (h:Bu M x=some s) : iC M x K=K (St s):=by
 apply propext; unfold iC
 constructor
 ·rintro⟨s',h',hk⟩; rw[h] at h'; cases h'; exact hk
 ·intro hk; exact⟨s,h,hk⟩
theorem oW {op:BinOp} {a b:List UInt8} {v:AV} (h:BO op a b=some v) : iN op (St a) (St b) K=K v:=by
 apply propext; unfold iN
 constructor
 ·rintro⟨a',b',u,h1,h2,h3,hk⟩; cases h1; cases h2; rw[h] at h3; cases h3; exact hk
 ·intro hk; exact⟨a,b,v,rfl,rfl,h,hk⟩
@[go_sem] theorem mR (a b:List UInt8) : iN .eql (St a) (St b) K=K (Bo (a == b)):=by rw[← iO]; exact oW rfl
@[go_sem] theorem qN (a b:List UInt8) : iN .neq (St a) (St b) K=K (Bo (a != b)):=by rw[bne,← iO]; exact oW rfl
@[go_sem] theorem VD (a b:List UInt8) : iN .lss (St a) (St b) K=K (Bo (Op.bytesLess a b)):=oW rfl
@[go_sem] theorem acA (a b:List UInt8) : iN .leq (St a) (St b) K=K (Bo (Op.bytesLess a b || a == b)):=by rw[← iO]; exact oW rfl
@[go_sem] theorem adK (a b:List UInt8) : iN .gtr (St a) (St b) K=K (Bo (!(Op.bytesLess a b || a == b))):=by rw[← iO]; exact oW rfl
@[go_sem] theorem acJ (a b:List UInt8) : iN .geq (St a) (St b) K=K (Bo (!Op.bytesLess a b)):=oW rfl
@[go_sem] theorem ael (a b:List UInt8) : iN .add (St a) (St b) K=(a.length + b.length≤9223372036854775807∧K (St (a++b))):=by
 apply propext; unfold iN
 constructor
 ·rintro⟨a',b',u,h1,h2,h3,hk⟩; cases h1; cases h2
  simp only[BO] at h3
  split at h3
  ·rename_i hb; cases h3; exact⟨aW hb,hk⟩
  ·cases h3
 ·rintro⟨h0,hk⟩; exact⟨a,b,_,rfl,rfl,by simp only[BO,aT.2 h0],hk⟩
theorem jy {neg:Bool} {tag:Nat} {x y:AV} {r:Bool} (ht:L9 x=tag) (h:xS x y=some r) : fU neg tag x y K=K (Bo (r != neg)):=by
 apply propext; unfold fU
 constructor
 ·rintro⟨_,r',h',hk⟩; rw[h] at h'; cases h'; exact hk
 ·intro hk; exact⟨ht,r,h,hk⟩
@[go_sem] theorem Ki (neg:Bool) : fU neg 2 (.sc (.slice none 0 0)) (.sc (.slice none 0 0)) K=K (Bo (!neg)):=(jy (tag:=2) (r:=true) rfl rfl).trans (by cases neg <;> rfl)
@[go_sem] theorem J4 (neg:Bool) (b:Nat) : fU neg 2 (.emp b) (.sc (.slice none 0 0)) K=K (Bo neg):=(jy (tag:=2) (r:=false) rfl rfl).trans (by cases neg <;> rfl)
@[go_sem] theorem JQ (neg:Bool) (b o n:Nat) (c:Cap) : fU neg 2 (.slc b o n c) (.sc (.slice none 0 0)) K=K (Bo neg):=(jy (tag:=2) (r:=false) rfl rfl).trans (by cases neg <;> rfl)
@[go_sem] theorem Aq (neg:Bool) (b o:Nat) : fU neg 1 (.ptr b o) (.sc (.pointer none)) K=K (Bo neg):=(jy (tag:=1) (r:=false) rfl rfl).trans (by cases neg <;> rfl)
@[go_sem] theorem xG (neg:Bool) : fU neg 1 (.sc (.pointer none)) (.sc (.pointer none)) K=K (Bo (!neg)):=(jy (tag:=1) (r:=true) rfl rfl).trans (by cases neg <;> rfl)
@[go_sem] theorem YP (neg:Bool) (b:Nat) : fU neg 3 (.map b) (.sc (.map none)) K=K (Bo neg):=(jy (tag:=3) (r:=false) rfl rfl).trans (by cases neg <;> rfl)
@[go_sem] theorem YX (neg:Bool) (f:Fn) (xs ys:List AV) : fU neg 4 (.fn f xs ys) (.sc .nilFunc) K=K (Bo neg):=(jy (tag:=4) (r:=false) rfl rfl).trans (by cases neg <;> rfl)
@[go_sem] theorem abp (neg:Bool) (ks:List Nat) (cs ds:List AV) : Ep neg ks (.agg cs) (.agg ds) K=(cs.length=ks.length∧ds.length=ks.length∧∃ r,dJ ks cs ds=some r∧K (Bo (r != neg))):=by
 apply propext; unfold Ep
 constructor
 ·rintro⟨a',b',r,h1,h2,h3,h4,h5,hk⟩; cases h1; cases h2; exact⟨h3,h4,r,h5,hk⟩
 ·rintro⟨h3,h4,r,h5,hk⟩; exact⟨cs,ds,r,rfl,rfl,h3,h4,h5,hk⟩
@[go_sem] theorem NK (C:FuncId→au) (g:FuncId) (first cap args:List AV) : ql C (.fn (.func g) first cap) args M KQ=C g (first++args++cap) M KQ:=by
 apply propext; unfold ql
 constructor
 ·rintro⟨g',f',c',h,hk⟩; cases h; exact hk
 ·intro hk; exact⟨g,first,cap,rfl,hk⟩
@[go_sem] theorem jr (cs:List AV) (parts:List (Nat × Nat × AV)) : jG cs parts K=∃ cs',lm cs parts=some cs'∧K (.agg cs'):=rfl
@[go_sem] theorem aL (x:RB) (mk:Nat→AV) : aO x mk M KQ=KQ (mk M.next) (M.push x):=rfl
@[go_sem] theorem ru (x:RB) (mk:Nat→AV) (k:KR) : uS x mk M k=k (mk M.next) (M.push x) (some M.next):=rfl
@[go_sem] theorem Wm (f:(List AV→RM→Prop)→Prop) (g:List AV→RM→Prop) : ek f g=f g:=rfl
@[go_sem] theorem aC (x:AV) (xs:List AV) : aa (x :: xs) 0=x:=rfl
@[go_sem] theorem bF (x:AV) (xs:List AV) (n:Nat) : aa (x :: xs) (n + 1)=aa xs n:=rfl
@[go_sem] theorem abq (b:Nat) (x:RB) (mk:Nat→AV) (v:AV) : Mg (some b) M x mk v=(M.heap b=some x∧mk b=v):=rfl
end
theorem Uz {body:(List AV→RM→Prop)→List AV→RM→Prop} {xs:List AV} {M:RM} (I:Nat→List AV→RM→Prop) (n:Nat) (h0:I n xs M)
  (hb:∀ m ys M',I m ys M'→body (fun zs M''=>∃ m',m'<m∧I m' zs M'') ys M') : aX body xs M:=⟨I,n,h0,hb⟩
section
variable {M M' : RM}
theorem RM.yA {b:Nat} {l:List AV} {opn:Bool} {el fz:Nat} (h:M.heap b=some (.row l opn el fz)) : M.cells b=some l:=by simp[RM.cells,h]
theorem RM.Gr {b o:Nat} {l:List AV} {opn:Bool} {el fz:Nat} (h:M.heap b=some (.row l opn el fz)) : M.cell b o=l[o]?:=by simp[RM.cell,RM.yA h]
theorem RM.gV {b o k:Nat} {l:List AV} {opn:Bool} {el fz:Nat} (h:M.heap b=some (.row l opn el fz)) (hk:o + k≤l.length) : M.loads b o k=some ((l.drop o).take k):=by
 simp[RM.loads,RM.yA h,hk]
theorem RM.H9 {b o:Nat} {l vs:List AV} {opn:Bool} {el fz:Nat} (h:M.heap b=some (.row l opn el fz)) (h1:o + vs.length≤l.length) (h2:fz≤o) (h3:vs.all oneCell=true) :
  M.stores b o vs=some (M.put b (.row (l.take o++vs++l.drop (o + vs.length)) opn el fz)):=by
 simp only[RM.stores,h]
 rw[if_pos ⟨h1,h2,h3⟩]
structure ae (bs:List Nat) (M M' : RM) : Prop where
 base:M'.base=M.base
 next:M.next≤M'.next
 heap:∀ c,c<M.next→c ∉ bs→M'.heap c=M.heap c
theorem ae.refl (bs:List Nat) (M:RM) : ae bs M M:=⟨rfl,Nat.le_refl _,fun _ _ _=>rfl⟩
theorem ae.trans {bs:List Nat} {M1 M2:RM} (h:ae bs M M1) (k:ae bs M1 M2) : ae bs M M2 :=
 ⟨k.base.trans h.base,Nat.le_trans h.next k.next,fun c hc hb=>(k.heap c (Nat.lt_of_lt_of_le hc h.next) hb).trans (h.heap c hc hb)⟩
theorem ae.push {bs:List Nat} (h:ae bs M M') (x:RB) : ae bs M (M'.push x) :=
 ⟨h.base,Nat.le_succ_of_le h.next,fun c hc hb=>by
  have:=h.next
  simp only[RM.push]; rw[if_neg (by omega)]; exact h.heap c hc hb⟩
theorem ae.put {bs:List Nat} (h:ae bs M M') {b:Nat} (x:RB) (hb:M.next≤b∨b∈bs) : ae bs M (M'.put b x) :=
 ⟨h.base,h.next,fun c hc hcb=>by
  simp only[RM.put]; rw[if_neg]
  ·exact h.heap c hc hcb
  ·rintro rfl; rcases hb with hb | hb
   ·omega
   ·exact hcb hb⟩
theorem ae.del {bs:List Nat} (h:ae bs M M') {b:Nat} (hb:M.next≤b∨b∈bs) : ae bs M (M'.del b) :=
 ⟨h.base,h.next,fun c hc hcb=>by
  simp only[RM.del]; rw[if_neg]
  ·exact h.heap c hc hcb
  ·rintro rfl; rcases hb with hb | hb
   ·omega
   ·exact hcb hb⟩
theorem ae.mono {bs cs:List Nat} (h:ae bs M M') (hs:∀ b∈bs,b∈cs) : ae cs M M':=⟨h.base,h.next,fun c hc hb=>h.heap c hc fun h=>hb (hs c h)⟩
theorem ae.bu {bs:List Nat} {M1 M2:RM} {cs:List Nat} (h:ae bs M M1) (k:ae cs M1 M2) (hn:∀ c∈cs,M.next≤c∨c∈bs) : ae bs M M2 :=
 ⟨k.base.trans h.base,Nat.le_trans h.next k.next,fun c hc hb=>by
  rw[k.heap c (Nat.lt_of_lt_of_le hc h.next) (fun hm=>by rcases hn c hm with h1 | h1; omega; exact hb h1),h.heap c hc hb]⟩
theorem ae.cells {bs:List Nat} (h:ae bs M M') {b:Nat} (hlt:b<M.next) (hb:b ∉ bs) : M'.cells b=M.cells b:=by
 simp only[RM.cells,h.heap b hlt hb,RM.lo,h.base]
theorem ae.cell {bs:List Nat} (h:ae bs M M') {b o:Nat} (hlt:b<M.next) (hb:b ∉ bs) : M'.cell b o=M.cell b o:=by
 simp only[RM.cell,h.cells hlt hb]
theorem ae.loads {bs:List Nat} (h:ae bs M M') {b o k:Nat} (hlt:b<M.next) (hb:b ∉ bs) : M'.loads b o k=M.loads b o k:=by
 simp only[RM.loads,h.cells hlt hb]
@[go_sem] theorem RM.ab4 (x:RB) : (M.push x).next=M.next + 1:=rfl
@[go_sem] theorem RM.acR (b:Nat) (x:RB) : (M.put b x).next=M.next:=rfl
@[go_sem] theorem RM.ac3 (b:Nat) : (M.del b).next=M.next:=rfl
@[go_sem] theorem RM.bR (x:RB) : (M.push x).heap M.next=some x:=by simp[RM.push]
theorem RM.Xb {x:RB} {c:Nat} (h:c≠M.next) : (M.push x).heap c=M.heap c:=by simp[RM.push,h]
@[go_sem] theorem RM.AQ (b:Nat) (x:RB) : (M.put b x).heap b=some x:=by simp[RM.put]
end
abbrev bA:AV:=.sc (.slice none 0 0)
inductive aD (M:RM) (size:Nat) : AV→List AV→Nat→Prop
 | nil:aD M size bA [] 0
 | emp (b:Nat) : aD M size (.emp b) [] 0
 | slc (b o n:Nat) (cap:Cap) (cs:List AV) : b<M.next→M.loads b o (n * size)=some cs→aD M size (.slc b o n cap) cs n
section
variable {M M' : RM} {size:Nat} {v:AV} {cs:List AV} {n:Nat}
theorem KG {b o k:Nat} {cs:List AV} (h:M.loads b o k=some cs) : cs.length=k:=by
 unfold RM.loads at h
 split at h <;> first | (cases h; done) | skip
 split at h <;> first | (cases h; done) | skip
 rename_i hle
 have:=Option.some.inj h
 rw[← this,List.length_take,List.length_drop]; omega
theorem TW {b o k:Nat} {cs:List AV} (h:M.loads b o k=some cs) (i:Nat) (hi:i<k) : M.cell b (o + i)=cs[i]?:=by
 unfold RM.loads at h
 unfold RM.cell
 split at h <;> first | (cases h; done) | skip
 rename_i l hl
 split at h <;> first | (cases h; done) | skip
 cases h
 simp only[hl,Option.bind_some]
 rw[List.getElem?_take,if_pos hi,List.getElem?_drop]
theorem pE {b o k:Nat} {cs:List AV} (h:M.loads b o k=some cs) (i j:Nat) (hij:i + j≤k) : M.loads b (o + i) j=some ((cs.drop i).take j):=by
 unfold RM.loads at h ⊢
 cases hl:M.cells b with
 | none=>rw[hl] at h; cases h
 | some l =>
   rw[hl] at h
   simp only at h ⊢
   split at h
   ·rename_i hle
    have h:=Option.some.inj h
    subst h
    rw[if_pos (by omega),List.drop_take,List.drop_drop,List.take_take]
    congr 2
    omega
   ·cases h
theorem Jo {b o:Nat} {l:List AV} (h:M.cells b=some l) (ho:o≤l.length) : M.loads b o 0=some []:=by
 simp[RM.loads,h,ho]
theorem aD.length (h:aD M size v cs n) : cs.length=n * size:=by
 cases h with
 | nil=>exact(Nat.zero_mul _).symm
 | emp=>exact(Nat.zero_mul _).symm
 | slc b o n cap cs hb0 hl=>exact KG hl
theorem aD.len (h:aD M size v cs n) {K:AV→Prop} : aU v K=K (N .i64 n):=by
 cases h with
 | nil=>exact Ws
 | emp b=>exact Wo b
 | slc b o n cap cs hb0 hl=>exact MV b o n cap
theorem aD.mr (h:aD M size v cs n) (zs:List AV) : mr M size zs false v=some (n,cs):=by
 cases h with
 | nil=>rfl
 | emp b=>rfl
 | slc b o n cap cs hb0 hl=>simp only[Go.Ab.mr,hl]
theorem aD.pos (h:aD M size v cs n) (hn:0<n) : ∃ b o cap,v=.slc b o n cap∧b<M.next∧M.loads b o (n * size)=some cs:=by
 cases h with
 | nil=>omega
 | emp b=>omega
 | slc b o n cap cs hb0 hl=>exact⟨b,o,cap,rfl,hb0,hl⟩
theorem aD.Bu (h:aD M 1 v cs n) {l:List UInt8} (hb:di byteOf cs=some l) : Bu M v=some l:=by
 cases h with
 | nil=>simp[di] at hb; subst hb; rfl
 | emp b=>simp[di] at hb; subst hb; rfl
 | slc b o n cap cs hb0 hl =>
   rw[Nat.mul_one] at hl
   simp only[Go.Ab.Bu,hl]; exact hb
def ah:AV→List Nat
 | .slc b _ _ _=>[b]
 | _=>[]
theorem aD.keep {bs:List Nat} (h:aD M size v cs n) (hk:ae bs M M') (hb:∀ b∈ah v,b ∉ bs) : aD M' size v cs n:=by
 cases h with
 | nil=>exact .nil
 | emp b=>exact .emp b
 | slc b o n cap cs hb0 hl =>
   exact .slc b o n cap cs (Nat.lt_of_lt_of_le hb0 hk.next) (by rw[hk.loads hb0 (hb b (by simp[ah]))]; exact hl)
inductive Own (M:RM) (base el size:Nat) : AV→List AV→Nat→Prop
 | nil:Own M base el size bA [] 0
 | ex0 (b o:Nat) : base≤b→b<M.next→(∃ l,M.cells b=some l∧o≤l.length)→Own M base el size (.slc b o 0 (.ex 0)) [] 0
 | op (b n:Nat) (cs:List AV) : base≤b→b<M.next→M.heap b=some (.row cs true el 0)→cs.length=n * size→Own M base el size (.slc b 0 n (.op size)) cs n
theorem Own.gJ {base el:Nat} (h:Own M base el size v cs n) : aD M size v cs n:=by
 cases h with
 | nil=>exact .nil
 | ex0 b o hb hlt hc =>
   obtain⟨l,hl,ho⟩:=hc
   exact .slc b o 0 _ [] hlt (by rw[Nat.zero_mul]; exact Jo hl ho)
 | op b n cs hb hlt hh hl =>
   refine .slc b 0 n _ cs hlt ?_
   rw[RM.gV hh (by omega)]
   simp[← hl]
theorem Own.blk {base el:Nat} (h:Own M base el size v cs n) : ∀ b∈ah v,base≤b∧b<M.next:=by
 cases h with
 | nil=>intro b hb; simp[ah] at hb
 | ex0 b o hb hlt hc=>intro c hc; simp[ah] at hc; subst hc; exact⟨hb,hlt⟩
 | op b n cs hb hlt hh hl=>intro c hc; simp[ah] at hc; subst hc; exact⟨hb,hlt⟩
theorem Own.keep {base el:Nat} {bs:List Nat} (h:Own M base el size v cs n) (hk:ae bs M M') (hb:∀ b∈ah v,b ∉ bs) : Own M' base el size v cs n:=by
 cases h with
 | nil=>exact .nil
 | ex0 b o h1 hlt hc=>exact .ex0 b o h1 (Nat.lt_of_lt_of_le hlt hk.next) (by rw[hk.cells hlt (hb b (by simp[ah]))]; exact hc)
 | op b n cs h1 hlt hh hl=>exact .op b n cs h1 (Nat.lt_of_lt_of_le hlt hk.next) (by rw[hk.heap b hlt (hb b (by simp[ah]))]; exact hh) hl
theorem Own.mono {base base' el:Nat} (h:Own M base el size v cs n) (hb:base'≤base) : Own M base' el size v cs n:=by
 cases h with
 | nil=>exact .nil
 | ex0 b o h1 hlt hc=>exact .ex0 b o (Nat.le_trans hb h1) hlt hc
 | op b n cs h1 hlt hh hl=>exact .op b n cs (Nat.le_trans hb h1) hlt hh hl
theorem qH {base el bytes:Nat} {zs:List AV} {zeros:Bool} {x:AV} {m:Nat} {ds:List AV} {K:ak} (h:Own M base el size v cs n) (hbase:base≤M.next) (hs:1≤size) (hx:mr M size zs zeros x=some (m,ds)) (hd:ds.length=m * size)
  (h1:ds.all oneCell=true) (hb:(n + m) * bytes≤140737488355328) (hb2:n + m≤140737488355328)
  (hK:∀ v' M',Own M' base el size v' (cs++ds) (n + m)→ae (ah v) M M'→M.next≤M'.next→(v'=v∨∀ b∈ah v',M.next≤b)→K v' M') : appW el size bytes zs zeros v x M K:=by
 have hmb:m * bytes≤140737488355328:=Nat.le_trans (Nat.mul_le_mul_right _ (by omega)) hb
 refine⟨m,ds,hx,hmb,by omega, ?_⟩
 cases h with
 | nil =>
   by_cases hm:m=0
   ·subst hm
    have:ds=[]:=List.eq_nil_of_length_eq_zero (by simpa using hd)
    subst this
    exact⟨bA,M,by simp[sU],hK _ _ .nil (ae.refl _ _) (Nat.le_refl _) (.inl rfl)⟩
   ·refine⟨.slc M.next 0 m (.op size),M.push (.row ds true el 0),by simp only[sU,if_neg hm,h1,if_true],hK _ _ ?_ ((ae.refl _ _).push _) (by simp[RM.push]) (.inr fun b hb=>by simp[ah] at hb; omega)⟩
    simp only[List.nil_append,Nat.zero_add]
    exact .op _ _ _ hbase (by simp[RM.push]) (RM.bR _) hd
 | ex0 b o hb0 hlt hc =>
   obtain⟨l,hl,ho⟩:=hc
   by_cases hm:m=0
   ·subst hm
    have:ds=[]:=List.eq_nil_of_length_eq_zero (by simpa using hd)
    subst this
    exact⟨_,M,by simp[sU],hK _ _ (.ex0 b o hb0 hlt ⟨l,hl,ho⟩) (ae.refl _ _) (Nat.le_refl _) (.inl rfl)⟩
   ·refine⟨.slc M.next 0 m (.op size),M.push (.row ds true el 0), ?_,hK _ _ ?_ ((ae.refl _ _).push _) (by simp[RM.push]) (.inr fun b hb=>by simp[ah] at hb; omega)⟩
    ·have hl0:M.loads b o (0 * size)=some []:=by rw[Nat.zero_mul]; exact Jo hl ho
     simp only[sU,if_neg hm]
     rw[if_neg (by omega),hl0]
     simp only[Nat.zero_add,List.nil_append]
     rw[if_pos ⟨hmb,by omega,h1⟩]
    ·simp only[List.nil_append,Nat.zero_add]
     exact .op _ _ _ hbase (by simp[RM.push]) (RM.bR _) hd
 | op b n cs hb0 hlt hh hl =>
   by_cases hm:m=0
   ·subst hm
    have:ds=[]:=List.eq_nil_of_length_eq_zero (by simpa using hd)
    subst this
    exact⟨_,M,by simp[sU],hK _ _ (by simpa using .op b n cs hb0 hlt hh hl) (ae.refl _ _) (Nat.le_refl _) (.inl rfl)⟩
   ·have hpos:1≤m * size:=Nat.mul_pos (by omega) hs
    have hsum:(n + m) * size=n * size + m * size:=Nat.add_mul _ _ _
    refine⟨.slc M.next 0 (n + m) (.op size),(M.del b).push (.row (cs++ds) true el 0), ?_,hK _ _ ?_ (((ae.refl _ _).del (.inr (by simp[ah]))).push _) (by simp[RM.push,RM.del]) (.inr fun b hb=>by simp[ah] at hb; omega)⟩
    ·simp only[sU,if_neg hm,hh,and_self,if_true]
     rw[if_neg (by omega),if_pos ⟨trivial,hb,hb2,trivial,hl,Nat.zero_le _,h1⟩]
    ·exact .op _ _ _ (show base≤M.next from hbase) (by simp[RM.push,RM.del]) (by simp[RM.push,RM.del]) (by rw[List.length_append,hl,hd,hsum])
theorem aD.xS (h:aD M size v cs n) (neg:Bool) : (v=bA∧∀ K:AV→Prop,fU neg 2 v bA K=K (Bo (!neg)))∨(v≠bA∧∀ K:AV→Prop,fU neg 2 v bA K=K (Bo neg)):=by
 cases h with
 | nil=>exact .inl ⟨rfl,fun _=>Ki neg⟩
 | emp b=>exact .inr ⟨by(intro h; cases h),fun _=>J4 neg b⟩
 | slc b o n cap cs hb0 hl=>exact .inr ⟨by(intro h; cases h),fun _=>JQ neg b o n cap⟩
theorem Own.lit {base el T:Nat} (M:RM) (h:base≤M.next) : Own (M.push (.row [] false T 0)) base el size (.slc M.next 0 0 (.ex 0)) [] 0 :=
 .ex0 _ _ h (by simp[RM.push]) ⟨[],by simp[RM.cells,RM.push],Nat.le_refl _⟩
end
end Go.Ab
set_option maxRecDepth 4000
namespace Go.Ab
open Go
theorem wrap_u8 (n:Nat) : IntKind.wrap .u8 (n:Int)=((n % 256:Nat) : Int):=by
 simp only[IntKind.wrap,IntKind.bits,IntKind.signed,IntKind.max,IntKind.min]
 simp
theorem wrap_u32 (n:Nat) : IntKind.wrap .u32 (n:Int)=((n % 4294967296:Nat) : Int):=by
 simp only[IntKind.wrap,IntKind.bits,IntKind.signed,IntKind.max,IntKind.min]
 simp
theorem wrap_u64 (n:Nat) : IntKind.wrap .u64 (n:Int)=((n % 18446744073709551616:Nat) : Int):=by
 simp only[IntKind.wrap,IntKind.bits,IntKind.signed,IntKind.max,IntKind.min]
 simp
theorem pU {n:Int} (h0:0≤n) (h:n<256) : IntKind.wrap .u8 n=n:=by
 obtain⟨m,rfl⟩:=Int.eq_ofNat_of_zero_le h0
 rw[wrap_u8,Nat.mod_eq_of_lt (by omega)]
theorem bZ {n:Int} (h0:0≤n) (h:n<18446744073709551616) : IntKind.wrap .u64 n=n:=by
 obtain⟨m,rfl⟩:=Int.eq_ofNat_of_zero_le h0
 rw[wrap_u64,Nat.mod_eq_of_lt (by omega)]
theorem aP {n:Int} (h0 : -9223372036854775808≤n) (h:n<9223372036854775808) : IntKind.wrap .i64 n=n:=by
 rw[IntKind.wrap_i64]; omega
theorem Uf (k:Nat) (a b:Nat) : (BitVec.ofInt k (a:Int) ||| BitVec.ofInt k (b:Int)).toNat=(a ||| b) % 2 ^ k:=by
 rw[BitVec.toNat_or,BitVec.ofInt_natCast,BitVec.ofInt_natCast,BitVec.toNat_ofNat,BitVec.toNat_ofNat,← Nat.or_mod_two_pow]
theorem Yn (k:Nat) (a b:Nat) : (BitVec.ofInt k (a:Int) &&& BitVec.ofInt k (b:Int)).toNat=(a &&& b) % 2 ^ k:=by
 rw[BitVec.toNat_and,BitVec.ofInt_natCast,BitVec.ofInt_natCast,BitVec.toNat_ofNat,BitVec.toNat_ofNat,← Nat.and_mod_two_pow]
theorem Vw (a b:Nat) : ((a:Int).fdiv (b:Int))=((a / b:Nat) : Int):=by
 rw[Int.fdiv_eq_ediv_of_nonneg _ (by omega)]; rfl
def rM:IntKind→Nat
 | .u8=>8 | .u16=>16 | .u32=>32 | _=>64
def Bp:IntKind→Bool
 | .u8 | .u16 | .u32 | .u64=>true
 | _=>false
theorem G8 {k:IntKind} (h:Bp k=true) (n:Nat) : k.wrap (n:Int)=((n % 2 ^ rM k:Nat) : Int):=by
 cases k <;> simp[Bp] at h <;> (simp only[IntKind.wrap,IntKind.bits,IntKind.signed,rM]; simp)
theorem MX (k:IntKind) (h:Bp k=true) : k.bits=rM k:=by cases k <;> simp[Bp] at h <;> rfl
theorem Qj {k:IntKind} (h:Bp k=true) (a b:Nat) : Ae k a b=(((a ||| b) % 2 ^ rM k:Nat) : Int):=by
 unfold Ae
 rw[Uf,G8 h,MX k h,Nat.mod_mod]
theorem Vy {k:IntKind} (h:Bp k=true) (a b:Nat) : nI k a b=(((a &&& b) % 2 ^ rM k:Nat) : Int):=by
 unfold nI
 rw[Yn,G8 h,MX k h,Nat.mod_mod]
theorem Nb (k:IntKind) (a b:Nat) (hb:b≤k.bits) : jK k a b=((a / 2 ^ b:Nat) : Int):=by
 unfold jK
 rw[Int.toNat_natCast,Nat.min_eq_left hb,← Vw,Int.natCast_pow]; rfl
theorem OJ {k:IntKind} (h:Bp k=true) (a b:Nat) (hb:b≤k.bits) : BM k a b=((a * 2 ^ b % 2 ^ rM k:Nat) : Int):=by
 unfold BM
 rw[Int.toNat_natCast,Nat.min_eq_left hb,← G8 h,Int.natCast_mul,Int.natCast_pow]
 rfl
theorem aav {x:Nat} (h:x<256) : x ||| 128=x % 128 + 128:=by
 have:∀ x:Fin 256,x.val ||| 128=x.val % 128 + 128:=by decide
 exact this ⟨x,h⟩
theorem IB (n:Nat) : (UInt8.ofNat n).toNat=n % 256:=by simp
end Go.Ab
namespace Go.Ab
open Go Go.RowKit
section
variable {P:Program}
theorem bC.opened {ρ:Ren} {M:RM} {w:World} {b n:Nat} {l:List AV} {el:Nat} {u:Value} (hw:bC P ρ M w) (hh:M.heap b=some (.row l true el 0)) (hl:l.length=n) (hv:aj ρ (.slc b 0 n (.op 1)) u) :
  ∃ c,n≤c∧aj ρ (.slc b 0 n (.ex c)) u∧bC P ρ (M.put b (.row (l++List.replicate (c - n) .top) true el 0)) w:=by
 obtain⟨A,hA⟩:=hw
 obtain⟨k,i,hb,hp,he,hk,rfl⟩:=uR hv
 rcases hA.blk b _ hh with⟨y,hy,hle⟩ | ⟨_,e0,_⟩
 ·cases y <;> first | exact hle.elim | skip
  rename_i nn tree zs opn elem fz
  obtain⟨r1,rfl,rfl,rfl,r5⟩:=hle
  obtain⟨ob,hob,cs,fr,rfl,hrow⟩:=hA.rel.blk b i _ hb hy
  obtain⟨h0,hcs,hels⟩:=hrow.opn rfl
  have hk0:k=0:=by
   rcases Nat.eq_zero_or_pos k with e | e
   ·exact e
   ·have:0<k * i.esz:=Nat.mul_pos e h0
    omega
  subst hk0
  have hsh:=hrow.sh0
  rw[← he,Nat.mul_one,hsh,Nat.zero_add] at hcs
  refine⟨i.eu,by omega, ?_,⟨{ A with heap:=A.heap.set b (.row i.eu (Tree.ofList (l++List.replicate (i.eu - n) .top) 0 .leaf) [] true elem 0) },hA.next,⟨hA.rel.dom,fun b' i' x hb' hx=>?_,fun b1 b2 i1 i2 x1 x2 p1 p2 g1 g2 e=>?_,fun b' x hx=>?_,fun b' i' x hb' hx=>?_,hA.rel.inv⟩,hA.size,fun c x hx=>?_,hA.old⟩⟩
  ·have:=aj.fI (ρ:=ρ) b 0 n i.eu i hb
   rw[Nat.zero_mul] at *
   simpa using this
  ·simp only[Tree.aY] at hx
   by_cases e:b'=b
   ·subst e
    rw[if_pos rfl] at hx
    cases hx
    rw[hb] at hb'; cases hb'
    refine⟨_,hob,cs,fr,rfl,⟨by rw[hsh]; omega,fun j x hj=>?_,fun j h1 h2=>hrow.free j h1 h2,hrow.mark,fun _=>⟨h0,by rw[hsh,← he]; omega,hels⟩,hsh⟩⟩
    obtain⟨hjlt,hj2⟩:=iJ hj
    rw[Tree.iR] at hj2
    split at hj2
    ·rename_i hlt
     rw[Nat.sub_zero] at hj2
     by_cases hjl:j<l.length
     ·rw[List.getElem?_append_left hjl] at hj2
      exact hrow.val j x (r5 j x hj2)
     ·rw[List.getElem?_append_right (by omega),List.getElem?_replicate] at hj2
      split at hj2
      ·cases hj2
       exact⟨cs[j]'(by omega),by rw[hsh,Nat.zero_add]; simp,.top _⟩
      ·cases hj2
    ·simp[Tree.get] at hj2
   ·rw[if_neg e] at hx
    exact hA.rel.blk b' i' x hb' hx
  ·have q:∀ {b1 x1},(A.heap.set b (dU.row i.eu (Tree.ofList (l++List.replicate (i.eu - n) .top) 0 .leaf) [] true elem 0)).get b1=some x1→∃ y,A.heap.get b1=some y:=by
    intro b1 x1 h
    rw[Tree.aY] at h
    by_cases e:b1=b
    ·subst e; exact⟨_,hy⟩
    ·rw[if_neg e] at h; exact⟨_,h⟩
   obtain⟨y1,e1⟩:=q g1
   obtain⟨y2,e2⟩:=q g2
   exact hA.rel.sep _ _ _ _ _ _ p1 p2 e1 e2 e
  ·simp only[Tree.aY] at hx
   by_cases e:b'=b
   ·subst e; exact hA.rel.top _ _ hy
   ·rw[if_neg e] at hx; exact hA.rel.top _ _ hx
  ·simp only[Tree.aY] at hx
   by_cases e:b'=b
   ·subst e; exact hA.rel.lo _ _ _ hb' hy
   ·rw[if_neg e] at hx; exact hA.rel.lo _ _ _ hb' hx
  ·simp only[RM.put] at hx
   simp only[Tree.aY]
   by_cases e:c=b
   ·subst e
    rw[if_pos rfl] at hx ⊢
    cases hx
    refine .inl ⟨_,rfl,by simp; omega,rfl,rfl,rfl,fun j v hj=>?_⟩
    have hjl:=(List.getElem?_eq_some_iff.1 hj).1
    exact rR (by simp at hjl; omega) (by rw[Tree.iR,if_pos (by omega)]; simpa using hj)
   ·rw[if_neg e] at hx ⊢
    exact hA.blk c x hx
 ·cases e0
end
def RM.old (base:Base) (w:World) : RM where
 next:=base.n
 heap:=fun b=>if b<base.n then(match w.heap[b]? with | some (.cells c _ _)=>some (.ro c) | _=>none) else none
 base:=base
def OE (n:Nat) : Ren:=fun b=>if b<n then some ⟨b,0,0,0⟩ else none
theorem Wy {P:Program} {base:Base} {w:World} (hn:base.n=w.heap.size) (hi:base.inv w) : bC P (OE base.n) (RM.old base w) w:=by
 refine⟨{ next:=base.n,heap:=.leaf },rfl,⟨fun b i h=>?_,fun b i x _ h=>by simp[Tree.get] at h,fun b _ i _ x _ _ _ h=>by simp[Tree.get] at h,fun b x h=>by simp[Tree.get] at h,fun b i x _ h=>by simp[Tree.get] at h,hi⟩,by simp[RM.old,RM.lo,hn],fun b x h=>.inr ?_,fun c hc=>by have hc' : c<base.n:=hc; simp only[OE]; rw[if_pos hc']⟩
 ·simp only[OE] at h
  split at h <;> first | (cases h; done) | skip
  cases h
  exact⟨by assumption,by rw[← hn]; assumption⟩
 ·simp only[RM.old] at h
  split at h <;> first | (cases h; done) | skip
  rename_i hlt
  split at h <;> first | (cases h; done) | skip
  rename_i c el fr hh
  cases h
  exact⟨c,rfl,hlt,el,fr,hh⟩
theorem RM.UT {base:Base} {w:World} {b:Nat} {c:Array Value} {el:TypeId} {fr:_} (hb:b<base.n) (h:w.heap[b]?=some (.cells c el fr)) : (RM.old base w).cells b=some (c.toList.map (oF base.n)):=by
 simp only[RM.cells,RM.old,if_pos hb,h]
def vR (lo:Nat) : Value→AV
 | .agg cs=>.agg (cs.toList.map (oF lo))
 | v=>oF lo v
theorem Nh {ρ:Ren} {lo:Nat} (h:∀ c,c<lo→ρ c=some ⟨c,0,0,0⟩) : ∀ (vs:List Value),aR ρ (vs.map (oF lo)) vs
 | []=>.nil
 | v :: vs=>.cons _ _ _ _ (Gm h v) (Nh h vs)
theorem VQ {ρ:Ren} {lo:Nat} (h:∀ c,c<lo→ρ c=some ⟨c,0,0,0⟩) (v:Value) : aj ρ (vR lo v) v:=by
 unfold vR
 split
 ·exact .agg _ _ (Nh h _)
 ·exact Gm h v
theorem Lt {ρ:Ren} {lo:Nat} (h:∀ c,c<lo→ρ c=some ⟨c,0,0,0⟩) : ∀ (vs:List Value),aR ρ (vs.map (vR lo)) vs
 | []=>.nil
 | v :: vs=>.cons _ _ _ _ (VQ h v) (Lt h vs)
theorem iy.close {P:Program} {f:FuncId} {base:Base} {w:World} {us:Array Value} (hn:base.n=w.heap.size) (hi:base.inv w)
  (h:iy P f (us.toList.map (vR base.n)) (RM.old base w) fun v _=>v=Bo true) :
  Calls P f us w fun e w'=>e=.returned (.bool true)∧Below w.heap.size w w':=by
 have hr:=Wy (P:=P) hn hi
 refine((h.2 (OE base.n) w us.toList (Lt (fun c hc=>by simp only[OE]; rw[if_pos hc]) _) hr)).mono fun e w' hR=>?_
 obtain⟨v',v,M',ρ',rfl,k1,k2,rfl⟩:=hR
 obtain⟨rfl,_⟩:=aN k2
 refine⟨rfl,k1.step.os,k1.step.tape,k1.step.output,k1.step.size,fun k hk=>k1.step.low k ?_⟩
 show k<base.n
 rw[hn]; exact hk
def vS:Option TypeDesc→Bool
 | some .bool | some (.int _) | some .string | some (.slice _) | some (.struct _) | some (.array _ _)=>false
 | _=>true
inductive Fits (P:Program) (M:RM) : TypeId→List AV→Prop
 | bool (t:TypeId) (b:Bool) : P.underlying t=some .bool→Fits P M t [Bo b]
 | int (t:TypeId) (k:IntKind) (n:Int) : P.underlying t=some (.int k)→k.min≤n→n≤k.max→Fits P M t [N k n]
 | str (t:TypeId) (s:List UInt8) : P.underlying t=some .string→s.length≤reachBytes→Fits P M t [St s]
 | Ra (t e:TypeId) : P.underlying t=some (.slice e)→Fits P M t [bA]
 | emp (t e:TypeId) (b:Nat) : P.underlying t=some (.slice e)→Fits P M t [.emp b]
 | slc (t e:TypeId) (b o n c:Nat) (cs:List AV) : P.underlying t=some (.slice e)→b<M.next→n≤c→c * P.bytesOf e≤reachBytes→M.loads b o (n * P.cellsOf e)=some cs →
   (∀ i,i<n→Fits P M e ((cs.drop (i * P.cellsOf e)).take (P.cellsOf e)))→Fits P M t [.slc b o n (.ex c)]
 | struct (t:TypeId) (fs:Array Field) (cs:List AV) : P.underlying t=some (.struct fs)→cs.length=P.cellsOf t →
   (∀ (i:Nat) (f:Field),fs[i]?=some f→Fits P M f.type ((cs.drop f.offset).take (P.cellsOf f.type)))→Fits P M t cs
 | array (t e:TypeId) (n:Nat) (cs:List AV) : P.underlying t=some (.array n e)→cs.length=P.cellsOf t →
   (∀ i,i<n→Fits P M e ((cs.drop (i * P.cellsOf e)).take (P.cellsOf e)))→Fits P M t cs
 | other (t:TypeId) (cs:List AV) : vS (P.underlying t)=true→Fits P M t cs
 | zero (t e:TypeId) (cs:List AV) : P.underlying t=some (.slice e)→P.cellsOf e=0→Fits P M t cs
theorem Cw (a:Addr) : a.add 0=a:=by simp[Addr.add]
theorem ui {w:World} {base:Nat} {a:Addr} {n:Nat} {cs:List Value} (h:w.cells? base a n=some cs) : cs.length=n∧∀ i,i<n→w.cell? (a.add i)=cs[i]?:=by
 unfold World.cells? at h
 split at h
 ·exact⟨by simpa using mapM_some_length h,fun i hi=>mapM_some_get h i i (by simp[hi])⟩
 ·cases h
theorem cell?_at {w:World} {a:Addr} {v:Value} (h:w.cell? a=some v) : ∃ c el fr,w.heap[a.block]?=some (.cells c el fr)∧a.spot=none∧a.off<c.size∧c[a.off]?=some v:=by
 unfold World.cell? at h
 split at h
 ·rename_i c el fr hh
  split at h
  ·cases h
  ·rename_i hs
   exact⟨c,el,fr,hh,by simpa using hs,(Array.getElem?_eq_some_iff.1 h).1,h⟩
 ·cases h
section
variable {H:Type} {enc:TypeId × Value→H} {P:Program} {base:Base} {w:World}
theorem rC {e:TypeId} {ds:List (DataW H)} {d:DataW H} (hd:d∈ds) {x:Nat} (hx:x∈d.weights P e) : x∈DataW.weightsAll P e ds:=by
 induction ds with
 | nil=>cases hd
 | cons y ys ih =>
   simp only[DataW.weightsAll,List.mem_append]
   rcases List.mem_cons.1 hd with rfl | hd
   ·exact .inl hx
   ·exact .inr (ih hd)
theorem xY {x:Nat} : ∀ (ts:List TypeId) (ds:List (DataW H)) (i:Nat) (t:TypeId) (d:DataW H),ts[i]?=some t→ds[i]?=some d→x∈d.weights P t→x∈DataW.weightsEach P ts ds
 | [],_,_,_,_,h,_,_=>by simp at h
 | _ :: _,[],_,_,_,_,h,_=>by simp at h
 | t :: ts,d :: ds,0,t',d',h,h',hx=>by
   simp at h h'; subst h h'
   simp only[DataW.weightsEach,List.mem_append]; exact .inl hx
 | t :: ts,d :: ds,i + 1,t',d',h,h',hx=>by
   simp only[DataW.weightsEach,List.mem_append]
   exact .inr (xY ts ds i t' d' (by simpa using h) (by simpa using h') hx)
theorem NH (hn:base.n=w.heap.size) {held:Bool} : ∀ (fuel:Nat) (t:TypeId) (cs:List Value) (x:DataW H × List MemPlace),DataW.trod enc P w 0 (fun _=>true) held fuel t cs=some x →
  (∀ y∈x.1.weights P t,y≤reachBytes)→Fits P (RM.old base w) t (cs.map (oF base.n)):=by
 intro fuel
 induction fuel with
 | zero=>intro t cs x h; simp[DataW.trod] at h
 | succ m ih =>
   intro t cs x h hw
   cases hu:P.underlying t with
   | none=>exact .other _ _ (by rw[hu]; rfl)
   | some d =>
     cases d with
     | bool =>
       obtain⟨b,rfl,rfl⟩:=DataW.trod_bool hu h
       exact .bool t b hu
     | int k =>
       obtain⟨n,rfl,rfl,hwf⟩:=DataW.trod_int hu h
       simp only[Lit.wf,Bool.and_eq_true,decide_eq_true_eq] at hwf
       exact .int t k n hu hwf.1 hwf.2
     | string =>
       obtain⟨s,rfl,rfl,_⟩:=DataW.trod_string hu h
       exact .str t s.data.toList hu (hw _ (by simp[DataW.weights]))
     | slice e =>
       rcases DataW.trod_slice hu h with⟨rfl,rfl⟩ | ⟨a,len,cap,elems,rest,n,hm,rfl,rfl,_,hlc,_,hel,hget,hrest,_⟩
       ·exact .Ra t e hu
       ·cases hm
        rcases Nat.eq_zero_or_pos (P.cellsOf e) with hz | hz
        ·exact .zero t e _ hu hz
        rcases Nat.eq_zero_or_pos cap with hc | hc
        ·have hl0:len=0:=by omega
         subst hc hl0
         exact .emp t e 0 hu
        ·obtain⟨hr1,hr2⟩:=hrest rfl
         have every:∀ i,i<cap→∃ es y,w.cells? 0 (a.add (i * P.cellsOf e)) (P.cellsOf e)=some es∧DataW.trod enc P w 0 (fun _=>true) held m e es=some y∧(y∈elems∨y∈rest):=by
          intro i hi
          by_cases hil:i<len
          ·have h1:=hget i hil
           have h2:elems[i]?=some (elems[i]'(by omega)):=by simp[hel,hil]
           rw[h2] at h1
           obtain⟨es,e1,e2⟩:=Option.bind_eq_some_iff.1 h1
           exact⟨es,_,e1,e2,.inl (List.getElem_mem _)⟩
          ·have h1:=hr2 (i - len) (by omega)
           rw[show len + (i - len)=i by omega] at h1
           have h2:rest[i - len]?=some (rest[i - len]'(by omega)):=by
            rw[List.getElem?_eq_getElem]
           rw[h2] at h1
           obtain⟨es,e1,e2⟩:=Option.bind_eq_some_iff.1 h1
           exact⟨es,_,e1,e2,.inr (List.getElem_mem _)⟩
         obtain⟨es0,_,k0,_,_⟩:=every 0 hc
         obtain⟨kl0,kg0⟩:=ui k0
         have hc0:=kg0 0 hz
         rw[List.getElem?_eq_getElem (by omega)] at hc0
         obtain⟨c,el,fr,hh,hsp,_,_⟩:=cell?_at hc0
         obtain⟨b,o,sp⟩:=a
         rw[Nat.zero_mul,Cw,Cw] at hh hsp
         simp only at hh hsp
         subst hsp
         have hblt:b<base.n:=by rw[hn]; exact(Array.getElem?_eq_some_iff.1 hh).1
         have hlast:o + cap * P.cellsOf e≤c.size:=by
          obtain⟨es1,_,k1,_,_⟩:=every (cap - 1) (by omega)
          obtain⟨kl1,kg1⟩:=ui k1
          have hc1:=kg1 (P.cellsOf e - 1) (by omega)
          rw[List.getElem?_eq_getElem (by omega)] at hc1
          obtain⟨c',el',fr',hh',_,hlt,_⟩:=cell?_at hc1
          rw[dL,dL] at hh' hlt
          simp only at hh' hlt
          rw[hh] at hh'
          cases hh'
          have:cap * P.cellsOf e=(cap - 1) * P.cellsOf e + P.cellsOf e:=by
           rw[← Nat.succ_mul]; congr 1; omega
          omega
         have adO:oF base.n (.slice (some ⟨b,o,none⟩) len cap)=.slc b o len (.ex cap):=by
          obtain⟨cap,rfl⟩ : ∃ k,cap=k + 1:=⟨cap - 1,by omega⟩
          simp only[oF,if_pos hblt]
         have hcells:=RM.UT hblt hh
         have hle:len * P.cellsOf e≤cap * P.cellsOf e:=Nat.mul_le_mul_right _ hlc
         have hload:(RM.old base w).loads b o (len * P.cellsOf e)=some (((c.toList.map (oF base.n)).drop o).take (len * P.cellsOf e)):=by
          simp only[RM.loads,hcells]
          rw[if_pos (by simp; omega)]
         simp only[List.map_cons,List.map_nil,adO]
         refine .slc t e b o len cap _ hu hblt hlc ?_ hload fun i hi=>?_
         ·have:=hw ((elems.length + rest.length) * P.bytesOf e) (by simp[DataW.weights,hu])
          rwa [hel,hr1,show len + (cap - len)=cap by omega] at this
         ·obtain⟨es,y,k1,k2,k3⟩:=every i (by omega)
          have hlen:=(ui k1).1
          have hes:((((c.toList.map (oF base.n)).drop o).take (len * P.cellsOf e)).drop (i * P.cellsOf e)).take (P.cellsOf e)=es.map (oF base.n):=by
           have hii:i * P.cellsOf e + P.cellsOf e≤len * P.cellsOf e:=by rw[← Nat.succ_mul]; exact Nat.mul_le_mul_right _ hi
           apply List.ext_getElem?
           intro j
           by_cases hj:j<P.cellsOf e
           ·have hg:=(ui k1).2 j hj
            rw[List.getElem?_take,if_pos hj,List.getElem?_drop,List.getElem?_take,if_pos (by omega),List.getElem?_drop,List.getElem?_map,List.getElem?_map,← hg]
            rw[dL,dL]
            simp only[World.cell?,hh]
            rw[Array.getElem?_toList]
            simp[Nat.add_assoc]
           ·rw[List.getElem?_eq_none (by simp; omega),List.getElem?_eq_none (by simp; omega)]
          rw[hes]
          refine ih e es y k2 fun z hz=>hw z ?_
          simp only[DataW.weights,hu,List.mem_cons,List.mem_append]
          rcases k3 with k3 | k3
          ·exact .inr (.inl (rC (List.mem_map_of_mem k3) hz))
          ·exact .inr (.inr (rC (List.mem_map_of_mem k3) hz))
     | struct fs =>
       obtain⟨xs,n,hm,rfl,hl,hxl,hget⟩:=DataW.trod_struct hu h
       cases hm
       refine .struct t fs _ hu (by simpa using hl) fun i f hf=>?_
       have h1:=hget i f hf
       have hi:i<fs.size:=(Array.getElem?_eq_some_iff.1 hf).1
       rw[List.getElem?_eq_getElem (by omega)] at h1
       rw[← List.map_drop,← List.map_take]
       refine ih _ _ _ h1 fun z hz=>hw z ?_
       simp only[DataW.weights,hu]
       refine xY _ _ i f.type _ (by simp[hf]) (by rw[List.getElem?_map,List.getElem?_eq_getElem (by omega)]; rfl) hz
     | array n e =>
       obtain⟨xs,m',hm,rfl,hl,hxl,hget⟩:=DataW.trod_array hu h
       cases hm
       refine .array t e n _ hu (by simpa using hl) fun i hi=>?_
       have h1:=hget i hi
       rw[List.getElem?_eq_getElem (by omega)] at h1
       rw[← List.map_drop,← List.map_take]
       refine ih _ _ _ h1 fun z hz=>hw z ?_
       simp only[DataW.weights,hu]
       exact rC (List.mem_map_of_mem (List.getElem_mem _)) hz
     | _=>exact .other _ _ (by rw[hu]; rfl)
end
section
variable {P:Program} {M:RM} {t:TypeId} {cs:List AV}
theorem Fits.E5 (h:Fits P M t cs) {k:IntKind} (hu:P.underlying t=some (.int k)) : ∃ n:Int,cs=[N k n]∧k.min≤n∧n≤k.max:=by
 cases h with
 | int _ k' n h1 h2 h3=>rw[hu] at h1; cases h1; exact⟨n,rfl,h2,h3⟩
 | _=>simp_all [vS]
theorem Fits.Yw (h:Fits P M t cs) (hu:P.underlying t=some .string) : ∃ s,cs=[St s]∧s.length≤reachBytes:=by
 cases h with
 | str _ s h1 h2=>exact⟨s,rfl,h2⟩
 | _=>simp_all [vS]
theorem Fits.Sy (h:Fits P M t cs) {fs:Array Field} (hu:P.underlying t=some (.struct fs)) : cs.length=P.cellsOf t∧∀ (i:Nat) (f:Field),fs[i]?=some f→Fits P M f.type ((cs.drop f.offset).take (P.cellsOf f.type)):=by
 cases h with
 | struct _ fs' _ h1 h2 h3=>rw[hu] at h1; cases h1; exact⟨h2,h3⟩
 | _=>simp_all [vS]
theorem Fits.Db (h:Fits P M t cs) {e:TypeId} (hu:P.underlying t=some (.slice e)) (hz:0<P.cellsOf e) :
  ∃ v n ds,cs=[v]∧aD M (P.cellsOf e) v ds n∧n * P.bytesOf e≤reachBytes∧∀ i,i<n→Fits P M e ((ds.drop (i * P.cellsOf e)).take (P.cellsOf e)):=by
 cases h with
 | Ra _ e' h1=>exact⟨_,0,[],rfl,.nil,by simp,fun i hi=>absurd hi (by omega)⟩
 | emp _ e' b h1=>exact⟨_,0,[],rfl,.emp b,by simp,fun i hi=>absurd hi (by omega)⟩
 | slc _ e' b o n c ds h1 h2 h3 h4 h5 h6 =>
   rw[hu] at h1; cases h1
   exact⟨_,n,ds,rfl,.slc b o n _ ds h2 h5,Nat.le_trans (Nat.mul_le_mul_right _ h3) h4,h6⟩
 | zero _ e' _ h1 h2=>rw[hu] at h1; cases h1; omega
 | _=>simp_all [vS]
theorem EG {α:Type} {size:Nat} (enc:α→List AV) (p:α→Prop) (hs:∀ a,(enc a).length=size) : ∀ (n:Nat) (ds:List AV),ds.length=n * size→(∀ i,i<n→∃ a,p a∧(ds.drop (i * size)).take size=enc a) →
  ∃ xs:List α,xs.length=n∧ds=xs.flatMap enc∧∀ x∈xs,p x
 | 0,ds,hl,_=>⟨[],rfl,by simpa using hl,by simp⟩
 | n + 1,ds,hl,h=>by
   obtain⟨a,pa,ha⟩:=h 0 (by omega)
   simp only[Nat.zero_mul,List.drop_zero] at ha
   have hl' : (ds.drop size).length=n * size:=by rw[List.length_drop,hl,Nat.succ_mul]; omega
   obtain⟨xs,h1,h2,h3⟩:=EG enc p hs n (ds.drop size) hl' fun i hi=>by
    obtain⟨b,pb,hb⟩:=h (i + 1) (by omega)
    refine⟨b,pb, ?_⟩
    rw[List.drop_drop,← hb,Nat.succ_mul,Nat.add_comm]
   refine⟨a :: xs,by simp[h1], ?_,fun x hx=>?_⟩
   ·rw[List.flatMap_cons,← h2,← ha,List.take_append_drop]
   ·rcases List.mem_cons.1 hx with rfl | hx
    ·exact pa
    ·exact h3 x hx
end
def DN (P:Program) (t:TypeId) : Bool :=
 match P.underlying t with
 | some (.struct _) | some (.array _ _)=>true
 | _=>false
def qc (P:Program) (M:RM) (t:TypeId) (v:AV) : Prop :=
 match DN P t with
 | true=>∃ cs,v=.agg cs∧Fits P M t cs
 | false=>Fits P M t [v]
theorem qc.agg {P:Program} {M:RM} {t:TypeId} {v:AV} (h:qc P M t v) (ha:DN P t=true) : ∃ cs,v=.agg cs∧Fits P M t cs:=by
 unfold qc at h; rw[ha] at h; exact h
theorem qc.one {P:Program} {M:RM} {t:TypeId} {v:AV} (h:qc P M t v) (ha:DN P t=false) : Fits P M t [v]:=by
 unfold qc at h; rw[ha] at h; exact h
section
variable {H:Type} {enc:TypeId × Value→H} {P:Program} {base:Base} {w:World}
theorem Ob {r:Reach} {b:Nat} {t:TypeId} {cs:Array Value} (h:Cell.okWide P w r b t (.agg cs)) : False:=by
 unfold Cell.okWide at h
 split at h <;> first | (rename_i e _; cases e; done) | skip
 all_goals first | (rename_i e; cases e; done) | skip
 unfold Cell.ok at h
 split at h <;> first | exact h | simp_all
theorem VJ (hn:base.n=w.heap.size) {r:Reach} {b:Nat} {held:Bool} {t:TypeId} {v:Value} {d:DataW H} {ps:List MemPlace} (hv:Value.okWide P w r b t v) (h:DataW.Trod enc P w 0 (fun _=>true) held t v d ps)
  (hw:∀ y∈d.weights P t,y≤reachBytes) : qc P (RM.old base w) t (vR base.n v):=by
 obtain⟨fuel,hf⟩:=h
 have hfit:=NH hn fuel t _ _ hf hw
 unfold qc
 cases ha:DN P t with
 | true =>
   have:∃ cs,v=.agg cs:=by
    unfold Value.okWide at hv
    unfold DN at ha
    split at hv
    ·obtain⟨cs,h,_⟩:=hv; exact⟨cs,h⟩
    ·obtain⟨cs,h,_⟩:=hv; exact⟨cs,h⟩
    ·split at ha <;> simp_all
   obtain⟨cs,rfl⟩:=this
   exact⟨_,rfl,hfit⟩
 | false =>
   have hc:Cell.okWide P w r b t v:=by
    unfold Value.okWide at hv
    unfold DN at ha
    split at hv
    ·simp_all
    ·simp_all
    ·exact hv
   have:v.cells.toList=[v]∧vR base.n v=oF base.n v:=by
    cases v with
    | agg cs=>exact(Ob hc).elim
    | _=>exact⟨rfl,rfl⟩
   rw[this.1] at hfit
   rw[this.2]
   exact hfit
theorem NU (hn:base.n=w.heap.size) {r:Reach} {b:Nat} {held:Bool} : ∀ {ts:List TypeId} {vs:List Value} {ds:List (DataW H)} {ps:List MemPlace},DataW.TrodAll enc P w 0 (fun _=>true) held ts vs ds ps →
  (∀ (j:Nat) t v,ts[j]?=some t→vs[j]?=some v→Value.okWide P w r b t v)→(∀ y∈DataW.weightsEach P ts ds,y≤reachBytes) →
  ∀ (j:Nat) t v,ts[j]?=some t→vs[j]?=some v→qc P (RM.old base w) t (vR base.n v)
 | [],_,_,_,_,_,_,j,t,v,h,_=>by simp at h
 | t0 :: ts,vs,ds,ps,h,hv,hw,j,t,v,hj,hvj=>by
   cases vs with
   | nil=>simp at hvj
   | cons v0 vs =>
   cases ds with
   | nil=>exact h.elim
   | cons d ds =>
   obtain⟨p,q,h1,h2,_⟩:=h
   cases j with
   | zero =>
     simp at hj hvj; subst hj hvj
     exact VJ hn (hv 0 _ _ rfl rfl) h1 fun y hy=>hw y (by simp[DataW.weightsEach,hy])
   | succ j =>
     exact NU hn h2 (fun j t v a b=>hv (j + 1) t v (by simpa using a) (by simpa using b)) (fun y hy=>hw y (by simp[DataW.weightsEach,hy])) j t v (by simpa using hj) (by simpa using hvj)
theorem Co (hl:laidOutB P=true) {W W' : World} {sp:Nat→Bool} (hb:Below W.heap.size W W') : ∀ {ts:List TypeId} {vs:List Value} {ds:List (DataW H)} {ps:List MemPlace},
  (∀ t∈ts,P.readableRec t=true∧t<P.types.size)→DataW.TrodAll enc P W 0 (fun _=>true) true ts vs ds ps→(∀ p∈ps,p.block<W.heap.size)→(∀ p∈ps,sp p.block=true)→DataW.TrodAll enc P W' 0 sp true ts vs ds ps
 | [],vs,ds,ps,_,h,_,_=>by
   cases vs <;> cases ds <;> first | exact h | exact h.elim
 | t :: ts,vs,ds,ps,hr,h,hlt,hsp=>by
   cases vs with
   | nil=>cases ds <;> exact h.elim
   | cons v vs =>
   cases ds with
   | nil=>exact h.elim
   | cons d ds =>
   obtain⟨p,q,h1,h2,rfl⟩:=h
   have hrt:=hr t (List.mem_cons_self ..)
   exact⟨p,q,WideElems.Trod_stays hl hrt.1 hrt.2 h1 (fun x hx=>hb.same (hlt x (List.mem_append_left _ hx))) (fun x hx=>hsp x (List.mem_append_left _ hx)),
    Co hl hb (fun t ht=>hr t (List.mem_cons_of_mem _ ht)) h2 (fun x hx=>hlt x (List.mem_append_right _ hx)) (fun x hx=>hsp x (List.mem_append_right _ hx)),rfl⟩
end
def RB.cells (lo:Nat) : RB→Option (List AV)
 | .row l _ _ _=>some l
 | .ro c=>some (c.toList.map (oF lo))
 | _=>none
@[go_sem] theorem RB.yA (lo:Nat) (l:List AV) (p:Bool) (e f:Nat) : RB.cells lo (.row l p e f)=some l:=rfl
theorem RM.Gc (M:RM) (b:Nat) : M.cells b=(M.heap b).bind (RB.cells M.lo):=by
 unfold RM.cells RB.cells
 cases M.heap b with
 | none=>rfl
 | some x=>cases x <;> rfl
def vH (l:Option (List AV)) (o k:Nat) : Option (List AV) :=
 match l with
 | some l=>if o + k≤l.length then some ((l.drop o).take k) else none
 | none=>none
@[go_sem] theorem aa2 (l:List AV) (o k:Nat) : vH (some l) o k=if o + k≤l.length then some ((l.drop o).take k) else none:=rfl
theorem RM.Gs (M:RM) (b o k:Nat) : M.loads b o k=vH (M.cells b) o k:=rfl
section
variable {M M' : RM}
@[go_sem] theorem RM.TY (x:RB) (c:Nat) : (M.push x).heap c=if c=M.next then some x else M.heap c:=rfl
@[go_sem] theorem RM.heap_put (b:Nat) (x:RB) (c:Nat) : (M.put b x).heap c=if c=b then some x else M.heap c:=rfl
@[go_sem] theorem RM.acD (b:Nat) (c:Nat) : (M.del b).heap c=if c=b then none else M.heap c:=rfl
@[go_sem] theorem RM.acg (x:RB) : (M.push x).base=M.base:=rfl
@[go_sem] theorem RM.adY (b:Nat) (x:RB) : (M.put b x).base=M.base:=rfl
@[go_sem] theorem RM.adX (b:Nat) : (M.del b).base=M.base:=rfl
theorem RM.I8 (x:RB) (c:Nat) : (M.push x).cells c=if c=M.next then x.cells M.lo else M.cells c:=by
 simp only[RM.Gc,RM.TY]
 split <;> rfl
theorem RM.Lv (b:Nat) (x:RB) (c:Nat) : (M.put b x).cells c=if c=b then x.cells M.lo else M.cells c:=by
 simp only[RM.Gc,RM.heap_put]
 split <;> rfl
@[go_sem] theorem RM.ab9 (x:RB) (c o:Nat) : (M.push x).cell c o=if c=M.next then(x.cells M.lo).bind (·[o]?) else M.cell c o:=by
 simp only[RM.cell,RM.I8]
 split <;> rfl
@[go_sem] theorem RM.adG (b:Nat) (x:RB) (c o:Nat) : (M.put b x).cell c o=if c=b then(x.cells M.lo).bind (·[o]?) else M.cell c o:=by
 simp only[RM.cell,RM.Lv]
 split <;> rfl
@[go_sem] theorem RM.aa9 (x:RB) (c o k:Nat) : (M.push x).loads c o k=if c=M.next then vH (x.cells M.lo) o k else M.loads c o k:=by
 simp only[RM.Gs,RM.I8]
 split <;> rfl
@[go_sem] theorem RM.acd (b:Nat) (x:RB) (c o k:Nat) : (M.put b x).loads c o k=if c=b then vH (x.cells M.lo) o k else M.loads c o k:=by
 simp only[RM.Gs,RM.Lv]
 split <;> rfl
def mW (l:List AV) (fz o:Nat) (vs:List AV) : Option (List AV) :=
 if o + vs.length≤l.length∧fz≤o∧vs.all oneCell=true then some (l.take o++vs++l.drop (o + vs.length)) else none
theorem Dc {l vs:List AV} {fz o:Nat} (h1:o + vs.length≤l.length) (h2:fz≤o) (h3:vs.all oneCell=true) : mW l fz o vs=some (l.take o++vs++l.drop (o + vs.length)):=if_pos ⟨h1,h2,h3⟩
@[go_sem] theorem LM {l vs:List AV} (h:vs.length=l.length) (h3:vs.all oneCell=true) : mW l 0 0 vs=some vs:=by
 rw[Dc (by omega) (Nat.le_refl _) h3]
 simp[h]
theorem RM.xX {b o:Nat} {vs l:List AV} {p:Bool} {e f:Nat} (h:M.heap b=some (.row l p e f)) : M.stores b o vs=(mW l f o vs).map fun l'=>M.put b (.row l' p e f):=by
 simp only[RM.stores,h,mW]
 split <;> rfl
theorem RM.Vk {x y:RB} : (M.push x).put M.next y=M.push y:=by
 simp only[RM.put,RM.push]
 congr 1
 funext c
 split <;> rfl
theorem RM.OW {x y:RB} {b:Nat} (hb:b≠M.next) : (M.push x).put b y=(M.put b y).push x:=by
 simp only[RM.put,RM.push]
 congr 1
 funext c
 by_cases h1:c=b
 ·subst h1; simp[hb]
 ·simp[h1]
theorem RM.Ij {l vs:List AV} {p:Bool} {e f o:Nat} : (M.push (.row l p e f)).stores M.next o vs=(mW l f o vs).map fun l'=>M.push (.row l' p e f):=by
 rw[RM.xX (RM.bR _)]
 congr 1
 funext l'
 exact RM.Vk
theorem RM.IC {M:RM} {b o:Nat} {vs:List AV} : M.stores b o vs=match M.heap b with
  | some (.row l p e f)=>(mW l f o vs).map fun l'=>M.put b (.row l' p e f)
  | _=>none:=by
 cases h:M.heap b with
 | none=>simp[RM.stores,h]
 | some x =>
   cases x with
   | row l p e f=>rw[RM.xX h]
   | _=>simp[RM.stores,h]
@[go_sem] theorem RM.Jv {x:RB} {vs:List AV} {c o:Nat} (hc:c≠M.next) : (M.push x).stores c o vs=(M.stores c o vs).map (·.push x):=by
 rw[RM.IC,RM.IC,RM.Xb hc]
 split
 ·simp only[Option.map_map]
  congr 1
  funext l'
  exact RM.OW hc
 ·rfl
@[go_sem] theorem RM.aa6 {l vs:List AV} {p:Bool} {e f c o:Nat} : (M.push (.row l p e f)).stores c o vs =
  if c=M.next then(mW l f o vs).map fun l'=>M.push (.row l' p e f) else(M.stores c o vs).map (·.push (.row l p e f)):=by
 split
 ·rename_i h; subst h; exact RM.Ij
 ·rename_i h; exact RM.Jv h
@[go_sem] theorem RM.Xu {b o:Nat} {l vs:List AV} {p:Bool} {e f:Nat} : (M.put b (.row l p e f)).stores b o vs=(mW l f o vs).map fun l'=>M.put b (.row l' p e f):=by
 rw[RM.xX (RM.AQ _ _)]
 congr 1
 funext l'
 simp only[RM.put]
 congr 1
 funext c
 split <;> rfl
@[go_sem] theorem aeF {α:Type} (a:α) (K:α→Prop) : (∃ x,some a=some x∧K x)=K a:=by simp
@[go_sem] theorem aa0 {α β:Type} (f:α→β) (x:α) : (some x).map f=some (f x):=rfl
attribute [go_sem] Int.natCast_nonneg Int.toNat_natCast Nat.mul_one true_implies false_implies Bool.false_eq_true Bool.true_eq_false Bool.not_true Bool.not_false Bool.and_self Bool.and_true Bool.true_and Nat.le_refl List.append_nil List.nil_append if_true if_false Nat.lt_irrefl Nat.add_one_ne_zero true_and and_true Nat.zero_add Nat.add_zero List.drop_zero List.getElem?_cons_zero List.getElem?_cons_succ Option.bind_some List.take_succ_cons List.take_zero List.drop_succ_cons List.drop_nil List.take_nil
attribute [go_sem] mO List.all_cons List.all_nil List.length_cons List.length_nil
@[go_sem] theorem aci (cs:List AV) : (AV.agg cs).cells=cs:=rfl
@[go_sem] theorem adx (v:Value) : (AV.sc v).cells=[.sc v]:=rfl
@[go_sem] theorem ab3 (b o:Nat) : (AV.ptr b o).cells=[.ptr b o]:=rfl
@[go_sem] theorem acm (b o n:Nat) (c:Cap) : (AV.slc b o n c).cells=[.slc b o n c]:=rfl
@[go_sem] theorem ach (b:Nat) : (AV.emp b).cells=[.emp b]:=rfl
@[go_sem] theorem ab2 (b:Nat) : (AV.map b).cells=[.map b]:=rfl
@[go_sem] theorem ad3 (f:Fn) (xs ys:List AV) : (AV.fn f xs ys).cells=[.fn f xs ys]:=rfl
@[go_sem] theorem aeO (v:Value) : oneCell (.sc v)=true:=rfl
@[go_sem] theorem aeJ (b o:Nat) : oneCell (.ptr b o)=true:=rfl
@[go_sem] theorem aeG (b o n:Nat) (c:Cap) : oneCell (.slc b o n c)=true:=rfl
@[go_sem] theorem aeI (b:Nat) : oneCell (.emp b)=true:=rfl
@[go_sem] theorem aeH (b:Nat) : oneCell (.map b)=true:=rfl
@[go_sem] theorem aeQ (f:Fn) (xs ys:List AV) : oneCell (.fn f xs ys)=true:=rfl
end
theorem RM.Mv {M:RM} {b:Nat} {l:List AV} {p:Bool} {e f:Nat} (h:M.heap b=some (.row l p e f)) (o k:Nat) : M.loads b o k=vH (some l) o k:=by rw[RM.Gs,RM.yA h]
theorem RM.cell_of {M:RM} {b:Nat} {l:List AV} {p:Bool} {e f:Nat} (h:M.heap b=some (.row l p e f)) (o:Nat) : M.cell b o=l[o]?:=RM.Gr h
theorem RM.Ls {M:RM} {b:Nat} {l:List AV} {p:Bool} {e f:Nat} (h:M.heap b=some (.row l p e f)) (o:Nat) (vs:List AV) : M.stores b o vs=(mW l f o vs).map fun l'=>M.put b (.row l' p e f):=RM.xX h
theorem ae.aB {bs:List Nat} {M M' : RM} (h:ae bs M M') {b:Nat} {x:RB} (hh:M.heap b=some x) (hlt:b<M.next) (hb:b ∉ bs) : M'.heap b=some x:=by rw[h.heap b hlt hb,hh]
end Go.Ab
