/- Part 5 of the ground of the proofs of this seat (texts R28 to C13). By an AI agent. -/
import Derived.Test.YtpdpipgmdhkomaaBlp4
import Derived.RangeFuncRecord
import Derived.RangeFuncSeq
import Derived.OrdersIn
import Derived.LoopNIn
set_option maxRecDepth 10000
set_option linter.unusedVariables false
set_option linter.unusedSimpArgs false
namespace Go.Ab
open Go Go.RowKit
abbrev Jk (r:Option Nat) : Fence := { Fence.wide with round:=r }
def wd (ds:List Deferred) (a:Act) : Act := { a with defers:=ds }
theorem Dh (ds:List Deferred) (a:Act) (d:Option Tmp) (v:Value) : (wd ds a).put d v=wd ds (a.put d v):=by cases d <;> rfl
theorem Kw (ds:List Deferred) (a:Act) : (wd ds a).eval=a.eval:=by funext x; cases x <;> rfl
theorem put_defers (a:Act) (d:Option Tmp) (v:Value) : (a.put d v).defers=a.defers:=by cases d <;> rfl
def EO (o:Oper) : Bool:=match o.op with | .defer _=>false | _=>true
theorem V9 {o:Oper} (h:EO o=true) : ∀ c,o.op≠.defer c:=by
 intro c e; unfold EO at h; rw[e] at h; cases h
def Qn (Q0:Act→World→Prop) : Exit→Act→World→Prop:=fun e a w=>e=.normal∧a.defers=[]∧Q0 a w
section
variable {P:Program} {Q0:Act→World→Prop} {K K' : Act→World→Prop} {Q' : Exit→Act→World→Prop} {r:Option Nat} {n:Nat} {ds:List Deferred}
theorem YQ {row:String} {args:Array Value} {w:World} {R:Value→World→Prop} (h:Rows P row args w R) : RowsIn (Jk r) n P row args w R :=
 fun c cs _=>let ⟨v,w',q,s⟩:=h c cs; ⟨v,w',q,(stepsIn_wide (P:=P)).2 s⟩
theorem OZ {f:FuncId} {args:Array Value} {w:World} {R:Ending→World→Prop} (h:Calls P f args w R) : CallsIn (Jk r) n P f args w R :=
 (callsIn_wide (n:=n)).2 h
theorem PG {o:Oper} (hKd:∀ a w,a.defers≠[]→¬ K a w) {a:Act} (ha:a.defers≠[]) {res:Result Next} (h:o.upon P a K (Qn Q0) res) : False:=by
 unfold Oper.upon at h
 split at h
 ·exact hKd _ _ (by rw[put_defers]; exact ha) h
 ·exact hKd _ _ (by rw[put_defers]; exact ha) h
 ·exact hKd _ _ (by rw[put_defers]; simp) h
 ·obtain⟨e,w',fr,hR,_⟩:=h []
  cases e with
  | returned v=>exact hKd _ _ (by rw[put_defers]; exact ha) hR
  | panicked c=>cases hR.1
  | outgrown=>obtain⟨a,w,h⟩:=hR; cases h.1
 ·obtain⟨v,w',hR,_⟩:=h default []
  exact hKd _ _ (by rw[put_defers]; exact ha) hR
 ·cases h.1
 ·exact h
theorem XZ {o:Oper} (hK:∀ a w,a.defers=[]→K a w→K' (wd ds a) w) (hKd:∀ a w,a.defers≠[]→¬ K a w) {a:Act} (ha:a.defers=[]) {res:Result Next} (h:o.upon P a K (Qn Q0) res) :
  o.uponIn (Jk r) n P (wd ds a) K' Q' res:=by
 unfold Oper.upon at h
 split at h
 ·rw[Oper.uponIn_value,Dh]
  exact hK _ _ (by rw[put_defers]; exact ha) h
 ·rw[Oper.uponIn_skip,Dh]
  exact hK _ _ (by rw[put_defers]; exact ha) h
 ·exact absurd h (hKd _ _ (by rw[put_defers]; simp))
 ·rw[Oper.uponIn_enter]
  refine⟨fun h=>(by cases h),OZ (h.mono ?_)⟩
  intro e w'' hR
  cases e with
  | returned v=>simp only at hR ⊢; rw[Dh]; exact hK _ _ (by rw[put_defers]; exact ha) hR
  | panicked c=>cases hR.1
  | outgrown=>obtain⟨a,w,h⟩:=hR; cases h.1
 ·rw[Oper.uponIn_row]
  refine⟨fun h=>(by cases h),YQ (h.mono ?_)⟩
  intro v w'' hR
  rw[Dh]; exact hK _ _ (by rw[put_defers]; exact ha) hR
 ·cases h.1
 ·exact h.elim
theorem UJ {o:Oper} (hKd:∀ a w,a.defers≠[]→¬ K a w) {a:Act} {w:World} (ha:a.defers≠[]) (h:o.wp P a w K (Qn Q0)) : False:=PG hKd ha h
theorem abx {o:Oper} (hd:EO o=true) (hK:∀ a w,a.defers=[]→K a w→K' (wd ds a) w) (hKd:∀ a w,a.defers≠[]→¬ K a w) {a:Act} {w:World} (ha:a.defers=[]) (h:o.wp P a w K (Qn Q0)) :
  o.wpIn (Jk r) n P (wd ds a) w K' Q':=by
 refine⟨fun _ _=>trivial, ?_⟩
 rw[Oper.semAt_eq _ _ _ (V9 hd),Kw]
 exact XZ hK hKd ha h
theorem LD {Q0:Act→World→Prop} : ¬ LetsOut (Qn Q0):=fun⟨_,_,h⟩=>by cases h.1
theorem qw {ops:Array Oper} : ∀ (l:List Nat) (a:Act) (w:World),a.defers≠[]→¬ wpOps P ops (Qn Q0) l a w
 | [],a,w,ha,h=>ha h.2.1
 | i :: l,a,w,ha,h=>by
   rw[wpOps_cons] at h
   unfold wpOp at h
   split at h
   ·exact qw l a w ha h
   ·split at h
    ·rcases h with h | h
     ·exact UJ (fun a w=>qw l a w) ha h
     ·exact LD h.2
    ·exact qw l _ w (by rw[put_defers]; exact ha) h
theorem wF {ops:Array Oper} (hd:ops.toList.all EO=true) (hQ:∀ a w,a.defers=[]→Q0 a w→Q' .normal (wd ds a) w) : ∀ (l:List Nat) (a:Act) (w:World),a.defers=[]→wpOps P ops (Qn Q0) l a w→wpOpsIn (Jk r) n P ops Q' l (wd ds a) w
 | [],a,w,ha,h=>hQ a w ha h.2.2
 | i :: l,a,w,ha,h=>by
   rw[wpOps_cons] at h
   rw[wpOpsIn_cons]
   unfold wpOp at h
   unfold wpOpIn
   cases ho:ops[i]? with
   | none=>rw[ho] at h; exact wF hd hQ l a w ha h
   | some o =>
     rw[ho] at h
     simp only at h ⊢
     have hdo:EO o=true:=List.all_eq_true.1 hd o (by
      have:ops.toList[i]?=some o:=by rw[Array.getElem?_toList]; exact ho
      exact List.mem_of_getElem? this)
     have hy:yielded ops (wd ds a).tmps=yielded ops a.tmps:=rfl
     rw[hy]
     split at h
     ·rename_i hw
      rw[if_pos hw]
      rcases h with h | h
      ·exact abx hdo (fun a w=>wF hd hQ l a w) (fun a w=>qw l a w) ha h
      ·exact absurd h.2 LD
     ·rename_i hw
      rw[if_neg hw]
      exact⟨fun _ _=>trivial,by rw[Dh]; exact wF hd hQ l _ w (by rw[put_defers]; exact ha) h⟩
end
section
variable {P:Program} {nt:Nat} {ops:Array Oper} {M0:RM} {ρ0 ρ:Ren} {w0 w:World} {a:Act}
theorem Pq (hP:tT P) {T:Tree AV} {M:RM} {K:Tree AV→RM→Prop} {Q:Exit→Act→World→Prop} (hM:After P M0 ρ0 w0 M ρ w) (hA:df ρ nt T a)
  (hQ:∀ T' M' ρ' a' w',After P M0 ρ0 w0 M' ρ' w'→df ρ' nt T' a'→K T' M'→(∀ t,(∀ o∈ops.toList,o.dst≠some t)→T'.get t=T.get t)→Q .normal a' w') (h:Fb P nt ops T M K) (t:Nat) :
  wpOps P ops Q (Region.schedule (P.follows .mixedOrders) ops t) a { w with drawn:=w.drawn + 1 } := by
 simp only[Region.schedule,hP.mixed,Bool.true_or,if_true]
 unfold Fb at h
 split at h
 ·exact wpAny_sound ops.size t _ a _ (Dp hP hM hA hQ h)
 ·split at h
  ·exact h.elim
  ·rename_i x y p _
   split at h
   ·exact h.elim
   ·rename_i hc
    simp only[Bool.and_eq_true,Bool.not_eq_true'] at hc
    obtain⟨⟨c1,c2⟩,c3⟩:=hc
    have p1:=rG c1
    have p2:=rG c2
    have hxy:x≠y:=fun e=>by subst e; rw[Nat.beq_refl] at c3; cases c3
    have go:∀ (q:List Nat) (x y:Nat),Perm q ops.size→uh P nt (iU q x y ops) T M K→wpAny P .any (iU q x y ops) Q ops.size (Array.replicate ops.size false) a { w with drawn:=w.drawn + 1 } := by
     intro q x y hq hd
     have:=Dp hP hM hA (Q:=Q) (fun T' M' ρ' a' w' k1 k2 k3 k4=>hQ T' M' ρ' a' w' k1 k2 k3 fun t ht=>k4 t fun o' ho'=>?_) hd
     ·rw[uk hq] at this; exact this
     ·obtain⟨k,hk⟩:=List.mem_iff_getElem?.1 ho'
      rw[Array.getElem?_toList] at hk
      obtain⟨i,o,hi,_,rfl⟩:=Bf hq hk
      exact ht o (by rw[← Array.getElem?_toList] at hi; exact List.mem_of_getElem? hi)
    have hv:=DV ops ops.size t (Array.replicate ops.size false)
    have rel:∀ q:List Nat,Ko q ops.size (Array.replicate ops.size false) (Array.replicate ops.size false):=fun q=>⟨by simp,by simp,fun z=>by
     simp only[Array.getD_eq_getD_getElem?,Array.getElem?_replicate]
     split <;> split <;> rfl⟩
    rcases Kq hxy ops.size _ _ (by simp) hv with ho | ho
    ·exact sj p1 ops.size _ _ _ a _ hv ho (rel _) (go _ _ _ p1 h.1)
    ·exact sj p2 ops.size _ _ _ a _ hv ho (rel p) (go _ _ _ p2 h.2)
end
theorem bg.far {P:Program} {base:Base} {ρ:Ren} {A:AW} {w w' : World} (h:bg P base ρ A w) (hs:w.heap.size≤w'.heap.size) (hf:∀ b i,ρ b=some i→w'.heap[i.cb]?=w.heap[i.cb]?) (hl:∀ c,c<base.n→w'.heap[c]?=w.heap[c]?) : bg P base ρ A w' where
 dom b i hb:=⟨(h.dom b i hb).1,Nat.lt_of_lt_of_le (h.dom b i hb).2 hs⟩
 blk b i x hb hx:=by obtain⟨o,h1,h2⟩:=h.blk b i x hb hx; exact⟨o,by rw[hf b i hb]; exact h1,h2⟩
 sep:=h.sep
 top:=h.top
 lo:=h.lo
 inv:=base.low _ _ hl h.inv
theorem bC.far {P:Program} {ρ:Ren} {M:RM} {w w' : World} (h:bC P ρ M w) (hs:w.heap.size≤w'.heap.size) (hf:∀ b i,ρ b=some i→w'.heap[i.cb]?=w.heap[i.cb]?) (hl:∀ c,c<M.lo→w'.heap[c]?=w.heap[c]?) : bC P ρ M w':=by
 obtain⟨A,hA⟩:=h
 refine⟨A,hA.next,hA.rel.far hs hf hl,Nat.le_trans hA.size hs,fun b x hx=>?_,hA.old⟩
 rcases hA.blk b x hx with h1 | ⟨c,e,hlt,elem,fr,hh⟩
 ·exact .inl h1
 ·exact .inr ⟨c,e,hlt,elem,fr,by rw[hl b hlt]; exact hh⟩
theorem bC.Km {P:Program} {ρ:Ren} {M:RM} {w:World} (h:bC P ρ M w) : M.lo≤w.heap.size:=by
 obtain⟨A,hA⟩:=h; exact hA.size
def xB (ρ:Ren) (c:Nat) : Prop:=∀ b i,ρ b=some i→i.cb≠c
theorem bC.nY {P:Program} {ρ:Ren} {M:RM} {w:World} (h:bC P ρ M w) {c:Nat} (hc:w.heap.size≤c) : xB ρ c:=fun b i hb e=>by
 have:=(h.lt hb).2; omega
theorem bC.putObj {P:Program} {ρ:Ren} {M:RM} {w:World} (h:bC P ρ M w) {l:Nat} (o:Obj) (hn:xB ρ l) (hl:M.lo≤l) : bC P ρ M (w.putObj l o) :=
 h.far (by simp) (fun b i hb=>World.putObj_heap_other (hn b i hb)) (fun c hc=>World.putObj_heap_other (by omega))
theorem alloc_old {w:World} {o:Obj} {c:Nat} (hc:c<w.heap.size) : (w.alloc o).heap[c]?=w.heap[c]?:=by
 show(w.heap.push o)[c]?=w.heap[c]?
 rw[Array.getElem?_push,if_neg (by omega)]
theorem bC.alloc {P:Program} {ρ:Ren} {M:RM} {w:World} (h:bC P ρ M w) (o:Obj) : bC P ρ M (w.alloc o) :=
 h.far (by simp) (fun b i hb=>alloc_old (h.lt hb).2) (fun c hc=>alloc_old (by have:=h.Km; omega))
theorem Step.alloc {lo n:Nat} {ρ ρ' : Ren} {w w' : World} (h:Step lo n ρ w ρ' w') (hlo:lo≤w.heap.size) (o:Obj) : Step lo n ρ w ρ' (w'.alloc o) where
 os:=h.os
 tape:=h.tape
 output:=h.output
 size:=by simp only[World.size_alloc]; have:=h.size; omega
 frame c hc hu:=by rw[alloc_old (by have:=h.size; omega)]; exact h.frame c hc hu
 ext:=h.ext
 fresh:=h.fresh
 low c hc:=by rw[alloc_old (by have:=h.size; omega)]; exact h.low c hc
theorem Step.putObj {lo n:Nat} {ρ ρ' : Ren} {w w' : World} (h:Step lo n ρ w ρ' w') {l:Nat} (hlo:lo≤w.heap.size) (hl:w.heap.size≤l) (o:Obj) : Step lo n ρ w ρ' (w'.putObj l o) where
 os:=h.os
 tape:=h.tape
 output:=h.output
 size:=by simp only[World.putObj_size]; exact h.size
 frame c hc hu:=by rw[World.putObj_heap_other (by omega)]; exact h.frame c hc hu
 ext:=h.ext
 fresh:=h.fresh
 low c hc:=by rw[World.putObj_heap_other (by omega)]; exact h.low c hc
theorem Step.turned {lo n:Nat} {ρ ρ' : Ren} {w w' : World} {l:Nat} {o o' : Obj} (hlo:lo≤l) (hw:w.heap[l]?=some o) (h:Step lo n ρ (w.putObj l o') ρ' w') : Step lo n ρ w ρ' (w'.putObj l o) where
 os:=h.os
 tape:=h.tape
 output:=h.output
 size:=by simp only[World.putObj_size]; have:=h.size; simpa using this
 frame c hc hu:=by
  have hl:=(Array.getElem?_eq_some_iff.1 hw).1
  have hs:=h.size
  simp only[World.putObj_size] at hs
  by_cases e:c=l
  ·subst e; rw[World.putObj_heap_same (by omega),hw]
  ·rw[World.putObj_heap_other e,h.frame c (by simpa using hc) hu,World.putObj_heap_other e]
 ext:=h.ext
 fresh b i hb:=by
  rcases h.fresh b i hb with k | k
  ·exact .inl k
  ·exact .inr (by simpa using k)
 low c hc:=by
  rw[World.putObj_heap_other (by omega),h.low c hc,World.putObj_heap_other (by omega)]
theorem Step.nY {lo n:Nat} {ρ ρ' : Ren} {w w' : World} (h:Step lo n ρ w ρ' w') {c:Nat} (hn:xB ρ c) (hc:c<w.heap.size) : xB ρ' c:=fun b i hb e=>by
 rcases h.fresh b i hb with⟨b0,i0,h0,e0⟩ | k
 ·exact hn b0 i0 h0 (by rw[e0,e])
 ·omega
theorem Step.kept {lo n:Nat} {ρ ρ' : Ren} {w w' : World} (h:Step lo n ρ w ρ' w') {c:Nat} {o:Obj} (hn:xB ρ c) (hc:w.heap[c]?=some o) : w'.heap[c]?=some o:=by
 rw[h.frame c (Array.getElem?_eq_some_iff.1 hc).1 hn]; exact hc
def Bw (D:Nat) : Deferred := { target:=.collected D,args := #[] }
structure xM (n0:Nat) (ρ:Ren) (w:World) (Ds:List Nat) : Prop where
 nodup:Ds.Nodup
 all:∀ D∈Ds,n0≤D∧w.heap[D]?=some (.deferred (some []))∧xB ρ D
theorem xM.step {lo n n0:Nat} {ρ ρ' : Ren} {w w' : World} {Ds:List Nat} (h:xM n0 ρ w Ds) (hs:Step lo n ρ w ρ' w') : xM n0 ρ' w' Ds :=
 ⟨h.nodup,fun D hD=>by
  obtain⟨h1,h2,h3⟩:=h.all D hD
  exact⟨h1,hs.kept h3 h2,hs.nY h3 (Array.getElem?_eq_some_iff.1 h2).1⟩⟩
def Qy (P:Program) (gf:FuncId) : Prop :=
 ∀ (l:Nat) (J:Nat→World→Prop) (p2 p3:Addr) (a:Option Addr) (len cap n:Nat),0<n→n<2 ^ 40→len≤cap→len<2 ^ 48→(a=none→len=0)→(a=none→cap=0) →
   (∀ k W,J k W→W.cell? p2=some (.slice a len cap)∧W.cell? p3=some (.int .i64 n))→(∀ k W,J k W→J k W.drew) →
   (∀ k W,k * n<len→J k W→YieldAt Fence.wide 0 P l #[.slice (a.map fun a=>a.add (k * n)) (min n (len - k * n)) (min n (len - k * n))] W (fun e W'=>e=.returned (.bool true)∧J (k + 1) W')) →
   ∀ W,J 0 W→CallsIn Fence.wide 0 P gf #[.func (.yield l) #[] #[],.pointer (some p2),.pointer (some p3)] W (fun e W'=>(∃ v,e=.returned v)∧∃ k,len≤k * n∧J k W')
inductive Head:AV→Nat→Prop
 | nil:Head (.sc (.slice none 0 0)) 0
 | emp (b:Nat) : Head (.emp b) 0
 | ex (b o len c:Nat) : len≤c→Head (.slc b o len (.ex c)) len
 | op (b o len:Nat) : Head (.slc b o len (.op 1)) len
def Fh:AV→Nat→Nat→AV
 | .slc b o _ _,i,h=>.slc b (o + i) h (.ex h)
 | _,_,_=>.top
def rf (P:Program) (gf:FuncId) : Prop:=Qy P gf∧Ka P gf
def Eb (C:FuncId→Prop) (x:AV) (M:RM) (round:AV→RM→(RM→Prop)→Prop) (fin:RM→Prop) : Prop :=
 ∃ (gf:FuncId) (b2 o2 b3 o3:Nat) (s:AV) (len n:Nat) (I:Nat→RM→Prop),x=.fn (.func gf) [] [.ptr b2 o2,.ptr b3 o3]∧C gf∧0<n∧n<2 ^ 40∧len<2 ^ 48∧Head s len∧I 0 M ∧
   (∀ k M',I k M'→M'.loads b2 o2 1=some [s]∧M'.loads b3 o3 1=some [N .i64 n]) ∧
   (∀ k M',k * n<len→I k M'→round (Fh s (k * n) (min n (len - k * n))) M' (fun M''=>I (k + 1) M'')) ∧
   (∀ k M',len≤k * n→I k M'→fin M')
def pF (P:Program) (nt ret:Nat) : Nat→Bool→Code→List (Nat × Nat)→Nat→Tree AV→RM→K3→Prop
 | 0,_,_,_,_,_,_,_=>False
 | f + 1,rg,c,env,L,T,M,K=>match c with
   | .skip=>K .normal T M
   | .region _ ops d=>match ops.toList.all EO with
     | true=>match d with
       | false=>GD P nt ops ops.toList T M (fun T' M'=>K .normal T' M')
       | true=>Fb P nt ops T M (fun T' M'=>K .normal T' M')
     | false=>False
   | .seq a b=>match Nat.ble (sO f a) 1 with
     | true=>pF P nt ret f rg a env (fB ret f env b L) T M (fun e T' M'=>match e with
       | .normal=>pF P nt ret f rg b env L T' M' K
       | e=>K e T' M')
     | false=>ek (fun J=>pF P nt ret f rg a env (fB ret f env b L) T M (fun e T' M'=>match e with
       | .normal=>J (vW T' (bitsOf (dG f a &&& fB ret f env b L) nt)) M'
       | e=>K e T' M'))
       (fun xs M'=>pF P nt ret f rg b env L (xR T (bitsOf (dG f a) nt) (bitsOf (dG f a &&& fB ret f env b L) nt) xs) M' K)
   | .cond c a b=>az (jm T c) (pF P nt ret f rg a env L T M K) (pF P nt ret f rg b env L T M K)
   | .block id c=>pF P nt ret f rg c ((id,L) :: env) L T M (fun e T' M'=>match e with
     | .exit i=>match Nat.beq i id with
       | true=>K .normal T' M'
       | false=>K (.exit i) T' M'
     | e=>K e T' M')
   | .exit id=>K (.exit id) T M
   | .ret=>K .ret T M
   | .label _=>K .normal T M
   | .rangeFunc g ps assign body=>match rg with
     | false=>False
     | true=>match ps.toList with
       | [p]=>match Nat.ble (p + 1) nt with
         | false=>False
         | true=>Eb (rf P) (jm T g) M (fun v M' next=>pF P nt ret f false assign [] (fB ret f [] body 0) (T.set p v) M' (fun e T2 M2=>match e with
           | .normal=>pF P nt ret f false body [] 0 T2 M2 (fun e T3 M3=>match e with
             | .normal=>next M3
             | _=>False)
           | _=>False)) (fun M'=>K .normal T M')
       | _=>False
   | _=>False
section
variable {P:Program} {nt ret:Nat}
def pK (P:Program) (nt n0:Nat) (rg:Bool) (Ds:List Nat) (M:RM) (ρ:Ren) (w:World) (T:Tree AV) (asg:Nat) (K:K3) (e:Exit) (a' : Act) (w' : World) : Prop :=
 ∃ x T' M' ρ' a0 Ds',e=yD x∧a'=wd (Ds'.map Bw) a0∧(rg=false→Ds'=Ds)∧xM n0 ρ' w' Ds'∧After P M ρ w M' ρ' w'∧df ρ' nt T' a0∧(∀ t,Nat.testBit asg t=false→T'.get t=T.get t)∧K x T' M'
theorem pK.trans {n0:Nat} {rg:Bool} {Ds Ds1:List Nat} {M M1:RM} {ρ ρ1:Ren} {w w1:World} {T T1:Tree AV} {asg ZE:Nat} {K:K3} (h:After P M ρ w M1 ρ1 w1) (hds:rg=false→Ds1=Ds) (hk:∀ t,Nat.testBit asg t=false→Nat.testBit ZE t=false∧T1.get t=T.get t) {e:Exit} {a' : Act} {w' : World}
  (q:pK P nt n0 rg Ds1 M1 ρ1 w1 T1 ZE K e a' w') : pK P nt n0 rg Ds M ρ w T asg K e a' w':=by
 obtain⟨x,T',M',ρ',a0,Ds',h1,h2,hx,h3,h4,h5,h6,h7⟩:=q
 exact⟨x,T',M',ρ',a0,Ds',h1,h2,fun hr=>(hx hr).trans (hds hr),h3,h.trans h4,h5,fun t ht=>by obtain⟨k1,k2⟩:=hk t ht; rw[h6 t k1,k2],h7⟩
theorem UF (ρ ρ' : Ren) (x:AV) (hx:aj ρ x undef) : aj ρ' x undef:=by
 unfold undef at hx ⊢
 cases hx with
 | top=>exact .top _
 | sc v p=>exact .sc _ p
 | tup xs vs a=>cases a; exact .tup _ _ .nil
theorem KN {ρ:Ren} {b o len:Nat} {v:Value} (hv:aj ρ (.slc b o len (.op 1)) v) : ∃ i,ρ b=some i∧o + len≤i.eu∧v=.slice (some ⟨i.cb,i.sh + o,none⟩) len (i.eu - o):=by
 generalize hq:AV.slc b o len (.op 1)=q at hv
 cases hv <;> first | (cases hq; done) | skip
 rename_i b' k l i e hk
 injection hq with h1 h2 h3 h4
 injection h4 with h4
 subst h1; subst h3
 rw[← h4,Nat.mul_one] at h2
 subst h2
 exact⟨i,e,hk,by rw[← h4,Nat.mul_one]⟩
theorem Ww {s:AV} {len:Nat} (h:Head s len) {ρ:Ren} {v:Value} (hv:aj ρ s v) :
  ∃ (a:Option Addr) (cap:Nat),v=.slice a len cap∧len≤cap∧(a=none→len=0)∧(a=none→cap=0)∧(0<len→∀ ρ' u,ρ.le ρ'→aj ρ' s u→u=v) ∧
    (0<len→∀ i h,aj ρ (Fh s i h) (.slice (a.map fun a=>a.add i) h h)):=by
 cases h with
 | nil =>
   obtain⟨rfl,_⟩:=aN hv
   exact⟨none,0,rfl,Nat.le_refl _,fun _=>rfl,fun _=>rfl,fun h=>absurd h (Nat.lt_irrefl _),fun h=>absurd h (Nat.lt_irrefl _)⟩
 | emp b =>
   cases hv with
   | emp _ a c=>exact⟨some a,c,rfl,Nat.zero_le _,fun _=>rfl,fun e=>(by cases e),fun h=>absurd h (Nat.lt_irrefl _),fun h=>absurd h (Nat.lt_irrefl _)⟩
 | ex b o len c hc =>
   cases hv with
   | fI _ _ _ _ i e =>
     refine⟨some ⟨i.cb,i.sh + o,none⟩,c,rfl,hc,fun e=>(by cases e),fun e=>(by cases e),fun _ ρ' u hle hu=>?_,fun _ k h=>?_⟩
     ·cases hu with
      | fI _ _ _ _ i' e'=>rw[hle _ _ e] at e'; cases e'; rfl
     ·simp only[Fh,Option.map_some,dL]
      have:=aj.fI (ρ:=ρ) b (o + k) h h i e
      rw[← Nat.add_assoc] at this; exact this
 | op b o len =>
   obtain⟨i,e,hk,rfl⟩:=KN hv
   refine⟨some ⟨i.cb,i.sh + o,none⟩,i.eu - o,rfl,by omega,fun e=>(by cases e),fun e=>(by cases e),fun _ ρ' u hle hu=>?_,fun _ m h=>?_⟩
   ·obtain⟨i2,e2,_,rfl⟩:=KN hu
    rw[hle _ _ e] at e2; cases e2
    rfl
   ·simp only[Fh,Option.map_some,dL]
    have:=aj.fI (ρ:=ρ) b (o + m) h h i e
    rw[← Nat.add_assoc] at this; exact this
theorem Hg {ρ:Ren} {M:RM} {w:World} (hw:bC P ρ M w) {b o:Nat} {i:fD} {x:AV} (hb:ρ b=some i) (h:M.loads b o 1=some [x]) : ∃ v,aj ρ x v∧w.cell? ⟨i.cb,i.sh + o,none⟩=some v:=by
 obtain⟨vs,h1,h2,h3⟩:=RM.gu hw hb h
 cases h1 with
 | cons _ v _ _ hv ht =>
   have:=h3 0 v rfl
   rw[dL] at this
   exact⟨v,hv,this⟩
theorem Pw {n0 n:Nat} {g:Operand} {p:Tmp} {assign body:Code} {T:Tree AV} {M:RM} {K:K3} {round:AV→RM→(RM→Prop)→Prop} {ρ:Ren} {a:Act} {w:World} {Ds:List Nat}
  (h:Eb (rf P) (jm T g) M round (fun M'=>K .normal T M')) (hw:bC P ρ M w) (hA:df ρ nt T a) (hD:xM n0 ρ w Ds) (hn0:n0≤w.heap.size) (hP:tT P)
  (hr:∀ (l:Nat) (v:AV) (u:Value) (M1:RM) (ρ1:Ren) (W1:World) (next:RM→Prop),round v M1 next→bC P ρ1 M1 W1→aj ρ1 v u→ρ.le ρ1→assign.wpIn (Jk (some l)) 0 P (Exit.then (fun a2 W2=>∃ (T2:Tree AV) (M2:RM) (ρ2:Ren),After P M1 ρ1 W1 M2 ρ2 W2 ∧
      ∀ W2',bC P ρ2 M2 W2'→body.wpIn (Jk (some l)) 0 P (fun e a3 W3=>e=.normal∧∃ M3 ρ3,After P M2 ρ2 W2' M3 ρ3 W3∧next M3) a2 W2') (fun _ _ _=>False))
      { tmps:=a.tmps.setIfInBounds p u,defers:=[] } W1) :
  (Code.rangeFunc g #[p] assign body).wpIn (Jk none) n P (pK P nt n0 true Ds M ρ w T 0 K) (wd (Ds.map Bw) a) w:=by
 obtain⟨gf,b2,o2,b3,o3,s,len,m,I,hx,⟨hC,hB⟩,hm0,hm1,hlen,hh,h0,hI,hR,hF⟩:=h
 have hg:=oQ hA g
 rw[hx] at hg
 generalize hgv:a.eval g=gv at hg
 obtain⟨i2,i3,e2,e3,rfl⟩ : ∃ i2 i3,ρ b2=some i2∧ρ b3=some i3∧gv=.func (.func gf) #[] #[.pointer (some ⟨i2.cb,i2.sh + o2,none⟩),.pointer (some ⟨i3.cb,i3.sh + o3,none⟩)]:=by
  cases hg with
  | fn f xs ys us vs hpl hxs hys =>
    cases hxs
    cases hys with
    | cons x1 v1 xs1 vs1 hp2 ht =>
      cases ht with
      | cons x2 v2 xs2 vs2 hp3 ht2 =>
        cases ht2
        cases hp2 with
        | ptr _ _ i2 e2 =>
          cases hp3 with
          | ptr _ _ i3 e3=>exact⟨i2,i3,e2,e3,rfl⟩
 have eg:∀ args w,(callFunc gf args).run P w=.ok (.enter gf args) w:=fun args w=>by
  obtain⟨fn,c,h1,h2⟩:=hB
  exact G9 h1 (hP.ng _ _ h1) h2 w
 refine wpIn_rangeFunc fun fn _=>?_
 obtain⟨rec,hrec⟩ : ∃ rec:LoopState→Option Code→Loop,rec=fun st pe => { state:=st,pending:=pe,fn,tmps:=a.tmps,params := #[p],assign,body,defers:=w.heap.size } := ⟨_,rfl⟩
 obtain⟨W1,hW1⟩ : ∃ W1,(w.alloc (.deferred (some []))).alloc (.loop (rec .ready none))=W1:=⟨_,rfl⟩
 have hsz:W1.heap.size=w.heap.size + 2:=by rw[← hW1]; simp
 have hL1:W1.heap[w.heap.size + 1]?=some (.loop (rec .ready none)):=by
  rw[← hW1]; have:=World.alloc_heap_new (w.alloc (.deferred (some []))) (.loop (rec .ready none)); rwa [World.size_alloc] at this
 have hK1:W1.heap[w.heap.size]?=some (.deferred (some [])):=by
  rw[← hW1,alloc_old (by simp)]; exact World.alloc_heap_new w _
 have hw1:bC P ρ M W1:=by rw[← hW1]; exact(hw.alloc _).alloc _
 have hlo:=hw.Km
 have hS1:Step M.lo M.next ρ w ρ W1:=by rw[← hW1]; exact((Step.refl _ _ _).alloc hlo _).alloc hlo _
 have hnl:xB ρ (w.heap.size + 1):=hw.nY (by omega)
 have hnd:xB ρ w.heap.size:=hw.nY (by omega)
 obtain⟨v0,hv0,hc0⟩:=Hg hw1 e2 (hI 0 M h0).1
 obtain⟨ad,cap,rfl,hcap,hz1,hz2,hsame,xA⟩:=Ww hh hv0
 refine⟨w.heap.size + 1,[{ target:=.collected w.heap.size,args := #[] }],W1,{ target:=.fn (.func gf) #[.pointer (some ⟨i2.cb,i2.sh + o2,none⟩),.pointer (some ⟨i3.cb,i3.sh + o3,none⟩)],args := #[.func (.yield (w.heap.size + 1)) #[] #[]] },W1,gf,
  #[.func (.yield (w.heap.size + 1)) #[] #[],.pointer (some ⟨i2.cb,i2.sh + o2,none⟩),.pointer (some ⟨i3.cb,i3.sh + o3,none⟩)],W1, ?_, ?_,fun _ _=>trivial, ?_,fun h=>(by cases h), ?_⟩
 ·rw[← hW1,hrec]; exact run_enterLoop_outer _ _ _ _ _
 ·have:(wd (Ds.map Bw) a).eval g=.func (.func gf) #[] #[.pointer (some ⟨i2.cb,i2.sh + o2,none⟩),.pointer (some ⟨i3.cb,i3.sh + o3,none⟩)]:=by rw[Kw]; exact hgv
  simp only[resolve,this]
  simp[go_sem]
 ·simp[invoke,go_sem,eg]
 ·refine OZ (callsIn_wide.1 ((hC (w.heap.size + 1) (fun k W=>(∃ M' ρ',After P M ρ W1 M' ρ' W∧I k M')∧W.cell? ⟨i2.cb,i2.sh + o2,none⟩=some (.slice ad len cap)) _ ⟨i3.cb,i3.sh + o3,none⟩ ad len cap m hm0 hm1 hcap hlen hz1 hz2 ?_ ?_ ?_ W1 ⟨⟨M,ρ,After.refl hw1,h0⟩,hc0⟩).mono ?_))
  ·rintro k W ⟨⟨M',ρ',k1,k2⟩,k3⟩
   refine⟨k3, ?_⟩
   obtain⟨v,hv,hc⟩:=Hg k1.rel (k1.le hw1 _ _ e3) (hI k M' k2).2
   obtain⟨rfl,_⟩:=aN hv
   exact hc
  ·rintro k W ⟨⟨M',ρ',k1,k2⟩,k3⟩
   exact⟨⟨M',ρ',⟨k1.step.trans (Step.drew (n:=M.next)) (Nat.le_refl _),k1.rel.drew,k1.base,k1.next⟩,k2⟩,k3⟩
  ·rintro k W hk ⟨⟨M',ρ',k1,k2⟩,k3⟩
   have hl1:=k1.step.kept hnl hL1
   have hn1:=k1.step.nY hnl (by omega)
   refine⟨fn,a.tmps.setIfInBounds p (.slice (ad.map fun a=>a.add (k * m)) (min m (len - k * m)) (min m (len - k * m))),assign,body, ?_,roundIn_of_wpIn (n:=0) trivial ?_⟩
   ·generalize Value.slice (ad.map fun a=>a.add (k * m)) (min m (len - k * m)) (min m (len - k * m))=uu
    have:=run_yield (P:=P) (args := #[uu]) hl1 (by rw[hrec]; rfl)
    rw[hrec] at this
    simpa using this
   ·have hu:=(xA (by omega) (k * m) (min m (len - k * m))).mono (k1.le hw1)
    refine wpIn_mono (hr (w.heap.size + 1) _ _ M' ρ' W _ (hR k M' hk k2) k1.rel hu (k1.le hw1)) fun e a2 W2 hp=>?_
    cases e with
    | normal =>
      obtain⟨T2,M2,ρ2,q1,q2⟩:=hp
      have hl2:=q1.step.kept hn1 hl1
      have hn2:=q1.step.nY hn1 (Array.getElem?_eq_some_iff.1 hl1).1
      have hlo2:M2.lo≤w.heap.size:=by rw[q1.lo,k1.lo]; exact hlo
      refine⟨_,run_beginRound hl2 (by rw[hrec]), ?_⟩
      have hm2:bC P ρ2 M2 (W2.putObj (w.heap.size + 1) (.loop { rec .ready none with state:=.busy })):=q1.rel.putObj _ hn2 (by omega)
      refine wpIn_mono (q2 _ hm2) fun e a3 W3 hp=>?_
      obtain⟨rfl,M3,ρ3,r1,r2⟩:=hp
      have hs2:=(Array.getElem?_eq_some_iff.1 hl2).1
      have hl3:=r1.step.kept (o:=.loop { rec .ready none with state:=.busy }) hn2 (World.putObj_heap_same hs2)
      have hn3:=r1.step.nY hn2 (by simp only[World.putObj_size]; exact hs2)
      have hend:=run_endRound (P:=P) none hl3
      rw[hrec] at hend
      refine⟨_,_,hend,rfl, ?_⟩
      have hst:Step M2.lo M2.next ρ2 W2 ρ3 (W3.putObj (w.heap.size + 1) (.loop (rec .ready none))):=Step.turned (by omega) hl2 r1.step
      have hlo3:M3.lo≤w.heap.size:=by rw[r1.lo]; exact hlo2
      have hA3:After P M2 ρ2 W2 M3 ρ3 (W3.putObj (w.heap.size + 1) (.loop (rec .ready none))):=⟨hst,r1.rel.putObj _ hn3 (by omega),r1.base,r1.next⟩
      have hA4:=(k1.trans q1).trans hA3
      have e0:(W3.putObj (w.heap.size + 1) (.loop (rec .ready none)))=W3.putObj (w.heap.size + 1) (.loop { state:=if (none:Option Code).isNone then .ready else .done,pending:=none,fn,tmps:=a.tmps,params := #[p],assign,body,defers:=w.heap.size }):=by rw[hrec]; rfl
      rw[hrec] at e0
      rw[← hrec] at e0
      rw[hrec] at hA4
      refine⟨⟨M3,ρ3,hA4,r2⟩, ?_⟩
      obtain⟨v,hv,hc⟩:=Hg hA4.rel (hA4.le hw1 _ _ e2) (hI (k + 1) M3 r2).1
      have:=hsame (by omega) ρ3 v (hA4.le hw1) hv
      subst this
      exact hc
    | exit id=>exact hp.elim
    | goto t=>exact hp.elim
    | ret=>exact hp.elim
    | panic c=>exact hp.elim
    | outgrown=>exact hp.elim
  ·rintro e W ⟨⟨v,rfl⟩,k,hk,⟨M',ρ',k1,k2⟩,k3⟩
   have hl1:=k1.step.kept hnl hL1
   have hn1:=k1.step.nY hnl (by omega)
   have hd1:=k1.step.kept hnd hK1
   have acU:=k1.step.nY hnd (by omega)
   refine⟨none,_,by have:=run_endLoop (P:=P) hl1 (by rw[hrec]; simp); rw[hrec] at this; exact this, ?_⟩
   have hA5:After P M ρ w M' ρ' W:=⟨(hS1.trans k1.step (Nat.le_refl _)),k1.rel,k1.base,k1.next⟩
   refine⟨.normal,T,M',ρ',a,w.heap.size :: Ds,rfl,rfl,fun h=>(by cases h),⟨?_, ?_⟩,⟨hA5.step.putObj hlo (by omega) _,k1.rel.putObj _ hn1 (by rw[k1.lo]; omega),k1.base,k1.next⟩,hA.mono (k1.le hw1),fun _ _=>rfl,hF k M' hk k2⟩
   ·refine List.nodup_cons.2 ⟨fun hin=>?_,hD.nodup⟩
    have:=(Array.getElem?_eq_some_iff.1 (hD.all _ hin).2.1).1
    omega
   ·intro D hin
    rcases List.mem_cons.1 hin with rfl | hin
    ·exact⟨hn0,by rw[World.putObj_heap_other (by omega)]; exact hd1,acU⟩
    ·obtain⟨g1,g2,g3⟩:=hD.all D hin
     have hDs:=(Array.getElem?_eq_some_iff.1 g2).1
     exact⟨g1,by rw[World.putObj_heap_other (by omega)]; exact hA5.step.kept g3 g2,hA5.step.nY g3 hDs⟩
theorem Vg {ops:Array Oper} {t:Nat} (h:Nat.testBit (Em ops.toList) t=false) : ∀ o∈ops.toList,o.dst≠some t:=ug _ h
theorem UZ (hP:tT P) : ∀ (f:Nat) (rg:Bool) (c:Code) (env:List (Nat × Nat)) (L:Nat) (T:Tree AV) (M:RM) (K:K3),pF P nt ret f rg c env L T M K →
  ∀ (n0:Nat) (r:Option Nat) (n:Nat) (Ds:List Nat) (ρ:Ren) (a:Act) (w:World),(rg=true→r=none)→n0≤w.heap.size→bC P ρ M w→df ρ nt T a→xM n0 ρ w Ds→c.wpIn (Jk r) n P (pK P nt n0 rg Ds M ρ w T (dG f c) K) (wd (Ds.map Bw) a) w:=by
 intro f
 induction f with
 | zero=>intro rg c env L T M K h; exact h.elim
 | succ f ih =>
   intro rg c env L T M K h n0 r n Ds ρ a w hr hn0 hM hA hD
   have fin:∀ (x:Ex) (asg:Nat),K x T M→pK P nt n0 rg Ds M ρ w T asg K (yD x) (wd (Ds.map Bw) a) w:=fun x asg h=>⟨x,T,M,ρ,a,Ds,rfl,rfl,fun _=>rfl,hD,After.refl hM,hA,fun _ _=>rfl,h⟩
   cases c with
   | skip=>exact wpIn_skip (fin .normal _ h)
   | region id ops d =>
     simp only[pF] at h
     split at h
     ·rename_i hnd
      have hQ:∀ a' w',a'.defers=[]→(∃ T' M' ρ',After P M ρ w M' ρ' w'∧df ρ' nt T' a'∧K .normal T' M'∧(∀ t,(∀ o∈ops.toList,o.dst≠some t)→T'.get t=T.get t)) →
        pK P nt n0 rg Ds M ρ w T (dG (f + 1) (.region id ops d)) K .normal (wd (Ds.map Bw) a') w':=by
       rintro a' w' - ⟨T',M',ρ',k1,k2,k3,k4⟩
       exact⟨.normal,T',M',ρ',a',Ds,rfl,rfl,fun _=>rfl,hD.step k1.step,k1,k2,fun t ht=>k4 t (Vg ht),k3⟩
      split at h
      ·refine wpIn_region ?_
       have:=uE (nt:=nt) hP (ops:=ops) (Q:=Qn fun a' w'=>∃ T' M' ρ',After P M ρ w M' ρ' w'∧df ρ' nt T' a'∧K .normal T' M'∧(∀ t,(∀ o∈ops.toList,o.dst≠some t)→T'.get t=T.get t)) (K:=fun T' M'=>K .normal T' M') (M0:=M) (ρ0:=ρ) (w0:=w) (T0:=T)
        (fun T' M' ρ' a' w' k1 k2 k3 k4=>⟨rfl,k2.defers,T',M',ρ',k1,k2,k3,k4⟩) ops.toList 0 (by simp) hA (After.refl hM) (fun _ _=>rfl) h
       rw[Array.length_toList,← List.range_eq_range'] at this
       exact wF hnd hQ _ _ _ hA.defers this
      ·refine wpIn_region_draw fun t=>?_
       exact wF hnd hQ _ _ _ hA.defers (Pq (nt:=nt) (T:=T) (Q:=Qn fun a' w'=>∃ T' M' ρ',After P M ρ w M' ρ' w'∧df ρ' nt T' a'∧K .normal T' M'∧(∀ t,(∀ o∈ops.toList,o.dst≠some t)→T'.get t=T.get t)) hP (After.refl hM) hA
        (fun T' M' ρ' a' w' k1 k2 k3 k4=>⟨rfl,k2.defers,T',M',ρ',k1,k2,k3,k4⟩) h t)
     ·exact h.elim
   | seq c1 c2 =>
     simp only[pF] at h
     refine wpIn_seq ?_
     split at h
     ·refine wpIn_mono (ih _ c1 _ _ _ _ _ h n0 r n Ds ρ a w hr hn0 hM hA hD) fun e a' w' hp=>?_
      obtain⟨x,T1,M1,ρ1,a1,Ds1,rfl,rfl,hds,g,k1,k2,k3,k4⟩:=hp
      have bits:∀ t,Nat.testBit (dG (f + 1) (.seq c1 c2)) t=false→Nat.testBit (dG f c1) t=false∧Nat.testBit (dG f c2) t=false:=fun t ht=>by
       simpa only[dG,Nat.testBit_or,Bool.or_eq_false_iff] using ht
      cases x with
      | normal =>
        refine wpIn_mono (ih _ c2 _ _ _ _ _ k4 n0 r n Ds1 ρ1 a1 w' hr (Nat.le_trans hn0 k1.step.size) k1.rel k2 g) fun e a2 w2 hp=>?_
        exact pK.trans k1 hds (fun t ht=>⟨(bits t ht).2,k3 t (bits t ht).1⟩) hp
      | exit i=>exact⟨.exit i,T1,M1,ρ1,a1,Ds1,rfl,rfl,hds,g,k1,k2,fun t ht=>k3 t (bits t ht).1,k4⟩
      | ret=>exact⟨.ret,T1,M1,ρ1,a1,Ds1,rfl,rfl,hds,g,k1,k2,fun t ht=>k3 t (bits t ht).1,k4⟩
     ·unfold ek at h
      refine wpIn_mono (ih _ c1 _ _ _ _ _ h n0 r n Ds ρ a w hr hn0 hM hA hD) fun e a' w' hp=>?_
      obtain⟨x,T1,M1,ρ1,a1,Ds1,rfl,rfl,hds,g,k1,k2,k3,k4⟩:=hp
      have bits:∀ t,Nat.testBit (dG (f + 1) (.seq c1 c2)) t=false→Nat.testBit (dG f c1) t=false∧Nat.testBit (dG f c2) t=false:=fun t ht=>by
       simpa only[dG,Nat.testBit_or,Bool.or_eq_false_iff] using ht
      have hge:∀ t,nt≤t→aj ρ1 ((T.get t).getD .top) undef:=fun t ht=>UF _ _ _ (hA.ge t ht)
      cases x with
      | normal =>
        refine wpIn_mono (ih _ c2 _ _ _ _ _ k4 n0 r n Ds1 ρ1 a1 w' hr (Nat.le_trans hn0 k1.step.size) k1.rel (wZ k2 hge k3) g) fun e a2 w2 hp=>?_
        refine pK.trans k1 hds (fun t ht=>⟨(bits t ht).2,AA (fun t' ht'=>?_) t (bits t ht).1⟩) hp
        have:=(qi.1 ht').2
        rw[Nat.testBit_and,Bool.and_eq_true] at this
        exact this.1
      | exit i=>exact⟨.exit i,T1,M1,ρ1,a1,Ds1,rfl,rfl,hds,g,k1,k2,fun t ht=>k3 t (bits t ht).1,k4⟩
      | ret=>exact⟨.ret,T1,M1,ρ1,a1,Ds1,rfl,rfl,hds,g,k1,k2,fun t ht=>k3 t (bits t ht).1,k4⟩
   | cond cnd c1 c2 =>
     simp only[pF] at h
     have bits:∀ t,Nat.testBit (dG (f + 1) (.cond cnd c1 c2)) t=false→Nat.testBit (dG f c1) t=false∧Nat.testBit (dG f c2) t=false:=fun t ht=>by
      simpa only[dG,Nat.testBit_or,Bool.or_eq_false_iff] using ht
     obtain⟨b,hb,h1,h2⟩:=Lj h (oQ hA cnd)
     rw[← Kw (Ds.map Bw)] at hb
     cases b with
     | true =>
       refine wpIn_cond_true hb (wpIn_mono (ih _ c1 _ _ _ _ _ (h1 rfl) n0 r n Ds ρ a w hr hn0 hM hA hD) fun e a' w' hp=>?_)
       exact pK.trans (After.refl hM) (fun _=>rfl) (fun t ht=>⟨(bits t ht).1,rfl⟩) hp
     | false =>
       refine wpIn_cond_false hb (wpIn_mono (ih _ c2 _ _ _ _ _ (h2 rfl) n0 r n Ds ρ a w hr hn0 hM hA hD) fun e a' w' hp=>?_)
       exact pK.trans (After.refl hM) (fun _=>rfl) (fun t ht=>⟨(bits t ht).2,rfl⟩) hp
   | block id c1 =>
     simp only[pF] at h
     refine wpIn_block (wpIn_mono (ih _ c1 _ _ _ _ _ h n0 r n Ds ρ a w hr hn0 hM hA hD) fun e a' w' hp=>?_)
     obtain⟨x,T1,M1,ρ1,a1,Ds1,rfl,rfl,hds,g,k1,k2,k3,k4⟩:=hp
     cases x with
     | normal=>exact⟨.normal,T1,M1,ρ1,a1,Ds1,rfl,rfl,hds,g,k1,k2,k3,k4⟩
     | ret=>exact⟨.ret,T1,M1,ρ1,a1,Ds1,rfl,rfl,hds,g,k1,k2,k3,k4⟩
     | exit i =>
       simp only at k4
       split at k4
       ·rename_i he
        have he:=bf he
        subst he
        simp only[yD,Exit.inBlock,if_true]
        exact⟨.normal,T1,M1,ρ1,a1,Ds1,rfl,rfl,hds,g,k1,k2,k3,k4⟩
       ·rename_i he
        have he:=ul he
        simp only[yD,Exit.inBlock,if_neg he]
        exact⟨.exit i,T1,M1,ρ1,a1,Ds1,rfl,rfl,hds,g,k1,k2,k3,k4⟩
   | loop c1=>simp[pF] at h
   | exit id=>exact wpIn_exit (fin (.exit id) _ h)
   | ret=>exact wpIn_ret (fin .ret _ h)
   | rangeFunc g ps assign body =>
     simp only[pF] at h
     split at h
     ·exact h.elim
     ·have hr:=hr rfl
      subst hr
      split at h
      ·rename_i p hp
       have hps:ps = #[p]:=Array.ext' hp
       subst hps
       split at h
       ·exact h.elim
       ·rename_i hb
        refine Pw h hM hA hD hn0 hP ?_
        intro l v u M1 ρ1 W1 next ZJ hM1 hu hle
        have hA1:df ρ1 nt (T.set p v) { tmps:=a.tmps.setIfInBounds p u,defers:=[] } := by
         have:=Am (hA.mono hle) (d:=some p) (T':=T.set p v) hu (by simp only[Hd,hb])
         have e:a.put (some p) u = { tmps:=a.tmps.setIfInBounds p u,defers:=[] } := by rw[← hA.defers]; rfl
         rw[e] at this; exact this
        have hD1:xM 0 ρ1 W1 []:=⟨List.nodup_nil,fun _ h=>by cases h⟩
        have:=ih false assign [] _ _ _ _ ZJ 0 (some l) 0 [] ρ1 _ W1 (fun h=>by cases h) (Nat.zero_le _) hM1 hA1 hD1
        refine wpIn_mono this fun e a' w' hp=>?_
        obtain⟨x,T2,M2,ρ2,a2,Ds2,rfl,rfl,hds,g,k1,k2,k3,k4⟩:=hp
        cases hds rfl
        cases x with
        | normal =>
          refine⟨T2,M2,ρ2,k1,fun W2' hM2=>?_⟩
          refine wpIn_mono (ih false body [] _ _ _ _ k4 0 (some l) 0 [] ρ2 _ W2' (fun h=>by cases h) (Nat.zero_le _) hM2 k2 ⟨List.nodup_nil,fun _ h=>by cases h⟩) fun e a3 w3 hp=>?_
          obtain⟨x,T3,M3,ρ3,a3,Ds3,rfl,rfl,_,_,q1,_,_,q4⟩:=hp
          cases x with
          | normal=>exact⟨rfl,M3,ρ3,q1,q4⟩
          | exit i=>exact q4.elim
          | ret=>exact q4.elim
        | exit i=>exact k4.elim
        | ret=>exact k4.elim
      ·exact h.elim
   | scope c1=>simp[pF] at h
   | label l=>exact wpIn_label (fin .normal _ h)
   | goto=>simp[pF] at h
   | refuse=>simp[pF] at h
theorem DT {n:Nat} {fn:Func} {tmps:Array Value} {R:Ending→World→Prop} {M0 M:RM} {ρ0 ρ:Ren} {w0:World} (hlo:M0.lo≤w0.heap.size) (hres:∀ w',After P M0 ρ0 w0 M ρ w'→LeavesIn Fence.wide n P fn tmps R [] .returning w') :
  ∀ (Ds:List Nat) (w:World),xM w0.heap.size ρ w Ds→After P M0 ρ0 w0 M ρ w→LeavesInM Fence.wide n P fn tmps R (Ds.map Bw) .returning w
 | [],w,_,hA=>hres w hA
 | D :: Ds,w,hD,hA=>by
   obtain⟨h1,h2,h3⟩:=hD.all D (List.mem_cons_self ..)
   refine⟨by simp,.inl ⟨D,_,rfl,run_takeDeferred h2,DT hlo hres Ds _ ⟨(List.nodup_cons.1 hD.nodup).2,fun D' hD'=>?_⟩ ⟨hA.step.putObj hlo h1 _,hA.rel.putObj _ h3 (by rw[hA.lo]; omega),hA.base,hA.next⟩⟩⟩
   obtain⟨g1,g2,g3⟩:=hD.all D' (List.mem_cons_of_mem _ hD')
   refine⟨g1, ?_,g3⟩
   have hne:D'≠D:=fun e=>(List.nodup_cons.1 hD.nodup).1 (by rw[e] at hD'; exact hD')
   rw[World.putObj_heap_other hne]
   exact g2
def Qs (P:Program) (fn:Func) (c:Code) (args:List AV) (M:RM) (Q:ak) : Prop :=
 pF P (args.length + (fn.ntmps - args.length)) (EK fn.results.toList) 1000 true c [] 0 (Tree.ofList args 0 .leaf) M
  (fun e T M'=>match e with
   | .exit _=>False
   | _=>Rx P T M' fn.results.toList (Q9 Q M'))
theorem IV (hP:tT P) {f:FuncId} {fn:Func} {c:Code} {args:List AV} {M:RM} {Q:ak} (hfn:P.funcs[f]?=some fn) (hbody:fn.body=some c) (h:Qs P fn c args M Q) : iy P f args M Q:=by
 refine⟨⟨fn,c,hfn,hbody⟩,fun ρ w us hargs hw=>?_⟩
 have hlen:=hargs.length
 have hA:df ρ (args.length + (fn.ntmps - args.length)) (Tree.ofList args 0 .leaf) { tmps:=⟨us⟩++Array.replicate (fn.ntmps - (⟨us⟩ : Array Value).size) undef,defers:=[] } := by
  refine⟨by simp[hlen],fun t=>?_,rfl⟩
  rw[Tree.iR]
  by_cases ht:t<args.length
  ·rw[if_pos (by omega),Nat.sub_zero]
   obtain⟨u,hu,hv⟩:=hargs.get (n:=t) (x:=args[t]) (by simp[ht])
   rw[List.getElem?_eq_getElem ht]
   simp only[Option.getD_some]
   have:((⟨us⟩ : Array Value)++Array.replicate (fn.ntmps - (⟨us⟩ : Array Value).size) undef).getD t undef=u:=by
    rw[Array.getD_eq_getD_getElem?,Array.getElem?_append_left (by simp; omega)]
    simp[hu]
   rw[this]; exact hv
  ·rw[if_neg (by omega)]
   exact .top _
 refine(callsIn_wide (n:=0)).1 (callsIn_of_wp_marks hfn hbody trivial ?_)
 have:=UZ hP 1000 true c [] 0 _ M _ h w.heap.size none 0 [] ρ _ w (fun _=>rfl) (Nat.le_refl _) hw hA ⟨List.nodup_nil,fun _ h=>by cases h⟩
 refine wpIn_mono this fun e a w' hp=>?_
 obtain⟨x,T',M',ρ',a,Ds,rfl,rfl,_,g,k1,k2,k3,k4⟩:=hp
 have key:(∀ w',bC P ρ' M' w'→∃ vs us,(fn.results.toList.mapM (ny a.tmps)).run P w'=.ok us w'∧aR ρ' vs us∧Q9 Q M' vs) →
   LeavesInM Fence.wide 0 P fn a.tmps (fun e w'=>∃ v' v M' ρ',e=.returned v'∧After P M ρ w M' ρ' w'∧aj ρ' v v'∧Q v M') (Ds.map Bw) .returning w':=by
  intro hr
  refine DT hw.Km (fun w2 hA2=>?_) Ds w' g k1
  obtain⟨vs,us,h1,h2,h3⟩:=hr w2 hA2.rel
  have hres:(results fn a.tmps).run P w2=.ok (if h:(⟨us⟩ : Array Value).size=1 then(⟨us⟩ : Array Value)[0] else .tuple ⟨us⟩) w2:=by
   have e:results fn a.tmps=(fn.results.mapM (ny a.tmps) >>= fun vs=>pure (if h:vs.size=1 then vs[0] else .tuple vs)):=rfl
   rw[e,Array.mapM_eq_mapM_toList]
   simp only[Sem.run_bind,Sem.run_map,h1,Result.andThen_ok,Sem.run_pure]
  refine⟨_,hres, ?_⟩
  cases h2 with
  | nil=>exact⟨_,_,M',ρ',rfl,hA2,.tup _ _ .nil,h3⟩
  | cons x v xs vs2 hv htl =>
    cases htl with
    | nil=>exact⟨_,x,M',ρ',rfl,hA2,hv,h3⟩
    | cons y u ys us2 hu Vt=>exact⟨_,_,M',ρ',rfl,hA2,.tup _ _ (.cons _ _ _ _ hv (.cons _ _ _ _ hu Vt)),h3⟩
 cases x with
 | normal=>exact key fun w' hw'=>pM k2 hw' _ _ k4
 | ret=>exact key fun w' hw'=>pM k2 hw' _ _ k4
 | exit id=>exact k4.elim
def EJ (P:Program) (fn:Func) (args:List AV) (M:RM) (Q:ak) : Prop :=
 match fn.body with
 | some c=>Qs P fn c args M Q
 | none=>False
theorem Ih (hP:tT P) {f:FuncId} {fn:Func} {args:List AV} {M:RM} {Q:ak} (hfn:P.funcs[f]?=some fn) (h:EJ P fn args M Q) : iy P f args M Q:=by
 unfold EJ at h
 split at h
 ·rename_i c hc; exact IV hP hfn hc h
 ·cases h
end
end Go.Ab
set_option maxRecDepth 100000
namespace Go.Ab.Bl
open Go Go.Ab
def mo (p1 p2:au) (p3:Nat) (p4 p5 p6:au) (p7:Nat) (p8:au) (p9:Nat) (p10 p11:au) (p12:Nat) (p13 p14 p15:au) (a0 a1:AV) (M0:RM) (Q:ak) : Prop:=p1 [] M0 fun ys r=>ji ys fun yu=>az yu ( Q (Bo false) r) ( aU a0 fun yv=>af .gtr yv (N .i64 25) fun p=>ax p false (fun c=>c a1 r) (fun c=>c .undef r) fun yw G=>ax p false (fun wj=>aU yw fun yx=>wj yx G) (fun c=>c .undef G) fun yy I=>ax p false (fun wp=>af .gtr yy (N .i64 20) fun yz=>wp yz I) (fun c=>c .undef I) fun y0 V=>aV p (Bo true) y0 fun y1=>az y1 ( Q (Bo true) V) ( p2 [] V fun z v0=>aX (fun ws d w=>aU a0 fun y2=>af .lss (aa d 2) y2 fun y3=>az y3 ( ek (fun vj=>aI a0 (aa d 2) 4 fun y5=>dE w y5 4 fun y6=>aO (.row [(N .i64 0),(N .i64 0),(N .i64 0),(.sc (.slice none 0 0))] false p3 0) (fun wa=>.ptr wa 0) w fun e v5=>aS v5 e y6 4 fun s=>bT e 1 fun y7=>ag s y7 fun y8=>af .and y8 (N .i64 255) fun y9=>bT e 1 fun za=>ag s za fun zb=>af .and zb (N .i64 1) fun zc=>eD .u8 zc fun zd=>p4 [y9,zd] s fun vf vk=>p5 [vf] vk fun A t=>ek (fun j=>bT e 0 fun ze=>ag t ze fun q=>ek (fun E=>af .eql q (N .i64 0) fun vh=>az vh ( E [vh] t) ( af .eql q (N .i64 2) fun z0=>E [z0] t)) (fun z4 g=>az (aa z4 0) ( p6 [vf] g fun z1 vl=>bn p7 1 [(.sc (.slice none 0 0))] [(0,1,z1)] fun ww wb=>aO ww wb vl fun z2 vm=>appW p7 1 24 [(.sc (.slice none 0 0))] false (.sc (.slice none 0 0)) z2 vm fun C H=>aI C (N .i64 0) 1 fun z3=>ag H z3 fun w4=>p8 [w4] H fun w5 vn=>bn p9 1 [(St [])] [(0,1,w5)] fun wx wc=>aO wx wc vn fun w6 vo=>appW p9 1 16 [(St [])] false (aa d 1) w6 vo fun vc u=>bT e 0 fun w7=>ag u w7 fun w8=>af .eql w8 (N .i64 2) fun w9=>az w9 ( appW p7 1 24 [(.sc (.slice none 0 0))] false C A u fun xa vp=>j [(aa d 0),vc,xa] vp) ( j [(aa d 0),vc,C] u)) ( af .eql q (N .i64 1) fun xb=>az xb ( bT e 2 fun xc=>ag g xc fun xd=>af .geq xd (N .i64 0) fun l=>ax l true (fun wk=>bT e 2 fun xe=>wk xe g) (fun c=>c .undef g) fun xf v=>ax l true (fun wl=>ag v xf fun xg=>wl xg v) (fun c=>c .undef v) fun xh L=>ax l true (fun wm=>wm A L) (fun c=>c .undef L) fun xi O=>ax l true (fun wn=>aU xi fun xj=>wn xj O) (fun c=>c .undef O) fun xk P=>ax l true (fun wo=>af .lss xh xk fun xl=>wo xl P) (fun c=>c .undef P) fun xm o=>aV l xm (Bo false) fun xn=>az xn ( bT e 2 fun xo=>ag o xo fun xp=>aI A xp 1 fun xq=>ag o xq fun xr=>bn p7 1 [(.sc (.slice none 0 0))] [(0,1,xr)] fun wy wd=>aO wy wd o fun xs vq=>appW p7 1 24 [(.sc (.slice none 0 0))] false (.sc (.slice none 0 0)) xs vq fun xt vr=>j [(aa d 0),(aa d 1),xt] vr) ( j [(aa d 0),(aa d 1),(.sc (.slice none 0 0))] o)) ( af .eql q (N .i64 3) fun xu=>az xu ( bT e 3 fun xv=>ag g xv fun xw=>aU xw fun xx=>af .gtr xx (N .i64 1000) fun xy=>az xy ( Q (Bo true) g) ( bT e 3 fun xz=>ag g xz fun x0=>bn p7 1 [(.sc (.slice none 0 0))] [(0,1,x0)] fun wz we=>aO wz we g fun x1 vs=>appW p7 1 24 [(.sc (.slice none 0 0))] false (.sc (.slice none 0 0)) x1 vs fun x2 R=>bT e 3 fun x3=>ag R x3 fun x4=>p8 [x4] R fun x5 vt=>bn p9 1 [(St [])] [(0,1,x5)] fun w0 wf=>aO w0 wf vt fun x6 vu=>appW p9 1 16 [(St [])] false (aa d 1) x6 vu fun x7 vv=>j [(aa d 0),x7,x2] vv)) ( aX (fun wt h S=>aU (aa d 1) fun zf=>af .lss (aa h 1) zf fun B=>ax B true (fun wq=>wq (aa h 1) S) (fun c=>c .undef S) fun zg U=>ax B true (fun wr=>af .lss zg (N .i64 30) fun zh=>wr zh U) (fun c=>c .undef U) fun zi n=>aV B zi (Bo false) fun zj=>az zj ( ek (fun F=>bT e 2 fun zl=>ag n zl fun zm=>eD .u64 (aa h 1) fun zn=>iX .shr zm zn fun zo=>af .and zo (N .i64 1) fun zp=>af .eql zp (N .i64 1) fun zq=>az zq ( aI (aa d 1) (aa h 1) 1 fun zr=>ag n zr fun zs=>bn p9 1 [(St [])] [(0,1,zs)] fun w1 wg=>aO w1 wg n fun zt vw=>appW p9 1 16 [(St [])] false (aa h 0) zt vw fun zu vx=>F [zu] vx) ( F [(aa h 0)] n)) (fun z5 vy=>af .add (aa h 1) (N .i64 1) fun zk=>wt [(aa z5 0),zk] vy)) ( p10 [(aa d 0),(aa h 0)] n fun vg vz=>p11 [z,(aa h 0)] vz fun zv W=>aU (aa d 0) fun zw=>aU vg fun zx=>af .sub zw zx fun zy=>af .neq zv zy fun zz=>az zz ( Q (Bo false) W) ( j [vg,(aa d 1),(.sc (.slice none 0 0))] W))) [(.sc (.slice none 0 0)),(N .i64 0)] g))))) (fun m v1=>aX (fun wu i X=>aU (aa m 2) fun x8=>af .lss (aa i 1) x8 fun x9=>az x9 ( bn p12 0 [(N .u8 0)] [] fun w2 wh=>aO w2 wh X fun yb Y=>aI (aa m 2) (aa i 1) 1 fun yc=>ag Y yc fun yd=>appW p12 1 1 [(N .u8 0)] false yb yd Y fun y Z=>aI (aa m 2) (aa i 1) 1 fun vd=>ag Z vd fun ve=>p13 [z,y] Z fun ye va=>ag va vd fun yf=>(yf=ve∧p8 [ve] va fun yg vb=>iN .neq ye yg fun yh=>az yh ( Q (Bo false) vb) ( aX (fun wv D x=>aU y fun yi=>af .lss (aa D 0) yi fun yj=>az yj ( aI y (aa D 0) 1 fun yl=>aS x yl (N .u8 99) 1 fun v2=>af .add (aa D 0) (N .i64 1) fun yk=>wv [yk] v2) ( aI (aa m 2) (aa i 1) 1 fun ym=>ag x ym fun yn=>p14 [(aa i 0),yn] x fun yo v3=>af .add (aa i 1) (N .i64 1) fun ya=>wu [yo,ya] v3)) [(N .i64 0)] vb))) ( vj [(aa i 0),(aa m 1)] X)) [(aa m 0),(N .i64 0)] v1)) (fun vi v4=>af .add (aa d 2) (N .i64 1) fun y4=>ws [(aa vi 0),(aa vi 1),y4] v4)) ( bn p9 0 [(St [])] [] fun w3 wi=>aO w3 wi w fun yp v6=>appW p9 1 16 [(St [])] false yp (aa d 1) v6 fun yq v7=>appW p9 1 16 [(St [])] false yq a1 v7 fun yr v8=>p15 [z,(aa d 0),yr] v8 fun yt v9=>Q yt v9)) [(.sc (.slice none 0 0)),(.sc (.slice none 0 0)),(N .i64 0)] v0))
def tO (p1 p2 p3 p4 p5 p6 p7 p8:au) (p9:Nat) (p10:au) (p11:Nat) (p12 p13 p14 p15:au) (M0:RM) (Q:ak) : Prop:=p1 [(N .i64 65),(N .u8 1)] M0 fun d1 wm=>p2 [d1] wm fun r wn=>bB r 0 fun e=>bB r 1 fun s=>bB r 2 fun t=>bB r 3 fun d2=>p3 [] wn fun d I=>af .neq d2 (N .i64 0) fun G=>ax G false (fun c=>c d I) (fun c=>c .undef I) fun d3 vq=>ax G false (fun x4=>fU false 1 d3 (.sc (.pointer none)) fun d4=>x4 d4 vq) (fun c=>c .undef vq) fun d5 v4=>aV G (Bo true) d5 fun u=>ax u false (fun ya=>ya t v4) (fun c=>c .undef v4) fun d6 v8=>ax u false (fun yh=>aU d6 fun d7=>yh d7 v8) (fun c=>c .undef v8) fun d8 L=>ax u false (fun w7=>af .neq d8 (N .i64 2) fun d9=>w7 d9 L) (fun c=>c .undef L) fun e0 V=>aV u (Bo true) e0 fun j=>ax j false (fun xg=>xg t V) (fun c=>c .undef V) fun e1 vc=>ax j false (fun xn=>aI e1 (N .i64 1) 1 fun e2=>xn e2 vc) (fun c=>c .undef vc) fun e3 z=>ax j false (fun xw=>ag z e3 fun e4=>xw e4 z) (fun c=>c .undef z) fun e5 vs=>ax j false (fun x1=>aU e5 fun e6=>x1 e6 vs) (fun c=>c .undef vs) fun e7 vt=>ax j false (fun x2=>af .neq e7 (N .i64 1) fun e8=>x2 e8 vt) (fun c=>c .undef vt) fun e9 vu=>aV j (Bo true) e9 fun v=>ax v false (fun x3=>x3 s vu) (fun c=>c .undef vu) fun g0 vv=>ax v false (fun x5=>aU g0 fun g1=>x5 g1 vv) (fun c=>c .undef vv) fun g2 vw=>ax v false (fun x6=>af .neq g2 (N .i64 65) fun g3=>x6 g3 vw) (fun c=>c .undef vw) fun g4 vx=>aV v (Bo true) g4 fun w=>ax w false (fun x7=>x7 e vx) (fun c=>c .undef vx) fun g5 vy=>ax w false (fun x8=>vO g5 fun g6=>x8 g6 vy) (fun c=>c .undef vy) fun g7 vz=>ax w false (fun x9=>af .neq g7 (N .i64 64) fun g8=>x9 g8 vz) (fun c=>c .undef vz) fun g9 v0=>aV w (Bo true) g9 fun h0=>az h0 ( Q (Bo false) v0) ( p4 [d,e] v0 fun wj ws=>p5 [d,s] ws fun h1 v1=>iN .neq h1 e fun h2=>az h2 ( Q (Bo false) v1) ( p4 [d,e] v1 fun h3 v2=>aI t (N .i64 0) 1 fun h4=>ag v2 h4 fun h5=>p5 [d,h5] v2 fun n7 v3=>aI t (N .i64 1) 1 fun h6=>ag v3 h6 fun h7=>p5 [d,h7] v3 fun n8 wt=>p6 [d,e] wt fun wk wu=>bB wk 0 fun h8=>bB wk 1 fun h9=>p7 [d,e] wu fun wl wv=>bB wl 0 fun i0=>bB wl 1 fun i1=>p8 [s] wv fun H ww=>bB H 0 fun i2=>bB H 1 fun i3=>bB H 2 fun i4=>bn p9 5 [(N .u8 0)] [(0,1,(N .u8 111)),(1,1,(N .u8 116)),(2,1,(N .u8 104)),(3,1,(N .u8 101)),(4,1,(N .u8 114))] fun yo w2=>aO yo w2 ww fun i5 wx=>Rk i5 wx fun i6 wy=>p10 [i6] wy fun i7 wz=>bn p11 2 [(St [])] [(0,1,e),(1,1,i7)] fun yp w3=>aO yp w3 wz fun i8 w0=>p12 [d,i8] w0 fun i9 w1=>p13 [d,(.sc (.slice none 0 0))] w1 fun yq v5=>aU wj fun yr=>af .eql yr (N .i64 1) fun h=>aA h true (fun yb=>yb wj v5 none) (fun c=>c .undef v5 none) fun ys v6 j0=>aA h true (fun yc=>aI ys (N .i64 0) 1 fun yt=>yc yt v6 none) (fun c=>c .undef v6 none) fun yu A m7=>aA h true (fun yd=>ag A yu fun yv=>yd yv A none) (fun c=>c .undef A none) fun yw v7 m8=>aA h true (fun ye=>ye e v7 none) (fun c=>c .undef v7 none) fun yx v9 m9=>aA h true (fun yf=>iN .eql yw yx fun yy=>yf yy v9 none) (fun c=>c .undef v9 none) fun yz wa n0=>aV h yz (Bo false) fun n=>aA n true (fun yg=>yg h3 wa none) (fun c=>c .undef wa none) fun y0 wb n1=>aA n true (fun yi=>aU y0 fun y1=>yi y1 wb none) (fun c=>c .undef wb none) fun y2 wc n2=>aA n true (fun yj=>af .eql y2 (N .i64 2) fun y3=>yj y3 wc none) (fun c=>c .undef wc none) fun y4 wd n3=>aV n y4 (Bo false) fun C=>aA C true (fun yk=>yk h9 wd none) (fun c=>c .undef wd none) fun y5 we n4=>aA C true (fun yl=>af .eql y5 (N .i64 0) fun y6=>yl y6 we none) (fun c=>c .undef we none) fun y7 wf n5=>aV C y7 (Bo false) fun g=>aA g true (fun ym=>ym h8 wf none) (fun c=>c .undef wf none) fun wg B n6=>aA g true (fun yn=>iC B wg fun y8=>yn y8 B none) (fun c=>c .undef B none) fun wh O j1=>ax g true (fun w4=>p1 [(N .i64 65),(N .u8 1)] O fun za wo=>w4 za wo) (fun c=>c .undef O) fun zb m=>DF g true (fun w5=>iC m wg fun y9=>(y9=wh∧w5)) (fun c=>c) (aA g true (fun w6=>iC m zb fun zc=>w6 zc m none) (fun c=>c .undef m none) fun zd P j2=>aA g true (fun w8=>iN .eql wh zd fun ze=>w8 ze P none) (fun c=>c .undef P none) fun zf R j3=>aV g zf (Bo false) fun wi=>aA wi true (fun w9=>w9 i1 R none) (fun c=>c .undef R none) fun zg S j4=>aV wi zg (Bo false) fun i=>aA i true (fun xa=>xa i0 S none) (fun c=>c .undef S none) fun zh x j5=>aA i true (fun xb=>iC x zh fun zi=>xb zi x none) (fun c=>c .undef x none) fun zj U j6=>aA i true (fun xc=>xc s U none) (fun c=>c .undef U none) fun zk y j7=>aA i true (fun xd=>iC y zk fun zl=>xd zl y none) (fun c=>c .undef y none) fun zm W j8=>aA i true (fun xe=>iN .eql zj zm fun zn=>xe zn W none) (fun c=>c .undef W none) fun zo X j9=>aV i zo (Bo false) fun D=>aA D true (fun xf=>xf i4 X none) (fun c=>c .undef X none) fun zp Y l0=>aA D true (fun xh=>af .eql zp (N .i64 0) fun zq=>xh zq Y none) (fun c=>c .undef Y none) fun zr Z l1=>aV D zr (Bo false) fun E=>aA E true (fun xi=>xi i2 Z none) (fun c=>c .undef Z none) fun zs va l2=>aA E true (fun xj=>af .eql zs (N .i64 65) fun zt=>xj zt va none) (fun c=>c .undef va none) fun zu vb l3=>aV E zu (Bo false) fun o=>aA o true (fun xk=>xk i3 vb none) (fun c=>c .undef vb none) fun zv vd l4=>aA o true (fun xl=>aU zv fun zw=>xl zw vd none) (fun c=>c .undef vd none) fun zx ve l5=>aA o true (fun xm=>af .eql zx (N .i64 2) fun zy=>xm zy ve none) (fun c=>c .undef ve none) fun zz vf l6=>aV o zz (Bo false) fun p=>aA p true (fun xo=>xo i9 vf none) (fun c=>c .undef vf none) fun z0 vg l7=>aA p true (fun xp=>aU z0 fun z1=>xp z1 vg none) (fun c=>c .undef vg none) fun z2 vh l8=>aA p true (fun xq=>af .eql z2 (N .i64 1) fun z3=>xq z3 vh none) (fun c=>c .undef vh none) fun z4 vi l9=>aV p z4 (Bo false) fun F=>aA F true (fun xr=>xr yq vi none) (fun c=>c .undef vi none) fun z5 vj m0=>aA F true (fun xs=>af .eql z5 (N .i64 3) fun z6=>xs z6 vj none) (fun c=>c .undef vj none) fun z7 vk m1=>aV F z7 (Bo false) fun l=>aA l true (fun xt=>xt d vk none) (fun c=>c .undef vk none) fun z8 vl m2=>ax l true (fun xu=>p14 [z8] vl fun z9 wp=>xu z9 wp) (fun c=>c .undef vl) fun c0 vm=>aA l true (fun xv=>aU c0 fun c1=>xv c1 vm none) (fun c=>c .undef vm none) fun c2 vn m3=>aA l true (fun xx=>af .eql c2 (N .i64 0) fun c3=>xx c3 vn none) (fun c=>c .undef vn none) fun c4 vo m4=>aV l c4 (Bo false) fun q=>aA q true (fun xy=>xy d vo none) (fun c=>c .undef vo none) fun c5 vp m5=>ax q true (fun xz=>p15 [c5] vp fun c6 wq=>xz c6 wq) (fun c=>c .undef vp) fun c7 vr=>aA q true (fun x0=>af .eql c7 (N .i64 0) fun c8=>x0 c8 vr none) (fun c=>c .undef vr none) fun c9 wr m6=>aV q c9 (Bo false) fun d0=>Q d0 wr)))
def rF (p1:au) (p2 p3:Nat) (p4 p5:au) (rc:(FuncId→Prop)) (p6:au) (p7 p8:Nat) (p9:au) (a0:AV) (M0:RM) (Q:ak) : Prop:=aU a0 fun H=>af .gtr H (N .i64 4096) fun I=>az I ( Q (.tup [(St []),(.sc (.slice none 0 0)),(.sc (.slice none 0 0)),(N .i64 2)]) M0) ( aU a0 fun L=>eD .u64 L fun O=>p1 [(.sc (.slice none 0 0)),O] M0 fun P r=>aO (.row [(.sc (.slice none 0 0))] false p2 0) (fun c=>.ptr c 0) r fun d s=>aS s d P 1 fun t=>aO (.row [(.sc (.slice none 0 0))] false p3 0) (fun c=>.ptr c 0) t fun e z=>p4 [a0] z fun R A=>p5 [R,(N .i64 64)] A fun S B=>Eb rc S B (fun q j F=>ag j e fun m=>p4 [q] j fun V l=>ag l e fun U=>(U=m∧bn p2 1 [(.sc (.slice none 0 0))] [(0,1,V)] fun G E=>uS G E l fun W C c=>appW p2 1 24 [(.sc (.slice none 0 0))] false m W C fun X D=>aS D e X 1 fun u=>p6 [q] u fun Y v=>aO (.row [(N .u8 0),(N .u8 0),(N .u8 0),(N .u8 0),(N .u8 0),(N .u8 0),(N .u8 0),(N .u8 0),(N .u8 0),(N .u8 0),(N .u8 0),(N .u8 0),(N .u8 0),(N .u8 0),(N .u8 0),(N .u8 0),(N .u8 0),(N .u8 0),(N .u8 0),(N .u8 0),(N .u8 0),(N .u8 0),(N .u8 0),(N .u8 0),(N .u8 0),(N .u8 0),(N .u8 0),(N .u8 0),(N .u8 0),(N .u8 0),(N .u8 0),(N .u8 0)] false p7 0) (fun c=>.ptr c 0) v fun p w=>aS w p Y 32 fun i=>ag i d fun Z=>gQ (BI 32 1 p none none) fun va=>appW p8 1 1 [(N .u8 0)] false Z va i fun vb x=>aS x d vb 1 fun y=>F y)) (fun g=>ag g d fun vc=>ag g d fun n=>ag g e fun o=>p9 [vc] g fun vd h=>ag h d fun ve=>(ve=n∧ag h e fun vf=>(vf=o∧Q (.tup [vd,n,o,(N .i64 0)]) h))))
def nZ (p1 p2 p3 p4 p5:au) (p6:Nat) (p7:au) (rc:(FuncId→Prop)) (p8:au) (p9:Nat) (a0:AV) (M0:RM) (Q:ak) : Prop:=p1 [a0] M0 fun e v=>p2 [e,(N .i64 4096)] v fun t w=>p3 [e] w fun S i=>af .neq S (N .i64 0) fun d=>ax d false (fun c=>c e i) (fun c=>c .undef i) fun U n=>ax d false (fun I=>p4 [U] n fun V E=>I V E) (fun c=>c .undef n) fun W q=>ax d false (fun L=>L t q) (fun c=>c .undef q) fun X r=>ax d false (fun O=>p5 [X] r fun Y x=>O Y x) (fun c=>c .undef r) fun Z j=>ax d false (fun G=>af .mul Z (N .i64 32) fun va=>G va j) (fun c=>c .undef j) fun vb l=>ax d false (fun H=>af .neq W vb fun vc=>H vc l) (fun c=>c .undef l) fun vd m=>aV d (Bo true) vd fun ve=>az ve ( Q (.tup [(N .i64 0),(.sc (.slice none 0 0)),(N .i64 14)]) m) ( aO (.row [(.sc (.slice none 0 0))] false p6 0) (fun s=>.ptr s 0) m fun g y=>aU a0 fun vf=>p4 [e] y fun vg z=>af .sub vf vg fun vh=>gQ (bK 1 a0 (some vh) none none) fun vi=>p7 [vi,(N .i64 32)] z fun vj A=>Eb rc vj A (fun vr h P=>ag h g fun u=>Oo 32 vr fun vl=>dE h vl 32 fun vm=>p8 [vm] h fun vn p=>ag p g fun vk=>(vk=u∧bn p9 1 [(St [])] [(0,1,vn)] fun R F=>uS R F p fun vo B s=>appW p9 1 16 [(St [])] false u vo B fun vp C=>aS C g vp 1 fun D=>P D)) (fun o=>ag o g fun vq=>Q (.tup [t,vq,(N .i64 0)]) o))
def yL (p1:Nat) (M0:RM) (Q:ak) : Prop:=aO (.map [] 0) (fun e=>.map e) M0 fun i c=>jG [(.sc (.map none))] [(0,1,i)] fun j=>mO p1 j fun h g=>aO h g c fun l d=>Q l d
def lW (p1:Nat) (p2:au) (p3:Nat) (p4:au) (p5:Nat) (a0 a1:AV) (M0:RM) (Q:ak) : Prop:=mO p1 a0 fun s q=>aO s q M0 fun g e=>ag e g fun t=>fF t fun u=>bT u 0 fun v=>ag e v fun w=>jf false [2] (.sc (.slice none 0 0)) true e w a1 fun m=>bB m 0 fun x=>bB m 1 fun y=>ji y fun z=>az z ( Q (.tup [(.sc (.slice none 0 0)),(N .i64 4)]) e) ( p2 [x] e fun h j=>bB h 0 fun A=>bB h 1 fun i=>bB h 2 fun n=>af .neq n (N .i64 0) fun B=>az B ( Q (.tup [(.sc (.slice none 0 0)),n]) j) ( p4 [i,(.fn (.func p3) [] [g])] j fun C l=>az C ( Q (.tup [(.sc (.slice none 0 0)),(N .i64 4)]) l) ( aU i fun D=>aX (fun r d c=>af .lss (aa d 1) D fun E=>az E ( aI i (aa d 1) 1 fun F=>ag c F fun G=>ag c g fun H=>fF H fun I=>bT I 0 fun L=>ag c L fun O=>jf false [2] (.sc (.slice none 0 0)) false c O G fun o=>aU o fun P=>aU (aa d 0) fun R=>af .sub A R fun S=>Gj false (N .i64 64) S fun U=>af .neq P U fun V=>az V ( Q (.tup [(.sc (.slice none 0 0)),(N .i64 14)]) c) ( appW p5 1 1 [(N .u8 0)] false (aa d 0) o c fun W p=>af .add (aa d 1) (N .i64 1) fun X=>r [W,X] p)) ( Q (.tup [(aa d 0),(N .i64 0)]) c)) [(.sc (.slice none 0 0)),(N .i64 0)] l)))
def qX (p1:Nat) (a0:AV) (M0:RM) (Q:ak) : Prop:=qm p1 24 [(.sc (.slice none 0 0))] (N .i64 0) (N .i64 0) fun r n=>aO r n M0 fun C g=>aX (fun q c d=>aU (aa c 0) fun D=>af .gtr D (N .i64 64) fun E=>az E ( gQ (bK 1 (aa c 0) none (some (N .i64 64)) none) fun u=>bn p1 1 [(.sc (.slice none 0 0))] [(0,1,u)] fun s o=>aO s o d fun v i=>appW p1 1 24 [(.sc (.slice none 0 0))] false (aa c 1) v i fun w j=>gQ (bK 1 (aa c 0) (some (N .i64 64)) none none) fun x=>q [x,w] j) ( ek (fun e=>aU (aa c 0) fun y=>af .gtr y (N .i64 0) fun z=>az z ( bn p1 1 [(.sc (.slice none 0 0))] [(0,1,(aa c 0))] fun t p=>aO t p d fun A l=>appW p1 1 24 [(.sc (.slice none 0 0))] false (aa c 1) A l fun B m=>e [B] m) ( e [(aa c 1)] d)) (fun F h=>Q (aa F 0) h))) [a0,C] g
def oK (p1 p2 p3:au) (p4 p5:Nat) (a0:AV) (M0:RM) (Q:ak) : Prop:=aU a0 fun z=>eD .u64 z fun A=>p1 [A] M0 fun q h=>p2 [a0] h fun e i=>aX (fun p c d=>aU e fun r=>af .lss (aa c 1) r fun s=>az s ( aI e (aa c 1) 1 fun u=>ag d u fun v=>p3 [v] d fun w j=>aO (.row [(N .u8 0),(N .u8 0),(N .u8 0),(N .u8 0),(N .u8 0),(N .u8 0),(N .u8 0),(N .u8 0),(N .u8 0),(N .u8 0),(N .u8 0),(N .u8 0),(N .u8 0),(N .u8 0),(N .u8 0),(N .u8 0),(N .u8 0),(N .u8 0),(N .u8 0),(N .u8 0),(N .u8 0),(N .u8 0),(N .u8 0),(N .u8 0),(N .u8 0),(N .u8 0),(N .u8 0),(N .u8 0),(N .u8 0),(N .u8 0),(N .u8 0),(N .u8 0)] false p4 0) (fun o=>.ptr o 0) j fun g l=>aS l g w 32 fun m=>gQ (BI 32 1 g none none) fun x=>appW p5 1 1 [(N .u8 0)] false (aa c 0) x m fun y n=>af .add (aa c 1) (N .i64 1) fun t=>p [y,t] n) ( Q (aa c 0) d)) [q,(N .i64 0)] i
def tu (p1:Nat) (a0 a1:AV) (M0:RM) (Q:ak) : Prop:=qm p1 1 [(N .u8 0)] a0 a0 fun l i=>aO l i M0 fun e g=>aX (fun j c d=>af .lss (aa c 0) a0 fun m=>az m ( af .mul (aa c 0) (N .i64 7) fun o=>eD .u8 o fun p=>af .add a1 p fun q=>aI e (aa c 0) 1 fun r=>aS d r q 1 fun h=>af .add (aa c 0) (N .i64 1) fun n=>j [n] h) ( Q e d)) [(N .i64 0)] g
def vQ (p1 p2:au) (p3 p4:Nat) (a0 a1:AV) (M0:RM) (Q:ak) : Prop:=aX (fun B c i=>aU a1 fun H=>af .lss (aa c 1) H fun I=>az I ( ek (fun h=>aI a1 (aa c 1) 1 fun O=>ag i O fun P=>p1 [a0,P] i fun p j=>af .lss p (N .i64 0) fun R=>az R ( h [(aa c 0)] j) ( aI a0 p 2 fun S=>bT S 1 fun U=>ag j U fun V=>p2 [V] j fun m l=>bB m 0 fun vw=>bB m 1 fun W=>bB m 2 fun X=>az X ( aI a1 (aa c 1) 1 fun Y=>ag l Y fun Z=>bn p3 1 [(St [])] [(0,1,Z)] fun E y=>aO E y l fun va r=>appW p3 1 16 [(St [])] false (aa c 0) va r fun vb u=>appW p3 1 16 [(St [])] false vb W u fun vc v=>h [vc] v) ( h [(aa c 0)] l))) (fun vv w=>af .add (aa c 1) (N .i64 1) fun L=>B [(aa vv 0),L] w)) ( qm p4 40 [(St []),(.sc (.slice none 0 0))] (N .i64 0) (N .i64 0) fun G A=>aO G A i fun vd x=>aX (fun C e o=>aU a0 fun ve=>af .lss (aa e 1) ve fun vf=>az vf ( ek (fun n=>aX (fun D g d=>aU (aa c 0) fun vh=>af .lss (aa g 1) vh fun vi=>az vi ( aI (aa c 0) (aa g 1) 1 fun vk=>ag d vk fun vl=>aI a0 (aa e 1) 2 fun vm=>bT vm 0 fun vn=>ag d vn fun vo=>iN .eql vl vo fun vp=>az vp ( aI a0 (aa e 1) 2 fun vq=>dE d vq 2 fun vr=>bn p4 1 [(St []),(.sc (.slice none 0 0))] [(0,2,vr)] fun F z=>aO F z d fun vs q=>appW p4 2 40 [(St []),(.sc (.slice none 0 0))] false (aa g 0) vs q fun vt s=>n [vt] s) ( af .add (aa g 1) (N .i64 1) fun vj=>D [(aa g 0),vj] d)) ( n [(aa g 0)] d)) [(aa e 0),(N .i64 0)] o) (fun vu t=>af .add (aa e 1) (N .i64 1) fun vg=>C [(aa vu 0),vg] t)) ( Q (aa e 0) o)) [vd,(N .i64 0)] x)) [(.sc (.slice none 0 0)),(N .i64 0)] M0
def mP (p1:au) (a0 a1:AV) (M0:RM) (Q:ak) : Prop:=aO (.map [] 0) (fun C=>.map C) M0 fun g v=>aU a1 fun G=>aX (fun E n c=>af .lss (aa n 0) G fun H=>az H ( aI a1 (aa n 0) 1 fun I=>ag c I fun j=>fF a0 fun L=>bT L 0 fun O=>ag c O fun P=>jf false [2] (.sc (.slice none 0 0)) false c P j fun R=>p1 [R] c fun l h=>bB l 0 fun vq=>bB l 1 fun s=>bB l 2 fun S=>jf false [2] (Bo false) false h g j fun m=>ax m false (fun e=>e S h) (fun e=>e .undef h) fun U q=>ax m false (fun D=>af .eql U (N .i64 0) fun V=>D V q) (fun e=>e .undef q) fun W A=>aV m (Bo true) W fun X=>nk false [2] A g j X fun B=>aU s fun Y=>aX (fun F p i=>af .lss (aa p 0) Y fun Z=>az Z ( aI s (aa p 0) 1 fun va=>ag i va fun vb=>nk false [2] i g vb (Bo true) fun w=>af .add (aa p 0) (N .i64 1) fun vc=>F [vc] w) ( af .add (aa n 0) (N .i64 1) fun vd=>E [vd] i)) [(N .i64 0)] B) ( fF a0 fun ve=>bT ve 0 fun vf=>ag c vf fun vg=>E8 vg c fun t x=>aX (fun r o y=>IG t y fun vh d=>bB vh 0 fun vi=>az vi ( OT d t fun vj=>bB vj 0 fun u=>jf false [2] (Bo false) false d g u fun vk=>ji vk fun vl=>az vl ( fF a0 fun vm=>bT vm 0 fun vn=>ag d vn fun vo=>J9 false [2] d vo u fun vr z=>af .add (aa o 0) (N .i64 1) fun vp=>r [vp] z) ( r [(aa o 0)] d)) ( Q (aa o 0) d)) [(N .i64 0)] x)) [(N .i64 0)] v
def nH (p1 p2 p3:au) (a0 a1:AV) (M0:RM) (Q:ak) : Prop:=p1 [a1] M0 fun d j=>ek (fun e=>p2 [a0,d] j fun n c=>ji n fun o=>az o ( fF a0 fun p=>bT p 0 fun h=>ag c h fun i=>p3 [a1] c fun r g=>ag g h fun q=>(q=i∧nk false [2] g i d r fun l=>e [] l)) ( e [] c)) (fun s m=>Q d m)
def zB (p1:au) (p2 p3:Nat) (p4:au) (a0 a1:AV) (M0:RM) (Q:ak) : Prop:=p1 [a1] M0 fun v8 z=>bn p2 0 [(N .u8 0)] [] fun Z H=>aO Z H z fun v9 A=>appW p2 1 1 [(N .u8 0)] false v9 a1 A fun vd B=>jG [(St []),(.sc (.slice none 0 0))] [(0,1,v8),(1,1,vd)] fun ve=>aO (.row [(St []),(.sc (.slice none 0 0))] false p3 0) (fun x=>.ptr x 0) B fun g C=>aS C g ve 2 fun q=>bT g 0 fun vf=>ag q vf fun vg=>p4 [a0,vg] q fun vh t=>af .geq vh (N .i64 0) fun vi=>az vi ( Q a0 t) ( aX (fun Y e u=>aU a0 fun vj=>af .lss (aa e 0) vj fun d=>aA d true (fun c=>c a0 u none) (fun c=>c .undef u none) fun vk v x=>aA d true (fun X=>X (aa e 0) v none) (fun c=>c .undef v none) fun vl w wh=>aA d true (fun P=>aI vk vl 2 fun vm=>P vm w none) (fun c=>c .undef w none) fun vn n wa=>aA d true (fun R=>bT vn 0 fun vo=>R vo n none) (fun c=>c .undef n none) fun vp h wb=>aA d true (fun S=>ag h vp fun vq=>S vq h none) (fun c=>c .undef h none) fun vr o wc=>aA d true (fun U=>bT g 0 fun vs=>U vs o none) (fun c=>c .undef o none) fun vt i wd=>aA d true (fun V=>ag i vt fun vu=>V vu i none) (fun c=>c .undef i none) fun vv p we=>aA d true (fun W=>iN .lss vr vv fun vw=>W vw p none) (fun c=>c .undef p none) fun vx r wf=>aV d vx (Bo false) fun vy=>az vy ( af .add (aa e 0) (N .i64 1) fun vz=>Y [vz] r) ( bn p3 0 [(St []),(.sc (.slice none 0 0))] [] fun va I=>uS va I r fun v0 s wg=>gQ (bK 2 a0 none (some (aa e 0)) none) fun v1=>dE s g 2 fun l=>bn p3 1 [(St []),(.sc (.slice none 0 0))] [(0,2,l)] fun vb L=>uS vb L s fun y D G=>gQ (bK 2 a0 (some (aa e 0)) none none) fun m=>appW p3 2 40 [(St []),(.sc (.slice none 0 0))] false v0 v1 D fun v2 j=>dE j g 2 fun v3=>(v3=l∧bn p3 1 [(St []),(.sc (.slice none 0 0))] [(0,2,l)] fun vc O=>(Mg G j vc O y∧gQ (bK 2 a0 (some (aa e 0)) none none) fun v6=>(v6=m∧appW p3 2 40 [(St []),(.sc (.slice none 0 0))] false v2 y j fun v4 E=>gQ (bK 2 a0 (some (aa e 0)) none none) fun v5=>(v5=m∧appW p3 2 40 [(St []),(.sc (.slice none 0 0))] false v4 m E fun v7 F=>Q v7 F)))))) [(N .i64 0)] t)
def tJ (p1 p2 p3 p4 p5 p6 p7 p8 p9 p10 p11:au) (a0 a1 a2:AV) (M0:RM) (Q:ak) : Prop:=p1 [a0] M0 fun wa D=>aU wa fun zq=>aU a1 fun zr=>af .neq zq zr fun zs=>az zs ( Q (Bo false) D) ( aX (fun xw h p=>aU a1 fun zt=>af .lss (aa h 1) zt fun zu=>az zu ( aI a1 (aa h 1) 2 fun zw=>bT zw 0 fun zx=>ag p zx fun zy=>p2 [a0,zy] p fun wb n=>bB wb 0 fun A=>bB wb 1 fun zz=>aI wa (aa h 1) 1 fun z0=>ag n z0 fun z1=>aI a1 (aa h 1) 2 fun z2=>bT z2 0 fun z3=>ag n z3 fun z4=>iN .neq z1 z4 fun B=>aA B false (fun c=>c zz n none) (fun c=>c .undef n none) fun z5 vh g7=>aA B false (fun xc=>ji z5 fun z6=>xc z6 vh none) (fun c=>c .undef vh none) fun z7 vo j6=>aV B (Bo true) z7 fun e=>aA e false (fun xn=>xn A vo none) (fun c=>c .undef vo none) fun z8 y l1=>aA e false (fun wj=>iC y z8 fun z9=>wj z9 y none) (fun c=>c .undef y none) fun c0 O h6=>aA e false (fun wv=>wv a1 O none) (fun c=>c .undef O none) fun c1 Y i6=>aA e false (fun w4=>w4 (aa h 1) Y none) (fun c=>c .undef Y none) fun c2 vf j0=>aA e false (fun w9=>aI c1 c2 2 fun c3=>w9 c3 vf none) (fun c=>c .undef vf none) fun c4 vi j1=>aA e false (fun xa=>bT c4 1 fun c5=>xa c5 vi none) (fun c=>c .undef vi none) fun c6 t j2=>aA e false (fun xb=>ag t c6 fun c7=>xb c7 t none) (fun c=>c .undef t none) fun c8 u j3=>aA e false (fun xd=>iC u c8 fun c9=>xd c9 u none) (fun c=>c .undef u none) fun d0 vj j4=>aA e false (fun xe=>iN .neq c0 d0 fun d1=>xe d1 vj none) (fun c=>c .undef vj none) fun d2 v j5=>aV e (Bo true) d2 fun d3=>az d3 ( Q (Bo false) v) ( aI a1 (aa h 1) 2 fun d4=>bT d4 1 fun d5=>ag v d5 fun d6=>aU d6 fun d7=>af .add (aa h 0) d7 fun d8=>aX (fun xx C vk=>aU A fun d9=>af .lss (aa C 0) d9 fun e0=>az e0 ( aI A (aa C 0) 1 fun e2=>aS vk e2 (N .u8 99) 1 fun wf=>af .add (aa C 0) (N .i64 1) fun e1=>xx [e1] wf) ( af .add (aa h 1) (N .i64 1) fun zv=>xw [d8,zv] vk)) [(N .i64 0)] v)) ( p3 [a0] p fun e3 vl=>af .neq e3 (aa h 0) fun g=>ax g false (fun xf=>xf a0 vl) (fun c=>c .undef vl) fun e4 vm=>ax g false (fun xg=>xg a2 vm) (fun c=>c .undef vm) fun e5 vn=>ax g false (fun xh=>p4 [e4,e5] vn fun e6 wg=>xh e6 wg) (fun c=>c .undef vn) fun e7 vp=>ax g false (fun xi=>xi a1 vp) (fun c=>c .undef vp) fun e8 vq=>ax g false (fun xj=>xj a2 vq) (fun c=>c .undef vq) fun e9 vr=>ax g false (fun xk=>p5 [e8,e9] vr fun g0 wh=>xk g0 wh) (fun c=>c .undef vr) fun g1 vs=>ax g false (fun xl=>p6 [e7,g1] vs fun g2 wi=>xl g2 wi) (fun c=>c .undef vs) fun g3 vt=>ax g false (fun xm=>ji g3 fun g4=>xm g4 vt) (fun c=>c .undef vt) fun g5 vu=>aV g (Bo true) g5 fun g6=>az g6 ( Q (Bo false) vu) ( aX (fun xy i w=>aU a2 fun xz=>af .lss (aa i 0) xz fun x0=>az x0 ( aI a2 (aa i 0) 1 fun x2=>ag w x2 fun x3=>p7 [a0,x3] w fun v4 vv=>bB v4 0 fun x4=>bB v4 1 fun x5=>aI a2 (aa i 0) 1 fun x6=>ag vv x6 fun x7=>p8 [a1,x7] vv fun v5 vw=>bB v5 0 fun x8=>bB v5 1 fun x9=>aI a2 (aa i 0) 1 fun ya=>ag vw ya fun yb=>p2 [a0,yb] vw fun v6 vx=>bB v6 0 fun yc=>bB v6 1 fun v7=>aI a2 (aa i 0) 1 fun yd=>ag vx yd fun ye=>p9 [a1,ye] vx fun yf vy=>af .neq x5 x9 fun j=>aA j false (fun xo=>xo x4 vy none) (fun c=>c .undef vy none) fun yg x j7=>aA j false (fun xp=>iC x yg fun yh=>xp yh x none) (fun c=>c .undef x none) fun yi vz j8=>aA j false (fun xq=>xq x8 vz none) (fun c=>c .undef vz none) fun yj z j9=>aA j false (fun xr=>iC z yj fun yk=>xr yk z none) (fun c=>c .undef z none) fun yl v0 l0=>aA j false (fun xs=>iN .neq yi yl fun ym=>xs ym v0 none) (fun c=>c .undef v0 none) fun yn v1 l2=>aV j (Bo true) yn fun l=>aA l false (fun xt=>xt v7 v1 none) (fun c=>c .undef v1 none) fun yo v2 l3=>aA l false (fun xu=>xu yf v2 none) (fun c=>c .undef v2 none) fun yp v3 l4=>aA l false (fun xv=>af .geq yp (N .i64 0) fun yq=>xv yq v3 none) (fun c=>c .undef v3 none) fun yr E g8=>aA l false (fun wk=>uL true yo yr fun ys=>wk ys E none) (fun c=>c .undef E none) fun yt F g9=>aV l (Bo true) yt fun m=>aA m false (fun wl=>wl v7 F none) (fun c=>c .undef F none) fun yu G h0=>aA m false (fun wm=>ji yu fun yv=>wm yv G none) (fun c=>c .undef G none) fun yw H h1=>aA m false (fun wn=>wn yw H none) (fun c=>c .undef H none) fun o I h2=>aA o true (fun wo=>wo yc I none) (fun c=>c .undef I none) fun yx L h3=>aA o true (fun wp=>aU yx fun yy=>wp yy L none) (fun c=>c .undef L none) fun yz P h4=>aA o true (fun wq=>af .neq yz (N .i64 0) fun y0=>wq y0 P none) (fun c=>c .undef P none) fun y1 R h5=>aA m false (fun wr=>aV o y1 (Bo false) fun y2=>wr y2 R none) (fun c=>c .undef R none) fun y3 S h7=>aV m (Bo true) y3 fun d=>aA d false (fun ws=>ws a0 S none) (fun c=>c .undef S none) fun y4 U h8=>aA d false (fun wt=>wt a2 U none) (fun c=>c .undef U none) fun y5 V h9=>aA d false (fun wu=>wu (aa i 0) V none) (fun c=>c .undef V none) fun y6 W i0=>aA d false (fun ww=>aI y5 y6 1 fun y7=>ww y7 W none) (fun c=>c .undef W none) fun y8 q i1=>aA d false (fun wx=>ag q y8 fun y9=>wx y9 q none) (fun c=>c .undef q none) fun za X i2=>aA d false (fun wy=>wy a1 X none) (fun c=>c .undef X none) fun zd Z i3=>aA d false (fun wz=>wz a2 Z none) (fun c=>c .undef Z none) fun ze va i4=>aA d false (fun w0=>w0 (aa i 0) va none) (fun c=>c .undef va none) fun zf vb i5=>aA d false (fun w1=>aI ze zf 1 fun zg=>w1 zg vb none) (fun c=>c .undef vb none) fun v8 r i7=>aA d false (fun w2=>ag r v8 fun zh=>w2 zh r none) (fun c=>c .undef r none) fun v9 vc i8=>ax d false (fun w3=>p10 [y4,za] vc fun zb wc=>w3 zb wc) (fun c=>c .undef vc) fun zc s=>DF d false (fun w5=>ag s v8 fun zi=>(zi=v9∧w5)) (fun c=>c) (ax d false (fun w6=>p11 [zd,v9] s fun zj wd=>w6 zj wd) (fun c=>c .undef s) fun zk vd=>ax d false (fun w7=>p6 [zc,zk] vd fun zl we=>w7 zl we) (fun c=>c .undef vd) fun zm ve=>aA d false (fun w8=>ji zm fun zn=>w8 zn ve none) (fun c=>c .undef ve none) fun zo vg i9=>aV d (Bo true) zo fun zp=>az zp ( Q (Bo false) vg) ( af .add (aa i 0) (N .i64 1) fun x1=>xy [x1] vg))) ( Q (Bo true) w)) [(N .i64 0)] vu))) [(N .i64 0),(N .i64 0)] D)
def kV (p1:Nat) (p2 p3:au) (a0 a1:AV) (M0:RM) (Q:ak) : Prop:=fF a0 fun l=>bT l 0 fun m=>ag M0 m fun n=>jf false [2] (.sc (.slice none 0 0)) true M0 n a1 fun d=>bB d 0 fun o=>bB d 1 fun p=>ji p fun q=>az q ( bn p1 1 [(St [])] [(0,1,a1)] fun j i=>aO j i M0 fun r e=>Q r e) ( p2 [o] M0 fun c g=>bB c 0 fun u=>bB c 1 fun s=>bB c 2 fun v=>p3 [a0,s] g fun t h=>Q t h)
def nJ (p1:au) (a0 a1:AV) (M0:RM) (Q:ak) : Prop:=fF a0 fun e=>bT e 0 fun g=>ag M0 g fun h=>jf false [2] (.sc (.slice none 0 0)) true M0 h a1 fun c=>bB c 0 fun i=>bB c 1 fun j=>p1 [i] M0 fun l d=>Q (.tup [l,j]) d
def mE (p1 p2:au) (p3:Nat) (a0 a1:AV) (M0:RM) (Q:ak) : Prop:=p1 [a0,a1] M0 fun e c=>p2 [e,(.fn (.func p3) [] [])] c fun g d=>Q g d
def lX (p1 p2:au) (a0:AV) (M0:RM) (Q:ak) : Prop:=fF a0 fun e=>bT e 0 fun g=>ag M0 g fun h=>p1 [h] M0 fun i c=>p2 [i] c fun j d=>Q j d
def lZ (a0:AV) (M0:RM) (Q:ak) : Prop:=fF a0 fun q=>bT q 0 fun r=>ag M0 r fun s=>E8 s M0 fun d g=>aX (fun i e h=>IG d h fun j c=>bB j 0 fun l=>az l ( OT c d fun m=>bB m 1 fun n=>aU n fun o=>af .add (aa e 0) o fun p=>i [p] c) ( Q (aa e 0) c)) [(N .i64 0)] g
def vG (p1 p2 p3 p4:Nat) (a0 a1:AV) (M0:RM) (Q:ak) : Prop:=mO p1 a0 fun l i=>aO l i M0 fun n g=>mO p2 a1 fun m j=>aO m j g fun d c=>ek (fun e=>ag c d fun o=>af .lss o (N .i64 1) fun p=>az p ( False) ( e [] c)) (fun q h=>Q (.fn (.func p4) [] [n,d]) h)
def vJ (p1 p2:au) (a0:AV) (M0:RM) (Q:ak) : Prop:=p1 [a0] M0 fun e c=>p2 [e] c fun g d=>Q g d
def tK (a0:AV) (M0:RM) (Q:ak) : Prop:=fF a0 fun e=>bT e 1 fun g=>ag M0 g fun h=>az h ( Q (N .i64 0) M0) ( fF a0 fun i=>bT i 0 fun j=>ag M0 j fun c=>aU c fun d=>Q d M0)
def rq (a0:AV) (M0:RM) (Q:ak) : Prop:=af .add a0 (N .i64 64) fun c=>af .sub c (N .i64 1) fun d=>af .quo d (N .i64 64) fun e=>Q e M0
def kP (p1:au) (a0 a1:AV) (M0:RM) (Q:ak) : Prop:=p1 [a0,a1] M0 fun d c=>af .geq d (N .i64 0) fun e=>Q e c
def kU (p1:au) (a0 a1:AV) (M0:RM) (Q:ak) : Prop:=ag M0 a1 fun d=>p1 [d,a0] M0 fun e c=>ji e fun g=>Q g c
def nG (a0 a1:AV) (M0:RM) (Q:ak) : Prop:=fF a0 fun h=>bT h 0 fun d=>ag M0 d fun e=>jf false [2] (.sc (.slice none 0 0)) true M0 e a1 fun c=>bB c 0 fun i=>bB c 1 fun g=>Q g M0
def tC (p1:au) (p2:Nat) (p3:au) (a0:AV) (M0:RM) (Q:ak) : Prop:=p1 [a0,(N .i64 4096)] M0 fun g i=>bB g 0 fun t=>bB g 1 fun h=>bB g 2 fun O=>ji O fun d=>ax d false (fun c=>c h i) (fun c=>c .undef i) fun P j=>ax d false (fun A=>aU P fun R=>A R j) (fun c=>c .undef j) fun S q=>ax d false (fun E=>E t q) (fun c=>c .undef q) fun U r=>ax d false (fun F=>af .add U (N .i64 64) fun V=>F V r) (fun c=>c .undef r) fun W s=>ax d false (fun G=>af .sub W (N .i64 1) fun X=>G X s) (fun c=>c .undef s) fun Y l=>ax d false (fun B=>af .quo Y (N .i64 64) fun Z=>B Z l) (fun c=>c .undef l) fun va m=>ax d false (fun C=>af .mul (N .i64 32) va fun vb=>C vb m) (fun c=>c .undef m) fun vc n=>ax d false (fun D=>af .neq S vc fun vd=>D vd n) (fun c=>c .undef n) fun ve o=>aV d (Bo true) ve fun vf=>az vf ( Q (.tup [(N .i64 0),(.sc (.slice none 0 0)),(Bo false)]) o) ( qm p2 16 [(St [])] (N .i64 0) (N .i64 0) fun I y=>aO I y o fun vg u=>aX (fun H e p=>aU h fun vh=>af .lss (aa e 1) vh fun vi=>az vi ( af .add (aa e 1) (N .i64 32) fun vk=>gQ (bK 1 h (some (aa e 1)) (some vk) none) fun vl=>p3 [vl] p fun vm v=>bn p2 1 [(St [])] [(0,1,vm)] fun L z=>aO L z v fun vn w=>appW p2 1 16 [(St [])] false (aa e 0) vn w fun vo x=>af .add (aa e 1) (N .i64 32) fun vj=>H [vo,vj] x) ( Q (.tup [t,(aa e 0),(Bo true)]) p)) [vg,(N .i64 0)] u)
def tN (a0 a1:AV) (M0:RM) (Q:ak) : Prop:=aU a0 fun q=>aU a1 fun r=>af .neq q r fun g=>az g ( Q (Bo false) M0) ( aX (fun e d c=>aU a0 fun h=>af .lss (aa d 0) h fun i=>az i ( aI a0 (aa d 0) 1 fun l=>ag c l fun m=>aI a1 (aa d 0) 1 fun n=>ag c n fun o=>iN .neq m o fun p=>az p ( Q (Bo false) c) ( af .add (aa d 0) (N .i64 1) fun j=>e [j] c)) ( Q (Bo true) c)) [(N .i64 0)] M0)
def uY (a0 a1:AV) (M0:RM) (Q:ak) : Prop:=aX (fun e d c=>aU a0 fun m=>af .lss (aa d 0) m fun n=>az n ( aI a0 (aa d 0) 2 fun h=>bT h 0 fun i=>ag c i fun j=>iN .eql j a1 fun l=>az l ( Q (aa d 0) c) ( af .add (aa d 0) (N .i64 1) fun g=>e [g] c)) ( Q (N .i64 (-1)) c)) [(N .i64 0)] M0
def oz (p1:Nat) (a0:AV) (M0:RM) (Q:ak) : Prop:=fU false 2 a0 (.sc (.slice none 0 0)) fun h=>az h ( Q (.sc (.slice none 0 0)) M0) ( bn p1 0 [(N .u8 0)] [] fun g e=>aO g e M0 fun i c=>appW p1 1 1 [(N .u8 0)] false i a0 c fun j d=>Q j d)
def wO (p1:Nat) (p2 p3:au) (a0 a1:AV) (M0:RM) (Q:ak) : Prop:=qm p1 16 [(St [])] (N .i64 0) (N .i64 0) fun vg H=>aO vg H M0 fun wn A=>aX (fun ve e i=>aU a1 fun vi=>af .lss (aa e 1) vi fun vj=>az vj ( ek (fun n=>aI a1 (aa e 1) 1 fun vl=>ag i vl fun vm=>p2 [vm,(N .i64 64)] i fun vn o=>ji vn fun g=>ax g false (fun c=>c a0 o) (fun c=>c .undef o) fun vo r=>ax g false (fun V=>V a1 r) (fun c=>c .undef r) fun vp w=>ax g false (fun vb=>vb (aa e 1) w) (fun c=>c .undef w) fun vq z=>ax g false (fun vd=>aI vp vq 1 fun vr=>vd vr z) (fun c=>c .undef z) fun vs m=>ax g false (fun L=>ag m vs fun vt=>L vt m) (fun c=>c .undef m) fun vu p=>ax g false (fun O=>p3 [vo,vu] p fun vv B=>O vv B) (fun c=>c .undef p) fun vw q=>ax g false (fun P=>af .geq vw (N .i64 0) fun vx=>P vx q) (fun c=>c .undef q) fun vy C=>aV g (Bo true) vy fun vz=>aX (fun vf d h=>aU (aa e 0) fun v0=>af .lss (aa d 1) v0 fun v1=>az v1 ( aA (aa d 0) false (fun R=>R (aa e 0) h none) (fun c=>c .undef h none) fun v3 s wp=>aA (aa d 0) false (fun S=>S (aa d 1) s none) (fun c=>c .undef s none) fun v4 t wq=>aA (aa d 0) false (fun U=>aI v3 v4 1 fun v5=>U v5 t none) (fun c=>c .undef t none) fun v6 j wr=>aA (aa d 0) false (fun W=>ag j v6 fun v7=>W v7 j none) (fun c=>c .undef j none) fun v8 u ws=>aA (aa d 0) false (fun X=>X a1 u none) (fun c=>c .undef u none) fun v9 v wt=>aA (aa d 0) false (fun Y=>Y (aa e 1) v none) (fun c=>c .undef v none) fun wa x wu=>aA (aa d 0) false (fun Z=>aI v9 wa 1 fun wb=>Z wb x none) (fun c=>c .undef x none) fun wc l wv=>aA (aa d 0) false (fun va=>ag l wc fun wd=>va wd l none) (fun c=>c .undef l none) fun we y ww=>aA (aa d 0) false (fun vc=>iN .eql v8 we fun wf=>vc wf y none) (fun c=>c .undef y none) fun wg D wx=>aV (aa d 0) (Bo true) wg fun wh=>af .add (aa d 1) (N .i64 1) fun v2=>vf [wh,v2] D) ( ji (aa d 0) fun wi=>az wi ( aI a1 (aa e 1) 1 fun wj=>ag h wj fun wk=>bn p1 1 [(St [])] [(0,1,wk)] fun vh I=>aO vh I h fun wl E=>appW p1 1 16 [(St [])] false (aa e 0) wl E fun wm F=>n [wm] F) ( n [(aa e 0)] h))) [vz,(N .i64 0)] C) (fun wo G=>af .add (aa e 1) (N .i64 1) fun vk=>ve [(aa wo 0),vk] G)) ( Q (aa e 0) i)) [wn,(N .i64 0)] A
def sQ (p1 p2:au) (p3:Nat) (a0 a1:AV) (M0:RM) (Q:ak) : Prop:=p1 [a0,a1] M0 fun q e=>af .lss q (N .i64 0) fun y=>az y ( Q (.tup [(.sc (.slice none 0 0)),(N .i64 4)]) e) ( aI a0 q 2 fun z=>bT z 1 fun A=>ag e A fun B=>p2 [B] e fun j n=>bB j 0 fun r=>bB j 1 fun d=>bB j 2 fun C=>ji C fun D=>az D ( Q (.tup [(.sc (.slice none 0 0)),(N .i64 14)]) n) ( aX (fun w l g=>aU d fun E=>af .lss (aa l 0) E fun F=>az F ( aI d (aa l 0) 1 fun H=>ag g H fun I=>p1 [a0,I] g fun L o=>af .lss L (N .i64 0) fun O=>az O ( Q (.tup [(.sc (.slice none 0 0)),(N .i64 4)]) o) ( af .add (aa l 0) (N .i64 1) fun G=>w [G] o)) ( aX (fun x c h=>aU d fun P=>af .lss (aa c 1) P fun R=>az R ( ek (fun t=>aI d (aa c 1) 1 fun U=>ag h U fun V=>p1 [a0,V] h fun W i=>aI a0 W 2 fun X=>bT X 1 fun Y=>ag i Y fun s=>ek (fun m=>af .mul (aa c 1) (N .i64 64) fun Z=>af .sub r Z fun va=>af .lss va (N .i64 64) fun vb=>az vb ( af .mul (aa c 1) (N .i64 64) fun vc=>af .sub r vc fun vd=>m [vd] i) ( m [(N .i64 64)] i)) (fun vi p=>aU s fun ve=>af .neq ve (aa vi 0) fun vf=>az vf ( Q (.tup [(.sc (.slice none 0 0)),(N .i64 14)]) p) ( appW p3 1 1 [(N .u8 0)] false (aa c 0) s p fun vg u=>t [vg] u))) (fun vh v=>af .add (aa c 1) (N .i64 1) fun S=>x [(aa vh 0),S] v)) ( Q (.tup [(aa c 0),(N .i64 0)]) h)) [(.sc (.slice none 0 0)),(N .i64 0)] g)) [(N .i64 0)] n))
def pR (p1:au) (p2:Nat) (p3 p4:au) (a0 a1:AV) (M0:RM) (Q:ak) : Prop:=p1 [a0,a1] M0 fun e c=>af .lss e (N .i64 0) fun m=>az m ( bn p2 1 [(St [])] [(0,1,a1)] fun l j=>aO l j c fun n g=>Q n g) ( aI a0 e 2 fun o=>bT o 1 fun p=>ag c p fun q=>p3 [q] c fun d h=>bB d 0 fun t=>bB d 1 fun r=>bB d 2 fun u=>p4 [a0,r] h fun s i=>Q s i)
def ma (p1 p2:au) (p3:Nat) (a0 a1:AV) (M0:RM) (Q:ak) : Prop:=aU a1 fun R=>aX (fun x d g=>af .lss (aa d 1) R fun z=>az z ( ek (fun i=>aI a1 (aa d 1) 1 fun A=>ag g A fun h=>p1 [a0,h] g fun B j=>ji B fun e=>ax e true (fun c=>c (aa d 0) j) (fun c=>c .undef j) fun C l=>ax e true (fun u=>u h l) (fun c=>c .undef l) fun D n=>ax e true (fun v=>p2 [C,D] n fun E s=>v E s) (fun c=>c .undef n) fun F o=>ax e true (fun w=>ji F fun G=>w G o) (fun c=>c .undef o) fun H m=>aV e H (Bo false) fun I=>az I ( bn p3 1 [(St [])] [(0,1,h)] fun y t=>aO y t m fun L p=>appW p3 1 16 [(St [])] false (aa d 0) L p fun O q=>i [O] q) ( i [(aa d 0)] m)) (fun S r=>af .add (aa d 1) (N .i64 1) fun P=>x [(aa S 0),P] r)) ( Q (aa d 0) g)) [(.sc (.slice none 0 0)),(N .i64 0)] M0
def lU (p1:au) (cv:(FuncId→au)) (a0 a1:AV) (M0:RM) (Q:ak) : Prop:=p1 [a0,a1] M0 fun e h=>af .eql e (N .i64 (-1)) fun p=>az p ( Q a0 h) ( af .add e (N .i64 1) fun q=>aX (fun o c d=>aU a0 fun r=>af .lss (aa c 1) r fun s=>az s ( ek (fun g=>aI a0 (aa c 1) 1 fun u=>ag d u fun j=>ql cv a1 [j] d fun v i=>ji v fun w=>az w ( aI a0 (aa c 0) 1 fun x=>aS i x j 1 fun l=>af .add (aa c 0) (N .i64 1) fun y=>g [y] l) ( g [(aa c 0)] i)) (fun B m=>af .add (aa c 1) (N .i64 1) fun t=>o [(aa B 0),t] m)) ( gQ (bK 1 a0 (some (aa c 0)) none none) fun z=>Mx [(St [])] z d fun C n=>gQ (bK 1 a0 none (some (aa c 0)) none) fun A=>Q A n)) [e,q] h)
def lg (p1:au) (p2:Nat) (a0:AV) (M0:RM) (Q:ak) : Prop:=p1 [a0] M0 fun c d=>bB c 0 fun l=>bB c 1 fun m=>aO (.row [(N .u8 0),(N .u8 0),(N .u8 0),(N .u8 0),(N .u8 0),(N .u8 0),(N .u8 0),(N .u8 0),(N .u8 0),(N .u8 0),(N .u8 0),(N .u8 0),(N .u8 0),(N .u8 0),(N .u8 0),(N .u8 0),(N .u8 0),(N .u8 0),(N .u8 0),(N .u8 0),(N .u8 0),(N .u8 0),(N .u8 0),(N .u8 0),(N .u8 0),(N .u8 0),(N .u8 0),(N .u8 0),(N .u8 0),(N .u8 0),(N .u8 0),(N .u8 0)] false p2 0) (fun h=>.ptr h 0) d fun j e=>aS e j l 32 fun g=>af .neq m (N .i64 0) fun i=>Q i g
def mQ (cv:(FuncId→au)) (a0 a1:AV) (M0:RM) (Q:ak) : Prop:=aU a0 fun m=>aX (fun g c d=>af .lss (aa c 0) m fun n=>az n ( aI a0 (aa c 0) 1 fun h=>ag d h fun i=>ql cv a1 [i] d fun j e=>az j ( Q (aa c 0) e) ( af .add (aa c 0) (N .i64 1) fun l=>g [l] e)) ( Q (N .i64 (-1)) d)) [(N .i64 0)] M0
def uP (p1:au) (a0 a1:AV) (M0:RM) (Q:ak) : Prop:=p1 [a0] M0 fun e h=>bB e 0 fun p=>bB e 1 fun v=>bB e 2 fun w=>ji w fun g=>ax g false (fun c=>c a1 h) (fun c=>c .undef h) fun x i=>ax g false (fun q=>af .lss x (N .i64 0) fun y=>q y i) (fun c=>c .undef i) fun z m=>aV g (Bo true) z fun d=>ax d false (fun s=>s p m) (fun c=>c .undef m) fun A n=>ax d false (fun t=>t a1 n) (fun c=>c .undef n) fun B o=>ax d false (fun u=>eD .u64 B fun C=>u C o) (fun c=>c .undef o) fun D j=>ax d false (fun r=>af .gtr A D fun E=>r E j) (fun c=>c .undef j) fun F l=>aV d (Bo true) F fun G=>az G ( Q (.tup [(N .i64 0),(.sc (.slice none 0 0)),(Bo false)]) l) ( eD .i64 p fun H=>Q (.tup [H,v,(Bo true)]) l)
def nL (p1:au) (a0 a1:AV) (M0:RM) (Q:ak) : Prop:=p1 [a0,a1] M0 fun d c=>af .geq d (N .i64 0) fun e=>Q e c
def Bv (a0:AV) (M0:RM) (Q:ak) : Prop:=aX (fun x d l=>aU a0 fun y=>af .lss (aa d 1) y fun h=>ax h true (fun c=>c (aa d 1) l) (fun c=>c .undef l) fun z m=>ax h true (fun s=>af .lss z (N .i64 10) fun A=>s A m) (fun c=>c .undef m) fun B g=>aV h B (Bo false) fun C=>az C ( aI a0 (aa d 1) 1 fun E=>ag g E fun F=>af .rem F (N .u8 128) fun G=>eD .u64 G fun p=>af .eql (aa d 1) (N .i64 9) fun i=>ax i true (fun u=>u p g) (fun c=>c .undef g) fun H o=>ax i true (fun v=>af .gtr H (N .u64 1) fun I=>v I o) (fun c=>c .undef o) fun L e=>aV i L (Bo false) fun O=>az O ( Q (.tup [(N .u64 0),(.sc (.slice none 0 0)),(Bo false)]) e) ( af .mul (N .i64 7) (aa d 1) fun P=>eD .u64 P fun R=>iX .shl p R fun S=>af .add (aa d 0) S fun q=>aI a0 (aa d 1) 1 fun U=>ag e U fun V=>af .lss V (N .u8 128) fun W=>az W ( af .add (aa d 1) (N .i64 1) fun X=>gQ (bK 1 a0 (some X) none none) fun Y=>aI a0 (aa d 1) 1 fun Z=>ag e Z fun va=>af .gtr va (N .u8 0) fun j=>aA j false (fun w=>w (aa d 1) e none) (fun c=>c .undef e none) fun vb n vf=>aA j false (fun t=>af .eql vb (N .i64 0) fun vc=>t vc n none) (fun c=>c .undef n none) fun vd r vg=>aV j (Bo true) vd fun ve=>Q (.tup [q,Y,ve]) r) ( af .add (aa d 1) (N .i64 1) fun D=>x [q,D] e))) ( Q (.tup [(N .u64 0),(.sc (.slice none 0 0)),(Bo false)]) g)) [(N .u64 0),(N .i64 0)] M0
def qI (a0 a1:AV) (M0:RM) (Q:ak) : Prop:=aU a0 fun l=>aX (fun e d c=>af .lss (aa d 0) l fun m=>az m ( aI a0 (aa d 0) 1 fun g=>ag c g fun h=>iN .eql a1 h fun i=>az i ( Q (aa d 0) c) ( af .add (aa d 0) (N .i64 1) fun j=>e [j] c)) ( Q (N .i64 (-1)) c)) [(N .i64 0)] M0
end Go.Ab.Bl
set_option maxRecDepth 10000
namespace Go.Ab.Bl
open Go Go.Ab Go.Ab.aQ
theorem SX {M:RM} {c p:Bool} {f:ak→Prop} {G:AV→RM→Prop} (hf:c=false→∀ k:ak,k (Bo p) M→f k) (hG:G (Bo (c || p)) M) :
  ax (Bo c) false f (fun k=>k .undef M) (fun t M'=>aV (Bo c) (Bo true) t fun u=>G u M'):=by
 cases c with
 | true=>rw[gp]; dsimp only; rw[dX]; exact hG
 | false=>rw[bU]; exact hf rfl _ (by rw[dQ]; exact hG)
theorem aeq {v:AV} (h:EE v) : jH v:=by
 unfold EE at h; unfold jH; split <;> simp_all
theorem abb {v:AV} (h:jH v) : EE v:=by
 unfold jH at h; unfold EE; split <;> simp_all
def FR (most:Nat) (bs:List UInt8) : Option (Nat × List UInt8):=match yS bs with
 | some (w,n)=>if most<w then none else some (w,bs.drop n)
 | none=>none
structure Rest (M:RM) (v v' : AV) (r:List UInt8) : Prop where
 sl:Sl BY M v' r
 cap:jH v'
 sub:∀ d∈ah v',d∈ah v
theorem Rest.keep {M M' : RM} {v v' : AV} {r:List UInt8} {ks:List Nat} (h:Rest M v v' r) (k:ae ks M M') (hk:∀ d∈ah v,d ∉ ks) : Rest M' v v' r:=⟨aD.keep h.sl k (fun d hd hm=>hk d (h.sub d hd) hm),h.cap,h.sub⟩
theorem orK {c p:Bool} {f:KR→Prop} {M:RM} {G:AV→RM→Prop} (hf:c=false→∀ k:KR,k (Bo p) M none→f k) (hG:G (Bo (c || p)) M) :
  aA (Bo c) false f (fun k=>k .undef M none) (fun t M' b=>aV (Bo c) (Bo true) t fun u=>G u M'):=by
 cases c with
 | true=>rw[Ui]; dsimp only; rw[dX]; exact hG
 | false=>rw[iW]; refine hf rfl _ ?_; rw[dQ]; exact hG
theorem aaX {v d i:Nat} (h:v<2 ^ (7 * i)) : v + d * 2 ^ (7 * i)=v ||| d * 2 ^ (7 * i):=by
 rw[Nat.or_comm,Nat.mul_comm,← Nat.two_pow_add_eq_or_of_lt h,Nat.add_comm]
theorem aah {u d i:Nat} (hu:u<2 ^ (7 * i)) (hd:d<128) (hi:i<10) (h9:¬ (i=9∧d > 1)) : u + d * 2 ^ (7 * i)<2 ^ 64∧u + d * 2 ^ (7 * i)<2 ^ (7 * (i + 1)):=by
 have h1:u + d * 2 ^ (7 * i)<2 ^ (7 * (i + 1)):=by
  rw[show 7 * (i + 1)=7 * i + 7 by omega,Nat.pow_add]
  have:d * 2 ^ (7 * i)≤127 * 2 ^ (7 * i):=Nat.mul_le_mul_right _ (by omega)
  omega
 refine⟨?_,h1⟩
 by_cases h:i=9
 ·subst h
  have:d≤1:=by omega
  have:=Nat.mul_le_mul_right (2 ^ 63) this
  simp only[Nat.reduceMul,Nat.reducePow] at *
  omega
 ·exact Nat.lt_of_lt_of_le h1 (Nat.pow_le_pow_right (by decide) (by omega))
def Wn (c:au) : Prop:=∀ {M:RM} {v:AV} {bs:List UInt8} {Q:ak},Sl BY M v bs→jH v →
 (yS bs=none→∀ (x:Nat) v',Q (.tup [N .u64 (x:Int),v',Bo false]) M) →
 (∀ w n v',yS bs=some (w,n)→Rest M v v' (bs.drop n)→Q (.tup [N .u64 (w:Int),v',Bo true]) M)→c [v] M Q
theorem Vl:Wn fun args M Q=>∃ a0,args=[a0]∧Bv a0 M Q:=by
 intro M v bs Q hs hc hN hS
 refine⟨_,rfl, ?_⟩
 unfold Bv
 simp only[mX,xU,vT,Aj]
 refine aG (fun m ys M3=>∃ (i u:Nat),m=10 - i∧ys=[N .u64 (u:Int),N .i64 (i:Int)]∧i≤bs.length∧i≤10∧u<2 ^ (7 * i)∧M3=M∧yS bs=qV i u ((bs.take 10).drop i)) _
  ⟨0,0,rfl,rfl,Nat.zero_le _,Nat.zero_le _,by decide,rfl,rfl⟩ ?_
 rintro next m ys M3 hnext ⟨i,u,rfl,rfl,hi,hi10,hu,rfl,hset⟩
 dsimp only[aa]
 rw[aD.len hs,dK]
 refine andM (p:=decide (i<10)) (fun _ K hK=>?_) ?_
 ·rw[dK,show decide ((i:Int)<10)=decide (i<10) by simp; omega]
  exact hK
 refine aJ (fun hlt=>?_) (fun hge=>?_)
 ·have hlt:i<bs.length∧i<10:=by simpa using hlt
  obtain⟨b1,o1,_,_,hidx,hcell⟩:=Sl.Qd (E:=BY) hs (i:Int) hlt.1
  have hx1:i<(bs.take 10).length:=by rw[List.length_take]; omega
  rw[List.drop_eq_getElem_cons hx1,qV,List.getElem_take] at hset
  rw[hidx,dM]
  refine⟨_,hcell _ rfl, ?_⟩
  generalize hx:bs[i]=x at *
  have hx256:=EN x
  rw[oG]
  refine⟨by decide, ?_⟩
  rw[show((x.toNat:Int)).tmod 128=((x.toNat % 128:Nat) : Int) from rfl,cZ,wrap_u64,Nat.mod_eq_of_lt (by omega:x.toNat % 128<18446744073709551616),bS]
  refine andM (p:=decide (x.toNat % 128 > 1)) (fun _ K hK=>?_) ?_
  ·rw[fZ,show decide (((x.toNat % 128:Nat) : Int) > 1)=decide (x.toNat % 128 > 1) by simp; omega]
   exact hK
  refine aJ (fun hbad=>?_) (fun hgood=>?_)
  ·have hbad:i=9∧x.toNat % 128 > 1:=by
    simp only[Bool.and_eq_true,beq_iff_eq,decide_eq_true_eq] at hbad
    omega
   refine hN ?_ 0 _
   rw[hset]
   split
   ·rw[List.drop_eq_nil_of_le (by rw[List.length_take]; omega),qV]
   ·rw[if_pos (.inr ⟨hbad.1,by omega⟩)]
  ·have hgood:¬ (i=9∧x.toNat % 128 > 1):=by
    simp only[Bool.and_eq_false_iff,beq_eq_false_iff_ne,decide_eq_false_iff_not] at hgood
    omega
   obtain⟨b64,bnx⟩:=aah hu (by omega:x.toNat % 128<128) hlt.2 hgood
   rw[Nat.mod_eq_of_lt (by omega:x.toNat % 128 * 2 ^ (7 * i)<2 ^ 64),← aaX hu,Nat.mod_eq_of_lt b64] at hset
   rw[fK,show(7:Int) * (i:Int)=((7 * i:Nat) : Int) by omega,aP (by omega) (by omega),cZ,wrap_u64,Nat.mod_eq_of_lt (by omega:7 * i<18446744073709551616),jM]
   refine⟨by omega, ?_⟩
   rw[OJ rfl _ _ (by show 7 * i≤64; omega)]
   simp only[rM]
   rw[Nat.mod_eq_of_lt (by omega:x.toNat % 128 * 2 ^ (7 * i)<2 ^ 64),bz,show(u:Int) + ((x.toNat % 128 * 2 ^ (7 * i) : Nat) : Int)=((u + x.toNat % 128 * 2 ^ (7 * i) : Nat) : Int) by omega,wrap_u64,Nat.mod_eq_of_lt (by omega:u + x.toNat % 128 * 2 ^ (7 * i)<18446744073709551616)]
   generalize u + x.toNat % 128 * 2 ^ (7 * i)=w at *
   rw[hidx,dM]
   refine⟨_,hcell _ rfl, ?_⟩
   rw[dK]
   refine aJ (fun hsm=>?_) (fun hbig=>?_)
   ·have hsm:x.toNat<128:=by
     have:(x.toNat:Int)<128:=of_decide_eq_true hsm
     omega
    rw[if_neg (by omega)] at hset
    rw[bz,mK (by omega)]
    obtain⟨v',g1,g2,g3,g4⟩:=Oc (k:=i + 1) rfl hs hc (by omega)
    rw[g1,iF,hidx,dM]
    refine⟨_,hcell _ rfl, ?_⟩
    rw[fZ]
    refine orK (p:=decide (i=0)) (fun _ K hK=>?_) ?_
    ·rw[bS,show((i:Int) == 0)=decide (i=0) by rw[Bool.eq_iff_iff]; simp]
     exact hK
    by_cases hz:x.toNat=0∧i > 0
    ·rw[show(decide ((x.toNat:Int) > 0) || decide (i=0))=false by simp; omega]
     refine hN ?_ _ _
     rw[hset,if_pos (.inl hz)]
    ·rw[show(decide ((x.toNat:Int) > 0) || decide (i=0))=true by simp; omega]
     exact hS w (i + 1) v' (by rw[hset,if_neg (by omega)]) ⟨g2,g3,g4⟩
   ·have hbig:x.toNat ≥ 128:=by
     have:¬ (x.toNat:Int)<128:=of_decide_eq_false hbig
     omega
    rw[if_pos hbig] at hset
    rw[bz,mK (by omega)]
    exact hnext _ _ _ (by omega) ⟨i + 1,w,rfl,rfl,by omega,by omega,bnx,rfl,hset⟩
 ·refine hN ?_ 0 _
  have hge:¬ (i<bs.length∧i<10):=by
   intro h
   simp[h.1,h.2] at hge
  rw[hset,List.drop_eq_nil_of_le (by rw[List.length_take]; omega),qV]
def JH (c:au) : Prop:=∀ {M:RM} {v:AV} {bs:List UInt8} {most:Nat} {Q:ak},Sl BY M v bs→jH v→most<4294967296 →
 (FR most bs=none→Q (.tup [N .i64 0,bA,Bo false]) M) →
 (∀ w r v',FR most bs=some (w,r)→Rest M v v' r→Q (.tup [N .i64 (w:Int),v',Bo true]) M)→c [v,N .i64 (most:Int)] M Q
theorem PH {cg:au} (hg:Wn cg) : JH fun args M Q=>∃ a0 a1,args=[a0,a1]∧uP cg a0 a1 M Q:=by
 intro M v bs most Q hs hc hm hN hS
 refine⟨_,_,rfl, ?_⟩
 unfold uP
 simp only[mX,xU,vT,Aj]
 unfold FR at hN hS
 refine hg hs hc (fun h0 x v'=>?_) (fun w n v' h1 h2=>?_)
 ·rw[h0] at hN
  rw[cz,dD,jd,dO,Bool.not_false]
  simp only[gp,jv,fH,bU,dX,dQ,fo]
  exact hN rfl
 ·rw[h1] at hN hS
  dsimp only at hN hS
  rw[cz,dD,jd,dO,Bool.not_true]
  refine SX (p:=false) (fun _ K hK=>?_) ?_
  ·rw[dK,show decide ((most:Int)<0)=false by simp]
   exact hK
  refine SX (p:=decide (most<w)) (fun _ K hK=>?_) ?_
  ·rw[cZ,wrap_u64,Nat.mod_eq_of_lt (by omega:most<18446744073709551616),fZ,show decide ((w:Int) > (most:Int))=decide (most<w) by simp]
   exact hK
  rw[Bool.or_false,Bool.false_or]
  refine aJ (fun hgt=>?_) (fun hle=>?_)
  ·rw[if_pos (of_decide_eq_true hgt)] at hN
   exact hN rfl
  ·have hle:¬ most<w:=of_decide_eq_false hle
   rw[if_neg hle] at hS
   rw[cZ,aP (by omega) (by omega)]
   exact hS w _ v' rfl h2
end Go.Ab.Bl
namespace Go.Ab.Bl
open Go Go.Ab Go.Ab.aQ Go.Ab.Sha
def kY:mF Str where
 size:=1
 rel M cs b S:=∃ v,cs=[v]∧Bs M v b∧∀ x∈ah v,S x
 len h:=by obtain⟨v,rfl,_⟩:=h; rfl
 one h:=by obtain⟨v,rfl,h,_⟩:=h; simp[aD.one h.sl]
 mono h hs:=by obtain⟨v,rfl,h,k⟩:=h; exact⟨v,rfl,h,fun x hx=>hs x (k x hx)⟩
 lt h:=by obtain⟨v,rfl,h,k⟩:=h; exact⟨v,rfl,h,fun x hx=>⟨k x hx,h.lt x hx⟩⟩
 keep h hk hb:=by obtain⟨v,rfl,h,k⟩:=h; exact⟨v,rfl,h.keep hk (fun x hx hm=>hb x hm (k x hx)),k⟩
def dN (n:Nat) (b:Str) : Nat:=(b.length + n - 1) / n
def bD (n:Nat) (b:Str) : List Str:=(List.range (dN n b)).map fun k=>(b.drop (k * n)).take n
theorem eF (n:Nat) (b:Str) : (bD n b).length=dN n b:=by simp[bD]
theorem Ir {n k:Nat} {b:Str} (h:k<(bD n b).length) : (bD n b)[k]=(b.drop (k * n)).take n:=by simp[bD]
theorem lQ {n k:Nat} {b:Str} (h:k<dN n b) : (bD n b).take (k + 1)=(bD n b).take k++[(b.drop (k * n)).take n]:=by
 rw[List.take_succ_eq_append_getElem (by rw[eF]; exact h),Ir]
theorem iB {n k:Nat} {b:Str} (hn:0<n) : k<dN n b↔k * n<b.length:=by
 unfold dN
 rw[← Nat.succ_le_iff,Nat.le_div_iff_mul_le hn,Nat.succ_mul]
 omega
theorem YE {M:RM} {v:AV} {b:Str} (h:Bs M v b) : Head v b.length:=by
 obtain⟨hs,hc⟩:=h
 unfold Sl at hs
 generalize hn:b.length=n at *
 generalize BY.row b=cs at *
 cases hs with
 | nil=>exact .nil
 | emp b0=>exact .emp b0
 | slc b0 o _ cap cs hb hl =>
   cases cap with
   | ex c=>exact .ex _ _ _ _ hc
   | op e=>have:e=1:=hc; subst this; exact .op _ _ _
theorem Um {M:RM} {v:AV} {b:Str} (h:Bs M v b) (hb:0<b.length) : ∃ c o cap,v=.slc c o b.length cap∧c<M.next∧M.loads c o b.length=some (BY.row b):=by
 obtain⟨c,o,cap,rfl,h1,h2⟩:=aD.pos h.sl hb
 exact⟨c,o,cap,rfl,h1,by rw[show b.length=b.length * 1 by omega]; exact h2⟩
theorem YK {M:RM} {v:AV} {b:Str} (h:Bs M v b) {i n:Nat} (hi:i + n≤b.length) (hn:0<n) : Bs M (Fh v i n) ((b.drop i).take n)∧∀ x∈ah (Fh v i n),x∈ah v:=by
 obtain⟨c,o,cap,rfl,h1,h2⟩:=Um h (by omega)
 have hlen:((b.drop i).take n).length=n:=by simp; omega
 refine⟨⟨?_,Nat.le_refl _⟩,fun x hx=>hx⟩
 have h3:=Ca (n:=b.length) (by rw[Nat.mul_one]; exact h2) (l:=i) (u:=i + n) (by omega) hi
 rw[Nat.mul_one,Nat.mul_one,show i + n - i=n by omega] at h3
 unfold Sl; rw[hlen]
 exact .slc _ _ _ _ _ h1 (by rw[show n * BY.size=n from Nat.mul_one n]; exact h3)
theorem Xd {M:RM} {w:AV} {d:Str} {n:Nat} {K:AV→Prop} (h:Bs M w d) (hd:d.length=n) (hn:0<n) (hK:K (.agg (BY.row d))) : Oo n w fun t=>dE M t n K:=by
 obtain⟨c,o,cap,rfl,h1,h2⟩:=Um h (by omega)
 refine⟨c,o,_,cap,rfl,by omega,c,o,_,rfl, ?_,hK⟩
 rw[← hd]; exact h2
theorem F9 {C:FuncId→Prop} {gf b2 b3 n T2 T3:Nat} {M:RM} {v:AV} {b:Str} {round:AV→RM→(RM→Prop)→Prop} {fin:RM→Prop} (hC:C gf) (hn:0<n) (hn1:n<1000000) (hl:b.length<100000000000) (hv:Bs M v b)
  (I:Nat→RM→Prop) (h0:I 0 M) (hI:∀ k M',I k M'→M'.heap b2=some (.row [v] false T2 0)∧M'.heap b3=some (.row [N .i64 (n:Int)] false T3 0)∧Bs M' v b)
  (hr:∀ k M' w,k<dN n b→I k M'→Bs M' w ((b.drop (k * n)).take n)→(∀ x∈ah w,x∈ah v)→round w M' (fun M''=>I (k + 1) M''))
  (hf:∀ M',I (dN n b) M'→fin M') : Eb C (.fn (.func gf) [] [.ptr b2 0,.ptr b3 0]) M round fin:=by
 refine⟨gf,b2,0,b3,0,v,b.length,n,fun k M'=>k≤dN n b∧I k M',rfl,hC,hn,by omega,by omega,YE hv,⟨Nat.zero_le _,h0⟩, ?_, ?_, ?_⟩
 ·rintro k M' ⟨_,h⟩
  obtain⟨h2,h3,_⟩:=hI k M' h
  exact⟨fO.2 (by rw[RM.Gr h2]; rfl),fO.2 (by rw[RM.Gr h3]; rfl)⟩
 ·rintro k M' hk ⟨_,h⟩
  have hkn:=(iB hn).2 hk
  have hp:=YK (hI k M' h).2.2 (i:=k * n) (n:=min n (b.length - k * n)) (by omega) (by omega)
  have e:(b.drop (k * n)).take (min n (b.length - k * n))=(b.drop (k * n)).take n:=by
   rw[← List.length_drop,List.take_eq_take_iff]; simp
  rw[e] at hp
  have:=hr k M' _ hkn h hp.1 hp.2
  have e2:(fun M''=>k + 1≤dN n b∧I (k + 1) M'')=fun M''=>I (k + 1) M'':=by funext M''; simp; intro _; omega
  rw[e2]; exact this
 ·rintro k M' hk ⟨hle,h⟩
  have:¬ k<dN n b:=fun h=>by have:=(iB hn).1 h; omega
  have:k=dN n b:=by omega
  subst this
  exact hf M' h
def I9 (gf T2 T3:Nat) (c:au) : Prop:=∀ {M:RM} {v:AV} {b:Str} {n:Nat} {Q:ak},Bs M v b→0<n→n<1000000 →
 (∀ M',ae [] M M'→M'.heap M.next=some (.row [v] false T2 0)→M'.heap (M.next + 1)=some (.row [N .i64 (n:Int)] false T3 0)→M'.next=M.next + 2→Q (.fn (.func gf) [] [.ptr M.next 0,.ptr (M.next + 1) 0]) M')→c [v,N .i64 (n:Int)] M Q
theorem Rq {gf T2 T3 TS:Nat} : I9 gf T2 T3 fun args M Q=>∃ a0 a1,args=[a0,a1]∧vG T2 T3 TS gf a0 a1 M Q:=by
 intro M v b n Q hv hn hn1 hQ
 refine⟨_,_,rfl, ?_⟩
 unfold vG
 refine⟨by rw[aD.cells hv.sl]; simp[aD.one hv.sl],by rw[aD.cells hv.sl]; simp, ?_⟩
 rw[aD.cells hv.sl]
 dsimp only
 rw[aL]
 refine⟨rfl,Nat.le_refl 1, ?_⟩
 dsimp only
 rw[aL]
 have k1:ae [] M (M.push (.row [v] false T2 0)):=(ae.refl _ _).push _
 have n1:(M.push (.row [v] false T2 0)).heap M.next=some (.row [v] false T2 0):=RM.bR _
 have x1:(M.push (.row [v] false T2 0)).next=M.next + 1:=rfl
 show ek _ _
 generalize M.push (.row [v] false T2 0)=M1 at *
 have n2:(M1.push (.row [N .i64 (n:Int)] false T3 0)).heap M1.next=some (.row [N .i64 (n:Int)] false T3 0):=RM.bR _
 have k2:ae [] M1 (M1.push (.row [N .i64 (n:Int)] false T3 0)):=(ae.refl _ _).push _
 have n3:=k2.aB n1 (by omega) (by simp)
 have x2:(M1.push (.row [N .i64 (n:Int)] false T3 0)).next=M.next + 2:=by rw[eT,x1]
 rw[show(N .i64 (n:Int)).cells=[N .i64 (n:Int)] from rfl]
 unfold ek
 generalize M1.push (.row [N .i64 (n:Int)] false T3 0)=M2 at *
 dsimp only
 rw[aF n2 rfl,dK,show decide ((n:Int)<1)=false by simp; omega,dH,x1]
 rw[x1] at n2
 exact hQ M2 (k1.trans k2) n3 n2 x2
theorem Pm {n:Nat} (hn:n≤100000) {M:RM} {Q:ak} (hQ:Q (N .i64 (((n + 64 - 1) / 64:Nat) : Int)) M) : rq (N .i64 (n:Int)) M Q:=by
 unfold rq
 rw[fQ 64 (by omega) (by omega) (by rfl),yM 1 (by omega) (by omega) (by rfl),qY]
 refine⟨by decide, ?_⟩
 have e:((n + 64 - 1:Nat) : Int).tdiv 64=(((n + 64 - 1) / 64:Nat) : Int):=rfl
 rw[e,aP (by omega) (by omega)]
 exact hQ
def QC (c:au) : Prop:=∀ {M:RM} {n:Nat} {Q:ak},n≤100000→Q (N .i64 (((n + 64 - 1) / 64:Nat) : Int)) M→c [N .i64 (n:Int)] M Q
def Q4 (T:Nat) (c:au) : Prop:=∀ {M:RM} {r:Nat} {S:Nat→Prop} {bs:List UInt8} {f:Bool} {Q:ak},Cu T S M r bs f→Q (N .i64 (if f then 0 else(bs.length:Int))) M→c [.ptr r 0] M Q
theorem Vd {T:Nat} : Q4 T fun args M Q=>∃ a0,args=[a0]∧tK a0 M Q:=by
 intro M r S bs f Q h hQ
 refine⟨_,rfl, ?_⟩
 unfold tK
 obtain⟨v,hr,hs,hc,hS⟩:=h.row
 rw[bP,bE,Nat.zero_add,aF hr rfl]
 cases f with
 | true=>rw[fo]; exact hQ
 | false=>rw[dH,bP,uZ,aF hr rfl,aD.len hs]; exact hQ
theorem Yz {cs ch:au} (hs:CZ cs) (hh:Md ch) : rQ fun args M Q=>∃ a0,args=[a0]∧vJ cs ch a0 M Q:=by
 intro M v b Q hv hl hQ
 refine⟨_,rfl, ?_⟩
 unfold vJ
 refine hs hv hl fun M1 k1=>hh (oI b) fun M2 k2=>hQ M2 (k1.trans k2)
theorem O3 {T:Nat} : Sha.kN T fun args M Q=>∃ a0,args=[a0]∧oz T a0 M Q:=by
 intro M v s Q hv hl hQ
 exact Iz hv hl hQ
def iZ (m:Str) : Option (Nat × List Str):=match FR 4096 m with
 | none=>none
 | some (n,r)=>if r.length=32 * ((n + 64 - 1) / 64) then some (n,(bD 32 r).map kF) else none
theorem SV (m:Str) : (FR 4096 m=none∧∃ r,jA 4096 m false=(0,r,true))∨∃ n r,FR 4096 m=some (n,r)∧jA 4096 m false=(n,r,false)∧n≤4096∧r.length≤m.length∧m.drop (m.length - r.length)=r:=by
 unfold FR jA
 cases h:yS m with
 | none=>exact .inl ⟨rfl,m,rfl⟩
 | some p =>
   obtain⟨w,n⟩:=p
   have hb:=Qk h
   by_cases hw:4096<w
   ·refine .inl ⟨by simp[hw],m,by simp[hw]⟩
   ·refine .inr ⟨w,m.drop n,by simp[hw],by simp[hw],by omega,by simp, ?_⟩
    rw[List.length_drop,show m.length - (m.length - n)=n by omega]
def zT (TS:Nat) (c:au) : Prop:=∀ {M:RM} {v:AV} {m:Str} {Q:ak},Bs M v m→m.length≤140737488355328 →
 (∀ M',ae [] M M'→iZ m=none→Q (.tup [N .i64 0,bA,N .i64 14]) M') →
 (∀ n l lv M',ae [] M M'→iZ m=some (n,l)→Ow bO M' M.next TS lv l→Q (.tup [N .i64 (n:Int),lv,N .i64 0]) M')→c [v] M Q
theorem RL {TR T2 T3 gf TSS TS:Nat} {cr ci ce cl cc ck ch:au} {rc:FuncId→Prop} (hr:H5 TR cr) (hi:VG TR ci) (he:WI TR ce) (hl:Q4 TR cl) (hc:QC cc) (hk:I9 gf T2 T3 ck) (hrc:rc gf) (hh:Md ch) :
  zT TS fun args M Q=>∃ a0,args=[a0]∧nZ cr ci ce cl cc TSS ck rc ch TS a0 M Q:=by
 intro M v m Q hv hml hN hS
 refine⟨_,rfl, ?_⟩
 unfold nZ
 simp only[mX,xU,vT,Aj]
 refine hr hv.sl (by omega) fun r M1 rd1 hr1 k1=>?_
 refine hi rd1 (by decide) fun M2 rd2 k2 nx2=>?_
 have k12:ae [] M M2:=BC k1 k2 hr1
 refine he rd2 ?_
 rcases SV m with⟨hsm,rr,hri⟩ | ⟨n,rr,hsm,hri,hn,hrl,hdr⟩
 ·rw[hri] at rd2 ⊢
  dsimp only
  rw[if_pos rfl,bX,show((14:Int) != 0)=true by decide]
  simp only[gp]
  rw[dX,fo]
  exact hN M2 k12 (by unfold iZ; rw[hsm])
 ·rw[hri] at rd2 ⊢
  dsimp only at rd2 ⊢
  rw[if_neg (by decide),bX,show((0:Int) != 0)=false by decide]
  simp only[bU]
  refine hl rd2 ?_
  rw[if_neg (by decide)]
  refine hc (by omega) ?_
  rw[fK,show(((n + 64 - 1) / 64:Nat) : Int) * 32=((32 * ((n + 64 - 1) / 64) : Nat) : Int) by omega,aP (by omega) (by omega),bX]
  rw[dQ]
  by_cases hlen:rr.length=32 * ((n + 64 - 1) / 64)
  ·rw[show(((rr.length:Nat) : Int) != ((32 * ((n + 64 - 1) / 64) : Nat) : Int))=false by simp; omega,dH,aL]
   have n3:(M2.push (.row [.sc (.slice none 0 0)] false TSS 0)).heap M2.next=some (.row [bA] false TSS 0):=RM.bR _
   have k3:ae [] M2 (M2.push (.row [.sc (.slice none 0 0)] false TSS 0)):=(ae.refl _ _).push _
   have x3:(M2.push (.row [.sc (.slice none 0 0)] false TSS 0)).next=M2.next + 1:=rfl
   show aU _ _
   generalize M2.push (.row [.sc (.slice none 0 0)] false TSS 0)=M3 at *
   have rd3:=rd2.keep k3 (by simp) (by simp)
   have k13:=k12.trans k3
   have hv3:=hv.keep k13 (by simp)
   rw[hv3.len]
   refine hl rd3 ?_
   rw[if_neg (by decide),gM,show(m.length:Int) - (rr.length:Int)=((m.length - rr.length:Nat) : Int) by omega,aP (by omega) (by omega)]
   refine hv3.sub (l:=m.length - rr.length) (u:=m.length) (sP _ _ _) (Ta _) (by omega) (Nat.le_refl _) fun w hw hwb=>?_
   have e0:(m.drop (m.length - rr.length)).take (m.length - (m.length - rr.length))=rr:=by
    rw[hdr,List.take_of_length_le (by omega)]
   rw[e0] at hw
   refine hk (n:=32) hw (by decide) (by decide) fun M4 k4 n4 n5 x4=>?_
   have hn4:=k13.next
   have hbw:∀ x∈ah w,x<M.next:=fun x hx=>hv.lt x (hwb x hx)
   have Wx:=k12.next
   have hn3:=k3.next
   refine F9 (n:=32) (T2:=T2) (T3:=T3) hrc (by decide) (by decide) (by omega) (hw.keep k4 (by simp)) (fun k M'=>∃ lv,ae [] M M'∧M2.next<M'.next∧M3.next + 1<M'.next∧M'.heap M2.next=some (.row [lv] false TSS 0)∧M'.heap M3.next=some (.row [w] false T2 0)∧M'.heap (M3.next + 1)=some (.row [N .i64 ((32:Nat) : Int)] false T3 0)∧Ow bO M' M.next TS lv (((bD 32 rr).take k).map kF) ∧
    (∀ x∈ah lv,x≠M2.next∧x≠M3.next∧x≠M3.next + 1)∧Bs M' w rr)
    ⟨bA,k13.trans k4,by omega,by omega,k4.aB n3 (by omega) (by simp),n4,n5,.nil,by simp[ah],hw.keep k4 (by simp)⟩ ?_ ?_ ?_
   ·rintro k M' ⟨lv,q1,q2,q3,q4,q5,q6,q7,q8,q9⟩
    exact⟨q5,q6,q9⟩
   ·rintro k M5 w5 hk5 ⟨lv,q1,q2,q3,q4,q5,q6,q7,q8,q9⟩ hw5 hb5
    have hkl:=(iB (n:=32) (b:=rr) (by decide)).1 hk5
    have hd:((rr.drop (k * 32)).take 32).length=32:=by rw[List.length_take,List.length_drop]; omega
    rw[aF q4 rfl]
    refine Xd hw5 hd (by decide) ?_
    refine hh hd fun M6 k6=>?_
    have p4:=k6.aB q4 q2 (by simp)
    rw[aF p4 rfl]
    refine⟨rfl, ?_⟩
    rw[fq (x:=St (kF ((rr.drop (k * 32)).take 32))) (size:=1) rfl rfl rfl,ru]
    have hn6:=k6.next
    have hll:(((bD 32 rr).take k).map kF).length≤1000000000:=by
     rw[List.length_map,List.length_take]
     have:(bD 32 rr).length≤1000000000:=by rw[eF]; unfold dN; omega
     omega
    refine fP (E:=bO) (a:=kF ((rr.drop (k * 32)).take 32)) (Own.keep q7 k6 (by simp)) (by have:=q1.next; omega) (by decide) (by omega) (by omega) fun v7 M7 o7 k7 hn7 hv7=>?_
    have p5:M2.next ∉ ah lv:=fun h=>(q8 _ h).1 rfl
    have r4:=k7.aB p4 (by omega) p5
    rw[gT [v7] r4 (by simp) (Own.cells o7) (Own.one o7) rfl]
    have k8:ae [M2.next] M7 (M7.put M2.next (.row [v7] false TSS 0)):=(ae.refl _ _).put _ (.inr (by simp))
    have kA:ae (M2.next :: ah lv) M5 (M7.put M2.next (.row [v7] false TSS 0)):=((k6.mono (by simp)).trans (k7.mono (fun x hx=>List.mem_cons_of_mem _ hx))).trans (k8.mono (by simp))
    have hblk:∀ x∈ah v7,x≠M2.next∧x≠M3.next∧x≠M3.next + 1:=by
     intro x hx
     rcases hv7 with rfl | hv7
     ·exact q8 x hx
     ·have:=hv7 x hx; omega
    have hlv:∀ x∈M2.next :: ah lv,M.next≤x∨x∈([] : List Nat):=by
     intro x hx
     rcases List.mem_cons.1 hx with rfl | hx
     ·exact .inl Wx
     ·exact .inl (Own.blk q7 x hx).1
    refine⟨v7,q1.bu kA hlv,by rw[Be]; omega,by rw[Be]; omega,aM _, ?_, ?_, ?_,hblk, ?_⟩
    ·exact kA.aB q5 (by omega) (by
      intro h
      rcases List.mem_cons.1 h with h | h
      ·omega
      ·exact(q8 _ h).2.1 rfl)
    ·exact kA.aB q6 (by omega) (by
      intro h
      rcases List.mem_cons.1 h with h | h
      ·omega
      ·exact(q8 _ h).2.2 rfl)
    ·rw[lQ hk5,List.map_append]
     exact Own.keep o7 k8 (fun x hx hm=>by simp at hm; exact(hblk x hx).1 hm)
    ·refine q9.keep kA fun x hx hm=>?_
     have:=hbw x hx
     rcases List.mem_cons.1 hm with h | h
     ·omega
     ·have:=(Own.blk q7 x h).1; omega
   ·rintro M5 ⟨lv,q1,q2,q3,q4,q5,q6,q7,q8,q9⟩
    rw[aF q4 rfl]
    rw[← eF,List.take_length] at q7
    exact hS n _ lv M5 q1 (by unfold iZ; rw[hsm]; dsimp only; rw[if_pos hlen]) q7
  ·rw[show(((rr.length:Nat) : Int) != ((32 * ((n + 64 - 1) / 64) : Nat) : Int))=true by simp; omega,fo]
   exact hN M2 k12 (by unfold iZ; rw[hsm]; dsimp only; rw[if_neg hlen])
def oP (b:Str) : Str:=gm b.length++(bD 64 b).flatMap qG
theorem GU (l:List Str) : (l.flatMap qG).length=32 * l.length:=by
 induction l with
 | nil=>rfl
 | cons x l ih=>rw[List.flatMap_cons,List.length_append,oI,ih,List.length_cons]; omega
theorem adr {T:Nat} {M:RM} {x z:AV} {K:AV→RM→Prop} (hc:x.cells=[x]) (h1:oneCell x=true) (hK:∀ M',ae [] M M'→M'.heap M.next=some (.row [x] false T 0)→M.next<M'.next→K (.ptr M.next 0) M') :
  aO (.row [z] false T 0) (fun b=>.ptr b 0) M fun t M1=>aS M1 t x 1 fun M2=>K t M2:=by
 simp only[aL]
 have n1:(M.push (.row [z] false T 0)).heap M.next=some (.row [z] false T 0):=RM.bR _
 rw[gT [x] n1 (by simp) hc h1 rfl]
 exact hK _ (((ae.refl _ _).push _).new _ (Nat.le_refl _)) (aM _) (by simp[RM.push,RM.put])
theorem adf {T:Nat} {M:RM} {z:AV} {K:AV→RM→Prop} {l:List AV} (hl:l=[z]) (hK:∀ M',ae [] M M'→M'.heap M.next=some (.row [z] false T 0)→M.next<M'.next→K (.ptr M.next 0) M') :
  aO (.row l false T 0) (fun b=>.ptr b 0) M fun t M1=>K t M1:=by
 subst hl
 simp only[aL]
 exact hK _ ((ae.refl _ _).push _) (RM.bR _) (by simp[RM.push])
def Vi (T8 TB:Nat) (c:au) : Prop:=∀ {M:RM} {v:AV} {b:Str} {Q:ak},Bs M v b→b.length≤1000000000 →
 (4096<b.length→Q (.tup [St [],bA,bA,N .i64 2]) M) →
 (∀ mv lv M' (S:Nat→Prop),b.length≤4096→ae [] M M'→Ow BY M' M.next T8 mv (oP b)→gI kY M' M.next TB lv (bD 64 b) S→(∀ x,S x→M.next≤x∧x<M'.next∧x ∉ ah mv∧x ∉ ah lv)→Q (.tup [St (bM (oP b)),mv,lv,N .i64 0]) M')→c [v] M Q
theorem Vj {T8 TB TU8 T32 T2 T3 gf:Nat} {cu cl ck cs cn:au} {rc:FuncId→Prop} (hu:S9 TU8 cu) (hcl:Sha.kN TU8 cl) (hk:I9 gf T2 T3 ck) (hrc:rc gf) (hs:CZ cs) (hn:rQ cn) :
  Vi TU8 T8 fun args M Q=>∃ a0,args=[a0]∧rF cu T8 TB cl ck rc cs T32 TU8 cn a0 M Q:=by
 intro M v b Q hv hbl hE hS
 refine⟨_,rfl, ?_⟩
 unfold rF
 rw[hv.len,fZ]
 refine aJ (fun hgt=>?_) fun hle=>?_
 ·exact hE (by have:(b.length:Int) > 4096:=of_decide_eq_true hgt; omega)
 have hle:b.length≤4096:=by have:¬ (b.length:Int) > 4096:=of_decide_eq_false hle; omega
 rw[hv.len,cZ,bZ (by omega) (by omega)]
 refine hu (a0:=bA) (cs:=[]) (n:=0) (v:=b.length) .nil rfl (by omega) (by omega) fun mv M1 o1 k1=>?_
 rw[List.nil_append,Nat.zero_add] at o1
 have o1:Ow BY M1 M.next TU8 mv (gm b.length):=by
  unfold Ow; rw[show BY.row (gm b.length)=eG (gm b.length) from lJ _]; exact o1
 have hul:(gm b.length).length≤10:=Ay (by omega)
 refine adr (Own.cells o1) (Own.one o1) fun M2 k2 n2 x2=>?_
 refine adf (by rfl) fun M3 k3 n3 x3=>?_
 have hn1:=k1.next
 have hn2:=k2.next
 have hn3:=k3.next
 have k13:=(k1.trans k2).trans k3
 have hv3:=hv.keep k13 (by simp)
 refine hcl hv3.sl (by omega) fun c M4 oc k4=>?_
 have hn4:=k4.next
 have hcb:Bs M4 c b:=Bs.own oc
 have hcB:=fun x hx=>(Own.blk oc x hx)
 refine hk (n:=64) hcb (by decide) (by decide) fun M5 k5 n5 n6 x5=>?_
 have hmb:∀ x∈ah mv,M.next≤x∧x<M1.next:=fun x hx=>Own.blk o1 x hx
 have k25:=(k2.trans k3).trans (k4.trans k5)
 have i2:=(k3.trans (k4.trans k5)).aB n2 x2 (by simp)
 have i3:=(k4.trans k5).aB n3 x3 (by simp)
 have abV:∀ k,((bD 64 b).take k).length≤64:=fun k=>by
  rw[List.length_take,eF]; unfold dN; omega
 refine F9 (n:=64) (T2:=T2) (T3:=T3) hrc (by decide) (by decide) (by omega) (hcb.keep k5 (by simp)) (fun k M'=>∃ mv lv S,ae [] M M'∧M5.next≤M'.next∧M'.heap M1.next=some (.row [mv] false T8 0)∧M'.heap M2.next=some (.row [lv] false TB 0) ∧
   M'.heap M4.next=some (.row [c] false T2 0)∧M'.heap (M4.next + 1)=some (.row [N .i64 ((64:Nat) : Int)] false T3 0)∧Bs M' c b ∧
   Ow BY M' M.next TU8 mv (gm b.length++((bD 64 b).take k).flatMap qG)∧gI kY M' M.next T8 lv ((bD 64 b).take k) S ∧
   (∀ x∈ah mv,x<M1.next∨M5.next≤x)∧(∀ x∈ah lv,M5.next≤x)∧(∀ x,S x→M5.next≤x∧x<M'.next∧x ∉ ah mv∧x ∉ ah lv)∧(∀ x∈ah mv,x ∉ ah lv))
   ⟨mv,bA,fun _=>False,k13.trans (k4.trans k5),Nat.le_refl _,i2,i3,n5,n6,hcb.keep k5 (by simp),by simpa using Own.keep o1 k25 (by simp),.nil,fun x hx=>.inl (hmb x hx).2,by simp[ah],fun x h=>h.elim,by simp[ah]⟩ ?_ ?_ ?_
 ·rintro k M' ⟨mv,lv,S,q1,q2,q3,q4,q5,q6,q7,_⟩
  exact⟨q5,q6,q7⟩
 ·rintro k M6 w hk6 ⟨mv,lv,S,q1,q2,q3,q4,q5,q6,q7,q8,q9,q10,q11,q12,q13⟩ hw hwb
  have hkl:=(iB (n:=64) (b:=b) (by decide)).1 hk6
  have hdl:((b.drop (k * 64)).take 64).length≤64:=by rw[List.length_take]; omega
  have hct:=abV k
  rw[aF q4 rfl]
  refine hcl hw.sl (by omega) fun d M7 od k7=>?_
  have hn7:=k7.next
  have j4:=k7.aB q4 (by omega) (by simp)
  rw[aF j4 rfl]
  refine⟨rfl, ?_⟩
  rw[fq (x:=d) (size:=1) (by rw[Own.cells od]; rfl) (by rw[Own.cells od]; simp[Own.one od]) rfl,Own.cells od,ru]
  have hS1:∀ x,(S x∨x∈ah d)→M5.next≤x∧x<M7.next:=by
   rintro x (h | h)
   ·have:=q12 x h; omega
   ·have:=Own.blk od x h; omega
  have OU:∀ x∈ah lv,¬ (S x∨x∈ah d):=by
   rintro x hx (h | h)
   ·exact(q12 x h).2.2.2 hx
   ·have:=Own.blk od x h
    have:=q9.blk x hx
    omega
  have q9' : gI kY M7 M.next T8 lv ((bD 64 b).take k) (fun x=>S x∨x∈ah d):=(q9.keep k7 (by simp) (by simp)).mono (fun x h=>.inl h)
  refine gI.app (R:=kY) (a:=(b.drop (k * 64)).take 64) q9' ⟨d,rfl,Bs.own od,fun x hx=>.inr hx⟩ (by have:=q1.next; omega) (Nat.le_refl 1) OU (fun x hx=>(hS1 x hx).2) (by omega) (by omega) fun lv8 M8 o8 k8 hn8 hl8 hd8=>?_
  have j5:M2.next ∉ ah lv:=fun h=>by have:=q11 _ h; omega
  have m4:=k8.aB j4 (by omega) j5
  rw[gT [lv8] m4 (by simp) o8.cells o8.one rfl]
  have k9:ae [M2.next] M8 (M8.put M2.next (.row [lv8] false TB 0)):=(ae.refl _ _).put _ (.inr (by simp))
  have m9:(M8.put M2.next (.row [lv8] false TB 0)).heap M2.next=some (.row [lv8] false TB 0):=aM _
  have x9:(M8.put M2.next (.row [lv8] false TB 0)).next=M8.next:=rfl
  show cs _ (M8.put M2.next (.row [lv8] false TB 0)) _
  generalize M8.put M2.next (.row [lv8] false TB 0)=M9 at *
  have k69:ae (M2.next :: ah lv) M6 M9:=((k7.mono (by simp)).trans (k8.mono (fun x hx=>List.mem_cons_of_mem _ hx))).trans (k9.mono (by simp))
  have hcw:∀ x∈ah w,x ∉ M2.next :: ah lv:=fun x hx hm=>by
   have h1:=hcB x (hwb x hx)
   rcases List.mem_cons.1 hm with h | h
   ·omega
   ·have:=q11 x h; omega
  refine hs (hw.keep k69 hcw) (by omega) fun M10 k10=>?_
  have hsl:=oI ((b.drop (k * 64)).take 64)
  refine wV (K:=fun t Gf=>_) (z:=BY.row (List.replicate 32 0)) 32 (by rw[fT,List.length_replicate]) (by rw[fT,hsl]) (BY.dF _) fun M11 k11 n11 x11=>?_
  have V7:=k10.next
  have aaf:=k11.next
  have WO:=k10.trans k11
  have VT:ae (M2.next :: ah lv) M6 M11:=k69.trans (WO.mono (by simp))
  have p3:=VT.aB q3 (by omega) (fun hm=>by
   rcases List.mem_cons.1 hm with h | h
   ·omega
   ·have:=q11 _ h; omega)
  rw[aF p3 rfl,Gn (by omega),iF]
  have hA:=Bs.arr n11 x11
  rw[hsl] at hA
  have hmv:∀ x∈ah mv,x ∉ M2.next :: ah lv:=fun x hx hm=>by
   rcases List.mem_cons.1 hm with h | h
   ·have:=q10 x hx; omega
   ·exact q13 x hx h
  have RZ:∀ x∈ah mv,M.next≤x∧x<M6.next:=fun x hx=>Own.blk q8 x hx
  have hfl:=GU ((bD 64 b).take k)
  refine iE (E:=BY) (Own.keep q8 VT hmv) (by have:=q1.next; omega) (by decide) hA.sl (by rw[List.length_append,hfl,hsl]; omega) (by rw[List.length_append,hfl,hsl]; omega) fun DD M12 o12 k12 Wx Az=>?_
  have p3':=k12.aB p3 (by omega) (fun h=>by
   have:=q10 _ h; omega)
  rw[gT [DD] p3' (by simp) (Own.cells o12) (Own.one o12) rfl]
  have QR:ae [M1.next] M12 (M12.put M1.next (.row [DD] false T8 0)):=(ae.refl _ _).put _ (.inr (by simp))
  have m13:(M12.put M1.next (.row [DD] false T8 0)).heap M1.next=some (.row [DD] false T8 0):=aM _
  have x13:(M12.put M1.next (.row [DD] false T8 0)).next=M12.next:=rfl
  generalize M12.put M1.next (.row [DD] false T8 0)=M13 at *
  have acz:=o8.blk
  have hS8:∀ x,(S x∨x∈ah d)→x ∉ ah mv:=by
   rintro x (h | h) hm
   ·exact(q12 x h).2.2.1 hm
   ·have:=Own.blk od x h; have:=RZ x hm; omega
  have aaG:∀ x∈ah lv8,M5.next≤x:=by
   intro x hx
   rcases hl8 with rfl | hl8
   ·exact q11 x hx
   ·have:=hl8 x hx; omega
  have Y7:∀ x∈ah lv8,x ∉ ah mv:=by
   intro x hx hm
   rcases hl8 with rfl | hl8
   ·exact q13 x hm hx
   ·have:=hl8 x hx; have:=RZ x hm; omega
  have ZP:∀ x∈ah DD,x<M1.next∨M5.next≤x:=by
   intro x hx
   rcases Az with rfl | Az
   ·exact q10 x hx
   ·have:=Az x hx; omega
  have kT:ae (M2.next :: M1.next :: ah mv) M8 M13:=((k9.mono (by simp)).trans (WO.mono (by simp))).trans ((k12.mono (fun x hx=>List.mem_cons_of_mem _ (List.mem_cons_of_mem _ hx))).trans (QR.mono (by simp)))
  have kA:ae (M2.next :: M1.next :: (ah lv++ah mv)) M6 M13:=(VT.mono (fun x hx=>by
    rcases List.mem_cons.1 hx with rfl | hx
    ·exact List.mem_cons_self ..
    ·exact List.mem_cons_of_mem _ (List.mem_cons_of_mem _ (List.mem_append_left _ hx)))).trans ((k12.mono (fun x hx=>List.mem_cons_of_mem _ (List.mem_cons_of_mem _ (List.mem_append_right _ hx)))).trans (QR.mono (by simp)))
  have out:∀ x,M3.next≤x→x<M5.next→x ∉ M2.next :: M1.next :: (ah lv++ah mv):=by
   intro x h1 h2 hm
   rcases List.mem_cons.1 hm with h | hm
   ·omega
   rcases List.mem_cons.1 hm with h | hm
   ·omega
   rcases List.mem_append.1 hm with h | h
   ·have:=q11 x h; omega
   ·have:=q10 x h; omega
  refine⟨DD,lv8,fun x=>S x∨x∈ah d,q1.bu kA ?_,by omega,m13, ?_,kA.aB q5 (by omega) (out _ (by omega) (by omega)),kA.aB q6 (by omega) (out _ (by omega) (by omega)),q7.keep kA (fun x hx=>out x (hcB x hx).1 (by have:=hcB x hx; omega)), ?_, ?_,ZP,aaG, ?_, ?_⟩
  ·intro x hm
   rcases List.mem_cons.1 hm with h | hm
   ·exact .inl (by omega)
   rcases List.mem_cons.1 hm with h | hm
   ·exact .inl (by omega)
   rcases List.mem_append.1 hm with h | h
   ·exact .inl (by have:=q11 x h; omega)
   ·exact .inl (RZ x h).1
  ·refine(k12.mono (cs:=M1.next :: ah mv) (fun x hx=>List.mem_cons_of_mem _ hx)).trans (QR.mono (by simp)) |>.aB (WO.aB m9 (by omega) (by simp)) (by omega) (fun hm=>?_)
   rcases List.mem_cons.1 hm with h | h
   ·omega
   ·have:=q10 _ h; omega
  ·rw[lQ hk6,List.flatMap_append,← List.append_assoc,List.flatMap_cons,List.flatMap_nil,List.append_nil]
   refine Own.keep o12 QR (fun x hx hm=>?_)
   simp at hm
   have:=ZP x hx; omega
  ·rw[lQ hk6]
   refine o8.keep kT (fun x hx hs=>?_) (fun x hx hm=>?_)
   ·have:=hS1 x hs
    rcases List.mem_cons.1 hx with h | hx
    ·omega
    rcases List.mem_cons.1 hx with h | hx
    ·omega
    ·exact hS8 x hs hx
   ·have:=aaG x hx
    rcases List.mem_cons.1 hm with h | hm
    ·omega
    rcases List.mem_cons.1 hm with h | hm
    ·omega
    ·exact Y7 x hx hm
  ·intro x hx
   have:=hS1 x hx
   refine⟨this.1,by omega,fun hm=>?_,fun hm=>hd8 x hm hx⟩
   rcases Az with rfl | Az
   ·exact hS8 x hx hm
   ·have:=Az x hm; omega
  ·intro x hx hm
   have:=acz x hm
   rcases Az with rfl | Az
   ·exact Y7 x hm hx
   ·have:=Az x hx; omega
 ·rintro M6 ⟨mv,lv,S,q1,q2,q3,q4,q5,q6,q7,q8,q9,q10,q11,q12,q13⟩
  rw[← eF,List.take_length] at q8 q9
  rw[aF q3 rfl,aF q3 rfl,aF q4 rfl]
  have hml:(oP b).length≤100000:=by
   unfold oP
   rw[List.length_append,GU,eF]; unfold dN; omega
  refine hn (Bs.own q8) (by show(oP b).length≤_; omega) fun M7 k7=>?_
  rw[aF (k7.aB q3 (by omega) (by simp)) rfl]
  refine⟨rfl, ?_⟩
  rw[aF (k7.aB q4 (by omega) (by simp)) rfl]
  refine⟨rfl,hS mv lv M7 S hle (q1.trans k7) (Own.keep q8 k7 (by simp)) (q9.keep k7 (by simp) (by simp)) fun x hx=>?_⟩
  have h12:=q12 x hx
  have:=k7.next
  exact⟨by omega,by omega,h12.2.2.1,h12.2.2.2⟩
def tX (TB:Nat) (c:au) : Prop:=∀ {M:RM} {v:AV} {b:Str} {Q:ak},Bs M v b→b.length≤1000000000 →
 (∀ lv M',ae [] M M'→gI kY M' M.next TB lv (bD 64 b) (fun x=>x∈ah v)→Q lv M')→c [v] M Q
theorem JV {TB:Nat} : tX TB fun args M Q=>∃ a0,args=[a0]∧qX TB a0 M Q:=by
 intro M v b Q hv hbl hQ
 refine⟨_,rfl, ?_⟩
 unfold qX
 refine Sha.xJ ?_
 show aO _ _ _ _
 rw[aL]
 have k0:ae [] M (M.push (.row [] false TB 0)):=(ae.refl _ _).push _
 have BL:=hv.lt
 have o0:gI kY (M.push (.row [] false TB 0)) M.next TB (.slc M.next 0 0 (.ex 0)) [] (fun x=>x∈ah v):=⟨[],Own.lit M (Nat.le_refl _),.nil⟩
 refine aG (fun m ys M3=>∃ (k:Nat) (pv lv:AV),m=b.length - k * 64∧ys=[pv,lv]∧ae [] M M3∧Bs M3 pv (b.drop (k * 64))∧(∀ x∈ah pv,x∈ah v)∧gI kY M3 M.next TB lv ((bD 64 b).take k) (fun x=>x∈ah v)∧k * 64≤b.length∧(0<k→k * 64<b.length)) _
  ⟨0,v,_,rfl,rfl,k0,by simpa using hv.keep k0 (by simp),fun x h=>h,by simpa using o0,by omega,fun h=>by omega⟩ ?_
 rintro next m ys M3 hnext ⟨k,pv,lv,rfl,rfl,k3,hp,hpb,o3,hk1,hk2⟩
 simp only[aC,bF]
 have hdl:(b.drop (k * 64)).length=b.length - k * 64:=List.length_drop ..
 rw[hp.len,show(64:Int)=((64:Nat) : Int) from rfl,Xi]
 have hn3:=k3.next
 have OU:∀ x∈ah lv,¬ x∈ah v:=fun x hx h=>by have:=(o3.blk x hx).1; have:=BL x h; omega
 have htl:((bD 64 b).take k).length≤100000000:=by rw[List.length_take,eF]; unfold dN; omega
 refine aJ (fun hc=>?_) fun hc=>?_
 ·have hc:(b.drop (k * 64)).length > 64:=of_decide_eq_true hc
  refine hp.sub (l:=0) (u:=64) (Ta _) (sP _ _ _) (by omega) (by omega) fun w hw hwb=>?_
  rw[List.drop_zero,Nat.sub_zero] at hw
  rw[fq (x:=w) (size:=1) (by rw[aD.cells hw.sl]; rfl) (by rw[aD.cells hw.sl]; simp[aD.one hw.sl]) rfl,aD.cells hw.sl,aL]
  refine gI.app (R:=kY) (a:=(b.drop (k * 64)).take 64) o3 ⟨w,rfl,hw,fun x hx=>hpb x (hwb x hx)⟩ hn3 (Nat.le_refl 1) OU (fun x hx=>by have:=BL x hx; omega) (by omega) (by omega) fun lv4 M4 o4 k4 hn4 hl4 hd4=>?_
  have k4' : ae [] M M4:=ae.own k3 k4 (fun x hx=>(o3.blk x hx).1)
  have hp4:=hp.keep k4 (fun x hx hm=>OU x hm (hpb x hx))
  refine hp4.sub (l:=64) (u:=(b.drop (k * 64)).length) (sP _ _ _) (Ta _) (by omega) (Nat.le_refl _) fun w2 hw2 adh=>?_
  rw[List.take_of_length_le (by rw[List.length_drop]; omega),List.drop_drop,show k * 64 + 64=(k + 1) * 64 by omega] at hw2
  refine hnext _ _ _ (by omega) ⟨k + 1,w2,lv4,rfl,rfl,k4',hw2,fun x hx=>hpb x (adh x hx), ?_,by omega,fun _=>by omega⟩
  rw[lQ ((iB (by decide)).2 (by omega))]
  exact o4
 ·have hc:¬ (b.drop (k * 64)).length > 64:=of_decide_eq_false hc
  unfold ek
  dsimp only
  rw[hp.len,show(0:Int)=((0:Nat) : Int) from rfl,Xi]
  simp only[aC]
  refine aJ (fun hd=>?_) fun hd=>?_
  ·have hd:(b.drop (k * 64)).length > 0:=of_decide_eq_true hd
   rw[fq (x:=pv) (size:=1) (by rw[aD.cells hp.sl]; rfl) (by rw[aD.cells hp.sl]; simp[aD.one hp.sl]) rfl,aD.cells hp.sl,aL]
   refine gI.app (R:=kY) (a:=b.drop (k * 64)) o3 ⟨pv,rfl,hp,hpb⟩ hn3 (Nat.le_refl 1) OU (fun x hx=>by have:=BL x hx; omega) (by omega) (by omega) fun lv4 M4 o4 k4 hn4 hl4 hd4=>?_
   refine hQ lv4 M4 (ae.own k3 k4 (fun x hx=>(o3.blk x hx).1)) ?_
   have hk:k<dN 64 b:=(iB (by decide)).2 (by omega)
   have hk' : k + 1=dN 64 b:=by
    have:¬ k + 1<dN 64 b:=fun h=>by have:=(iB (by decide)).1 h; omega
    omega
   have:=lQ hk
   rw[hk',← eF,List.take_length] at this
   rw[this,List.take_of_length_le (l:=b.drop (k * 64)) (by omega)]
   exact o4
  ·have hd:¬ (b.drop (k * 64)).length > 0:=of_decide_eq_false hd
   have hk' : ¬ k<dN 64 b:=fun h=>by have:=(iB (by decide)).1 h; omega
   rw[List.take_of_length_le (by rw[eF]; omega)] at o3
   exact hQ lv M3 k3 o3
structure Nw (n0:Nat) (M:RM) (v:AV) (b:Str) : Prop where
 bs:Bs M v b
 new:∀ x∈ah v,n0≤x
theorem Nw.keep {n0:Nat} {M M' : RM} {v:AV} {b:Str} {ks:List Nat} (h:Nw n0 M v b) (k:ae ks M M') (hb:∀ x∈ah v,x ∉ ks) : Nw n0 M' v b:=⟨h.bs.keep k hb,h.new⟩
theorem ZI {T base:Nat} {M:RM} {v:AV} {b:Str} (h:xC T M base v b) : Nw base M v b:=by
 refine⟨⟨h.sl, ?_⟩, ?_⟩
 ·rcases h with h | ⟨c,rfl,_⟩
  ·exact Qg h
  ·exact Nat.le_refl _
 ·rcases h with h | ⟨c,rfl,h1,_⟩
  ·exact fun x hx=>(Own.blk h x hx).1
  ·simpa [ah] using h1
theorem X4 {T base:Nat} {M:RM} {v u:AV} {L L' : List UInt8} {zs:List AV} {K:ak} (h:xC T M base v L) (hb:base≤M.next) (hu:Sl BY M u L') (hl:L.length + L'.length≤1000000000) (h0:0<L'.length)
  (hK:∀ v' M',xC T M' base v' (L++L')→ae (ah v) M M'→(∀ d∈ah v,base≤d)→(v'=v∨∀ d∈ah v',M.next≤d)→K v' M') : appW T 1 1 zs false v u M K:=by
 have hcs:BY.row L'=eG L':=lJ L'
 have hu' : aD M 1 u (eG L') L'.length:=by rw[← hcs]; exact hu
 rcases h with h | ⟨b,rfl,h1,h2,h3⟩
 ·refine qH h hb (Nat.le_refl _) (hu'.mr _) (by simp) (mY _) (by omega) (by omega) ?_
  intro v' M' o k _ q
  refine hK v' M' (.inl ?_) k (fun d hd=>(h.blk d hd).1) q
  rw[oC,List.length_append]; exact o
 ·refine⟨L'.length,eG L',hu'.mr _,by omega,by omega, ?_⟩
  have hld:M.loads b 0 (L.length * 1)=some (eG L):=by
   rw[RM.gV h3 (by simp),Nat.mul_one,List.drop_zero,List.take_of_length_le (by simp)]
  refine⟨.slc M.next 0 (L.length + L'.length) (.op 1),M.push (.row (eG L++eG L') true T 0), ?_,hK _ _ (.inl ?_) ((ae.refl _ _).push _) (by simp[ah]; exact h1) (.inr (by simp[ah]))⟩
  ·have hone:(eG L++eG L').all oneCell=true:=by rw[List.all_append,mY,mY]; rfl
   simp only[sU,if_neg (show ¬ L'.length=0 by omega),if_neg (show ¬ L.length + L'.length≤L.length by omega),hld]
   rw[if_pos ⟨by omega,by omega,hone⟩]
  ·rw[List.length_append,oC]
   exact .op _ _ _ hb (by simp[RM.push]) (RM.bR _) (by simp)
def uW (c:au) : Prop:=∀ {M:RM} {v:AV} {b:Str} {Q:ak},Bs M v b→b.length≤100000 →
 (∀ mv M',ae [] M M'→Nw M.next M' mv (oP b)→Q mv M')→c [v] M Q
def MQ (T:Nat) (c:au) : Prop:=∀ v,v<2 ^ 64→AO T v c
theorem Hr {T8 TB T32:Nat} {cu cc cs:au} (hu:MQ T8 cu) (hc:tX TB cc) (hs:CZ cs) : uW fun args M Q=>∃ a0,args=[a0]∧oK cu cc cs T32 T8 a0 M Q:=by
 intro M v b Q hv hbl hQ
 refine⟨_,rfl, ?_⟩
 unfold oK
 rw[hv.len,cZ,bZ (by omega) (by omega)]
 refine hu b.length (by omega) fun mv M1 o1 k1=>?_
 refine hc (hv.keep k1 (by simp)) (by omega) fun lv M2 k2 o2=>?_
 have hul:(gm b.length).length≤10:=Ay (by omega)
 have BL:=hv.lt
 have hn1:=k1.next
 have hn2:=k2.next
 have hcl:(bD 64 b).length≤10000:=by rw[eF]; unfold dN; omega
 refine aG (fun m ys M3=>∃ (i:Nat) (mv:AV),m=(bD 64 b).length - i∧ys=[mv,N .i64 (i:Int)]∧i≤(bD 64 b).length∧ae [] M M3∧M2.next≤M3.next∧xC T8 M3 M.next mv (gm b.length++((bD 64 b).take i).flatMap qG)∧gI kY M3 M1.next TB lv (bD 64 b) (fun x=>x∈ah v)∧(∀ x∈ah mv,x<M1.next∨M2.next≤x)) _
  ⟨0,mv,rfl,rfl,Nat.zero_le _,k1.trans k2,Nat.le_refl _,by simpa using o1.keep k2,o2,fun x hx=>.inl (by
   have:=aD.lt o1.sl x hx; omega)⟩ ?_
 rintro next m ys M3 hnext ⟨i,mv,rfl,rfl,hi,k3,hn3,o3,p3,hmb⟩
 simp only[aC,bF]
 rw[p3.len,fE]
 have hsd:fw kY M3 lv (bD 64 b) (fun x=>x∈ah v∨M1.next≤x):=(p3.mono (fun x h=>.inl h)).xO (fun x h _=>.inr h)
 refine aJ (fun hlt=>?_) fun hge=>?_
 ·have hlt:i<(bD 64 b).length:=of_decide_eq_true hlt
  obtain⟨c,o,cs',hcn,hcb,hidx,hld,w,rfl,hw,hwb⟩:=hsd.at (i:=i) 1 (i:Int) hlt
  rw[hidx,dM]
  refine⟨w,fO.1 hld, ?_⟩
  refine hs hw (by rw[Ir hlt,List.length_take]; omega) fun M4 k4=>?_
  have hsl:=oI ((bD 64 b)[i])
  refine wV (K:=fun t Gf=>_) (z:=BY.row (List.replicate 32 0)) 32 (by rw[fT,List.length_replicate]) (by rw[fT,hsl]) (BY.dF _) fun M5 k5 n5 x5=>?_
  rw[Gn (by omega),iF]
  have hA:=Bs.arr n5 x5
  rw[hsl] at hA
  have k45:=k4.trans k5
  have hn45:=k45.next
  have hfl:=GU ((bD 64 b).take i)
  have htl:((bD 64 b).take i).length≤10000:=by rw[List.length_take]; omega
  refine X4 (o3.keep k45) (by omega) hA.sl (by rw[List.length_append,hfl,hsl]; omega) (by rw[hsl]; decide) fun mv6 M6 o6 k6 hb6 hv6=>?_
  rw[show(1:Int)=((1:Nat) : Int) from rfl,addN (by omega)]
  have hn6:=k6.next
  have k36:ae (ah mv) M3 M6:=(k45.mono (by simp)).trans k6
  refine hnext _ _ _ (by omega) ⟨i + 1,mv6,rfl,rfl,hlt,k3.bu k36 (fun x hx=>.inl (hb6 x hx)),by omega, ?_, ?_, ?_⟩
  ·rw[List.take_succ_eq_append_getElem hlt,List.flatMap_append,← List.append_assoc]
   simpa using o6
  ·refine p3.keep k36 (fun x hx h=>?_) (fun x hx hm=>?_)
   ·have:=hb6 x hx; have:=BL x h; omega
   ·have:=p3.blk x hx
    have:=hmb x hm
    have:=o2.blk x hx
    omega
  ·intro x hx
   rcases hv6 with rfl | hv6
   ·exact hmb x hx
   ·have:=hv6 x hx; omega
 ·have:i=(bD 64 b).length:=by have:¬ i<(bD 64 b).length:=of_decide_eq_false hge; omega
  subst this
  rw[List.take_length] at o3
  exact hQ mv M3 k3 (ZI o3)
def rV (TS:Nat) (c:au) : Prop:=∀ {M:RM} {v:AV} {m:Str} {Q:ak},Bs M v m→m.length≤140737488355328 →
 (iZ m=none→Q (.tup [N .i64 0,bA,Bo false]) M) →
 (∀ n l lv M',ae [] M M'→iZ m=some (n,l)→Ow bO M' M.next TS lv l→Q (.tup [N .i64 (n:Int),lv,Bo true]) M')→c [v] M Q
theorem LV {TS:Nat} {cs ch:au} (hs:JH cs) (hh:Mh ch) : rV TS fun args M Q=>∃ a0,args=[a0]∧tC cs TS ch a0 M Q:=by
 intro M v m Q hv hml hN hS
 refine⟨_,rfl, ?_⟩
 unfold tC
 simp only[mX,xU,vT,Aj]
 refine hs (most:=4096) hv.sl (aeq hv.cap) (by decide) (fun h0=>?_) (fun n r v' h1 h2=>?_)
 ·rw[cz,dD,jd,dO,Bool.not_false]
  simp only[gp]
  rw[dX,fo]
  exact hN (by unfold iZ; rw[h0])
 ·rw[cz,dD,jd,dO,Bool.not_true]
  simp only[bU]
  have hn:n≤4096∧r.length≤m.length:=by
   unfold FR at h1
   split at h1
   ·rename_i w k hb
    split at h1
    ·cases h1
    ·cases h1; exact⟨by omega,by simp⟩
   ·cases h1
  have hr:Bs M v' r:=⟨h2.sl,abb h2.cap⟩
  rw[hr.len,fQ 64 (by omega) (by omega) (by rfl),yM 1 (by omega) (by omega) (by rfl),qY]
  refine⟨by decide, ?_⟩
  have e:((n + 64 - 1:Nat) : Int).tdiv 64=(((n + 64 - 1) / 64:Nat) : Int):=rfl
  rw[e,aP (by omega) (by omega),fK,show(32:Int) * (((n + 64 - 1) / 64:Nat) : Int)=((32 * ((n + 64 - 1) / 64) : Nat) : Int) by omega,aP (by omega) (by omega),bX,dQ]
  by_cases hlen:r.length=32 * ((n + 64 - 1) / 64)
  ·rw[show(((r.length:Nat) : Int) != ((32 * ((n + 64 - 1) / 64) : Nat) : Int))=false by simp; omega,dH]
   refine Sha.xJ ?_
   show aO _ _ _ _
   rw[aL]
   have k0:ae [] M (M.push (.row [] false TS 0)):=(ae.refl _ _).push _
   have o0:Ow bO (M.push (.row [] false TS 0)) M.next TS (.slc M.next 0 0 (.ex 0)) []:=Ow.lit bO M
   refine aG (fun mm ys M3=>∃ (k:Nat) (lv:AV),mm=r.length - k * 32∧ys=[lv,N .i64 ((k * 32:Nat) : Int)]∧ae [] M M3∧Ow bO M3 M.next TS lv (((bD 32 r).take k).map kF)∧k * 32≤r.length) _
    ⟨0,_,rfl,rfl,k0,by simpa using o0,by omega⟩ ?_
   rintro next mm ys M3 hnext ⟨k,lv,rfl,rfl,k3,o3,hk⟩
   simp only[aC,bF]
   have hr3:=hr.keep k3 (by simp)
   have hn3:=k3.next
   rw[hr3.len,fE]
   refine aJ (fun hc=>?_) fun hc=>?_
   ·have hc:k * 32<r.length:=of_decide_eq_true hc
    have hk2:k * 32 + 32≤r.length:=by omega
    rw[fQ 32 (by omega) (by omega) (by rfl)]
    refine hr3.sub (l:=k * 32) (u:=k * 32 + 32) (sP _ _ _) (sP _ _ _) (by omega) hk2 fun w hw hwb=>?_
    rw[show k * 32 + 32 - k * 32=32 by omega] at hw
    refine hh hw (by rw[List.length_take]; omega) fun M4 k4=>?_
    rw[fq (x:=St (kF ((r.drop (k * 32)).take 32))) (size:=1) rfl rfl rfl,aL]
    have hll:(((bD 32 r).take k).map kF).length≤1000000000:=by
     rw[List.length_map,List.length_take]
     have:(bD 32 r).length≤1000000000:=by rw[eF]; unfold dN; omega
     omega
    have hn4:=k4.next
    refine fP (E:=bO) (a:=kF ((r.drop (k * 32)).take 32)) (Own.keep o3 k4 (by simp)) (by omega) (by decide) (by omega) (by omega) fun v5 M5 o5 k5 hn5 hv5=>?_
    rw[fQ 32 (by omega) (by omega) (by rfl),show k * 32 + 32=(k + 1) * 32 by omega]
    refine hnext _ _ _ (by omega) ⟨k + 1,v5,rfl,rfl,ae.own (k3.trans k4) k5 (fun x hx=>(Own.blk o3 x hx).1), ?_,by omega⟩
    rw[lQ ((iB (by decide)).2 hc),List.map_append]
    exact o5
   ·have hc:¬ k * 32<r.length:=of_decide_eq_false hc
    have hk' : ¬ k<dN 32 r:=fun h=>by have:=(iB (by decide)).1 h; omega
    rw[List.take_of_length_le (by rw[eF]; omega)] at o3
    exact hS n _ lv M3 k3 (by unfold iZ; rw[h1]; dsimp only; rw[if_pos hlen]) o3
  ·rw[show(((r.length:Nat) : Int) != ((32 * ((n + 64 - 1) / 64) : Nat) : Int))=true by simp; omega,fo]
   exact hN (by unfold iZ; rw[h1]; dsimp only; rw[if_neg hlen])
def Nq (c:au) : Prop:=∀ {M:RM} {v w:AV} {x y:List Str} {Q:ak},Sl bO M v x→Sl bO M w y→x.length≤1000000000→y.length≤1000000000→Q (Bo (decide (x=y))) M→c [v,w] M Q
theorem gG {M:RM} {v:AV} {x:List Str} {i:Nat} {K:AV→Prop} (h:Sl bO M v x) (hi:i<x.length) (hK:K (St x[i])) : aI v (N .i64 (i:Int)) 1 fun t=>ag M t K:=by
 obtain⟨b,o,_,_,hidx,hld⟩:=Sl.at h 1 (i:Int) hi
 rw[hidx,dM]
 exact⟨_,fO.1 hld,hK⟩
theorem SG:Nq fun args M Q=>∃ a0 a1,args=[a0,a1]∧tN a0 a1 M Q:=by
 intro M v w x y Q hx hy hxl hyl hQ
 refine⟨_,_,rfl, ?_⟩
 unfold tN
 rw[aD.len hx,aD.len hy,bX]
 by_cases hl:x.length=y.length
 ·rw[show(((x.length:Nat) : Int) != ((y.length:Nat) : Int))=false by simp[hl],dH]
  refine aG (fun m ys M3=>∃ i:Nat,m=x.length - i∧ys=[N .i64 (i:Int)]∧i≤x.length∧M3=M∧x.take i=y.take i) _ ⟨0,rfl,rfl,Nat.zero_le _,rfl,rfl⟩ ?_
  rintro next m ys M3 hnext ⟨i,rfl,rfl,hi,rfl,he⟩
  simp only[aC,bF]
  rw[aD.len hx,fE]
  refine aJ (fun hc=>?_) fun hc=>?_
  ·have hc:i<x.length:=of_decide_eq_true hc
   refine gG hx hc (gG hy (by omega) ?_)
   rw[qN]
   by_cases hq:x[i]=y[i]'(by omega)
   ·rw[show(x[i] != y[i]'(by omega))=false by simp[hq],dH,show(1:Int)=((1:Nat) : Int) from rfl,addN (by omega)]
    refine hnext _ _ _ (by omega) ⟨i + 1,rfl,rfl,hc,rfl, ?_⟩
    rw[List.take_succ_eq_append_getElem hc,List.take_succ_eq_append_getElem (by omega),he,hq]
   ·rw[show(x[i] != y[i]'(by omega))=true by simp[hq],fo]
    rw[show decide (x=y)=false by simp; intro h; subst h; exact hq rfl] at hQ
    exact hQ
  ·have hc:¬ i<x.length:=of_decide_eq_false hc
   rw[List.take_of_length_le (by omega),List.take_of_length_le (by omega)] at he
   rw[he,decide_eq_true rfl] at hQ
   exact hQ
 ·rw[show(((x.length:Nat) : Int) != ((y.length:Nat) : Int))=true by simp; omega,fo]
  rw[show decide (x=y)=false by simp; intro h; subst h; exact hl rfl] at hQ
  exact hQ
theorem Yc {m:Str} {n:Nat} {l:List Str} (h:iZ m=some (n,l)) : l.length≤1000000000∧n≤4096:=by
 unfold iZ at h
 split at h
 ·cases h
 ·rename_i n' r h1
  have hn:n'≤4096:=by
   unfold FR at h1
   split at h1
   ·split at h1
    ·cases h1
    ·cases h1; omega
   ·cases h1
  split at h
  ·rename_i hl
   cases h
   rw[List.length_map,eF]; unfold dN
   omega
  ·cases h
abbrev eQ:=Str × AV × Nat
def fM (t:eQ) : AV × AV × Nat:=(St t.1,t.2.1,t.2.2)
theorem uN (s:Str) : ∀ (T:List eQ) (i:Nat),((∀ t∈T,t.1≠s)∧jO false [2] [St s] (T.map fM) i=some none) ∨
  ∃ j t,T[j]?=some t∧t.1=s∧jO false [2] [St s] (T.map fM) i=some (some (i + j,t.2.1))
 | [],i=>.inl ⟨by simp,rfl⟩
 | t :: T,i=>by
   simp only[List.map_cons,fM,jO,fJ]
   rw[if_pos (by rfl),IX]
   by_cases hs:s=t.1
   ·rw[if_pos hs,IZ]
    exact .inr ⟨0,t,rfl,hs.symm,rfl⟩
   ·rw[if_neg hs]
    rcases uN s T (i + 1) with⟨h1,h2⟩ | ⟨j,t',h1,h2,h3⟩
    ·refine .inl ⟨fun x hx=>?_,h2⟩
     rcases List.mem_cons.1 hx with rfl | hx
     ·exact fun e=>hs e.symm
     ·exact h1 x hx
    ·exact .inr ⟨j + 1,t',h1,h2,by rw[h3,show i + 1 + j=i + (j + 1) by omega]⟩
structure Wf (cl:Nat) (T:List eQ) : Prop where
 nodup:(T.map (·.1)).Nodup
 up:T.Pairwise fun a b=>a.2.2<b.2.2
 lt:∀ t∈T,t.2.2<cl
theorem Wf.nil {cl:Nat} : Wf cl []:=⟨.nil,.nil,by simp⟩
theorem Wf.snoc {cl:Nat} {T:List eQ} (h:Wf cl T) {s:Str} {v:AV} (hs:∀ t∈T,t.1≠s) : Wf (cl + 1) (T++[(s,v,cl)]):=by
 refine⟨?_, ?_, ?_⟩
 ·rw[List.map_append,List.nodup_append]
  refine⟨h.nodup,by simp, ?_⟩
  intro a ha b hb e
  obtain⟨t,ht,rfl⟩:=List.mem_map.1 ha
  simp at hb
  exact hs t ht (by rw[e,hb])
 ·rw[List.pairwise_append]
  refine⟨h.up,by simp,fun a ha b hb=>?_⟩
  simp at hb; subst hb
  exact h.lt a ha
 ·intro t ht
  rcases List.mem_append.1 ht with ht | ht
  ·have:=h.lt t ht; omega
  ·simp at ht; subst ht; exact Nat.lt_succ_self _
theorem Wf.filter {cl:Nat} {T:List eQ} (h:Wf cl T) (p:eQ→Bool) : Wf cl (T.filter p) :=
 ⟨h.nodup.sublist (List.Sublist.map _ (List.filter_sublist ..)),h.up.sublist (List.filter_sublist ..),fun t ht=>h.lt t ((List.mem_filter.1 ht).1)⟩
theorem Wf.same {cl:Nat} {T:List eQ} (h:Wf cl T) {t t' : eQ} (ht:t∈T) (ht' : t'∈T) (e:t.1=t'.1) : t=t':=by
 obtain⟨i,hi,rfl⟩:=List.getElem_of_mem ht
 obtain⟨j,hj,rfl⟩:=List.getElem_of_mem ht'
 have h1:(T.map (·.1))[i]'(by simpa using hi)=(T.map (·.1))[j]'(by simpa using hj):=by simpa using e
 have:=(List.getElem_inj h.nodup).1 h1
 subst this; rfl
structure kS (TS:Nat) (M:RM) (sb:Nat) (T:List eQ) (f:Str→Option Str) (W:Nat→Prop) : Prop where
 lt:∀ x,W x→x<M.next
 own:W sb
 map:∃ mb cl,W mb∧mb≠sb∧M.heap sb=some (.row [.map mb] false TS 0)∧M.heap mb=some (.map (T.map fM) cl)∧Wf cl T∧(∀ t∈T,∀ x∈ah t.2.1,x≠mb∧x≠sb)
 val:∀ t∈T,∃ b,f t.1=some b∧Bs M t.2.1 b∧b.length≤1000000∧∀ x∈ah t.2.1,W x
 dom:∀ s b,f s=some b→∃ t∈T,t.1=s
 nm:∀ t∈T,t.1.length=64
def kJ (TS:Nat) (M:RM) (sb:Nat) (f:Str→Option Str) (W:Nat→Prop) (n:Nat) : Prop:=∃ T,kS TS M sb T f W∧T.length≤n
section
variable {TS sb:Nat} {M M' : RM} {T:List eQ} {f:Str→Option Str} {W:Nat→Prop} {ks:List Nat}
theorem kS.keep (h:kS TS M sb T f W) (hk:ae ks M M') (hd:∀ x∈ks,¬ W x) : kS TS M' sb T f W where
 lt x hx:=Nat.lt_of_lt_of_le (h.lt x hx) hk.next
 own:=h.own
 map:=by
  obtain⟨mb,cl,h1,h2,h3,h4,h5,h6⟩:=h.map
  exact⟨mb,cl,h1,h2,hk.aB h3 (h.lt _ h.own) (fun hm=>hd _ hm h.own),hk.aB h4 (h.lt _ h1) (fun hm=>hd _ hm h1),h5,h6⟩
 val t ht:=by
  obtain⟨b,h1,h2,h3,h4⟩:=h.val t ht
  exact⟨b,h1,h2.keep hk (fun x hx hm=>hd x hm (h4 x hx)),h3,h4⟩
 dom:=h.dom
 nm:=h.nm
theorem kJ.keep {n:Nat} (h:kJ TS M sb f W n) (hk:ae ks M M') (hd:∀ x∈ks,¬ W x) : kJ TS M' sb f W n:=let ⟨T,h,hn⟩:=h; ⟨T,h.keep hk hd,hn⟩
theorem kS.absent (h:kS TS M sb T f W) {s:Str} (hs:∀ t∈T,t.1≠s) : f s=none:=by
 cases he:f s with
 | none=>rfl
 | some b=>obtain⟨t,ht,e⟩:=h.dom s b he; exact absurd e (hs t ht)
theorem kS.look (h:kS TS M sb T f W) {s:Str} {ok:Bool} {K:AV→Prop} (h1:f s=none→K (iI bA false ok)) (h2:∀ v b,f s=some b→Bs M v b→b.length≤1000000→(∀ x∈ah v,W x)→K (iI v true ok)) :
  fF (.ptr sb 0) fun t=>bT t 0 fun a=>ag M a fun m=>jf false [2] (.sc (.slice none 0 0)) ok M m (St s) K:=by
 obtain⟨mb,cl,g1,g2,g3,g4,g5,g6⟩:=h.map
 rw[bP,bE,Nat.zero_add,aF g3 rfl]
 rcases uN s T 0 with⟨a1,a2⟩ | ⟨j,t,a1,a2,a3⟩
 ·exact⟨mb,_,cl,[St s],none,rfl,g4,rfl,rfl,a2,h1 (h.absent a1)⟩
 ·have ht:t∈T:=List.mem_of_getElem? a1
  obtain⟨b,q1,q2,q3,q4⟩:=h.val t ht
  rw[a2] at q1
  exact⟨mb,_,cl,[St s],_,rfl,g4,rfl,rfl,a3,h2 _ b q1 q2 q3 q4⟩
end
def AB (TS:Nat) (c:au) : Prop:=∀ {M:RM} {Q:ak},(∀ sb M' W,ae [] M M'→kJ TS M' sb (fun _=>none) W 0→(∀ x,W x→M.next≤x)→Q (.ptr sb 0) M')→c [] M Q
theorem He {TS:Nat} : AB TS fun args M Q=>args=[]∧yL TS M Q:=by
 intro M Q hQ
 refine⟨rfl, ?_⟩
 unfold yL
 rw[aL,jr]
 refine⟨[.map M.next],by simp[lm,known,AV.cells,oneCell], ?_⟩
 refine⟨rfl,Nat.le_refl 1, ?_⟩
 dsimp only
 rw[aL]
 have k1:ae [] M (M.push (.map [] 0)):=(ae.refl _ _).push _
 have n1:(M.push (.map [] 0)).heap M.next=some (.map [] 0):=RM.bR _
 have x1:(M.push (.map [] 0)).next=M.next + 1:=rfl
 generalize M.push (.map [] 0)=M1 at *
 have k2:ae [] M1 (M1.push (.row (AV.agg [AV.map M.next]).cells false TS 0)):=(ae.refl _ _).push _
 have n2:(M1.push (.row (AV.agg [AV.map M.next]).cells false TS 0)).heap M1.next=some (.row [.map M.next] false TS 0):=RM.bR _
 have x2:(M1.push (.row (AV.agg [AV.map M.next]).cells false TS 0)).next=M1.next + 1:=rfl
 generalize M1.push (.row (AV.agg [AV.map M.next]).cells false TS 0)=M2 at *
 refine hQ M1.next M2 (fun x=>x=M.next∨x=M1.next) (k1.trans k2) ⟨[],⟨fun x hx=>by rcases hx with rfl | rfl <;> omega,.inr rfl,⟨M.next,0,.inl rfl,by omega,n2,k2.aB n1 (by omega) (by simp),.nil,by simp⟩,by simp,fun s b h=>(by cases h),by simp⟩,Nat.le_refl _⟩ (fun x hx=>by rcases hx with rfl | rfl <;> omega)
def NR (TS:Nat) (c:au) : Prop:=∀ {M:RM} {sb:Nat} {f:Str→Option Str} {W:Nat→Prop} {n:Nat} {s:Str} {Q:ak},kJ TS M sb f W n→Q (Bo (f s).isSome) M→c [.ptr sb 0,St s] M Q
theorem Wz {TS:Nat} : NR TS fun args M Q=>∃ a0 a1,args=[a0,a1]∧nG a0 a1 M Q:=by
 rintro M sb f W n s Q ⟨T,h,hTn⟩ hQ
 refine⟨_,_,rfl, ?_⟩
 unfold nG
 refine h.look (fun h0=>?_) fun v b h0 _ _ _=>?_
 ·simp only[iI,if_true]
  rw[cz,dD]; rw[h0] at hQ; exact hQ
 ·simp only[iI,if_true]
  rw[cz,dD]; rw[h0] at hQ; exact hQ
def Ja (TS TU:Nat) (c:au) : Prop:=∀ {M:RM} {sb:Nat} {f:Str→Option Str} {W:Nat→Prop} {n:Nat} {s:Str} {Q:ak},kJ TS M sb f W n →
 (f s=none→Q (.tup [bA,Bo false]) M)→(∀ v b M',f s=some b→b.length≤1000000→ae [] M M'→Ow BY M' M.next TU v b→Q (.tup [v,Bo true]) M')→c [.ptr sb 0,St s] M Q
def Ke (c:au) : Prop:=∀ {M:RM} {Q:ak},Q bA M→c [bA] M Q
theorem Nr {T:Nat} : Ke fun args M Q=>∃ a0,args=[a0]∧oz T a0 M Q:=by
 intro M Q hQ
 refine⟨_,rfl, ?_⟩
 unfold oz
 rcases aD.xS (M:=M) (size:=1) (cs:=[]) (n:=0) (v:=bA) .nil false with⟨_,he⟩ | ⟨hne,he⟩
 ·rw[he,show(!false)=true from rfl,fo]; exact hQ
 ·exact absurd rfl hne
theorem TJ {TS TU:Nat} {cc:au} (hc:Sha.kN TU cc) (hc0:Ke cc) : Ja TS TU fun args M Q=>∃ a0 a1,args=[a0,a1]∧nJ cc a0 a1 M Q:=by
 rintro M sb f W n s Q ⟨T,h,hTn⟩ h1 h2
 refine⟨_,_,rfl, ?_⟩
 unfold nJ
 refine h.look (fun h0=>?_) fun v b h0 hb hl hw=>?_
 ·simp only[iI,if_true]
  rw[cz,dD]
  exact hc0 (h1 h0)
 ·simp only[iI,if_true]
  rw[cz,dD]
  exact hc hb.sl (by omega) fun v' M' o k=>h2 v' b M' h0 hl k o
def oH (f:Str→Option Str) (b:Str) : Str→Option Str:=fun s=>if s=bM b∧f (bM b)=none then some b else f s
def OI (TS:Nat) (c:au) : Prop:=∀ {M:RM} {sb:Nat} {f:Str→Option Str} {W:Nat→Prop} {n:Nat} {v:AV} {b:Str} {Q:ak},kJ TS M sb f W n→Bs M v b→b.length≤1000000 →
 (∀ M' W' ks,kJ TS M' sb (oH f b) W' (n + 1)→ae ks M M'→(∀ x∈ks,W x)→(∀ x,W' x→W x∨M.next≤x)→(∀ x,W x→W' x)→Q (St (bM b)) M')→c [.ptr sb 0,v] M Q
theorem V6 {TS TU:Nat} {cn ch cc:au} (hn:rQ cn) (hh:NR TS ch) (hc:Sha.kN TU cc) : OI TS fun args M Q=>∃ a0 a1,args=[a0,a1]∧nH cn ch cc a0 a1 M Q:=by
 rintro M sb f W n v b Q ⟨T,h,hTn⟩ hv hl hQ
 refine⟨_,_,rfl, ?_⟩
 unfold nH
 refine hn hv (by omega) fun M1 k1=>?_
 have h1:=h.keep k1 (by simp)
 unfold ek
 refine hh ⟨T,h1,hTn⟩ ?_
 rw[dO]
 cases hf:f (bM b) with
 | some b0 =>
   rw[show(!(some b0).isSome)=false from rfl,dH]
   have e:oH f b=f:=by funext s; unfold oH; rw[hf]; simp
   exact hQ M1 W [] ⟨T,by rw[e]; exact h1,by omega⟩ k1 (by simp) (fun x hx=>.inl hx) fun x hx=>hx
 | none =>
   rw[show(!(none:Option Str).isSome)=true from rfl,fo]
   obtain⟨mb,cl,g1,g2,g3,g4,g5,g6⟩:=h1.map
   rw[bP,bE,Nat.zero_add,aF g3 rfl]
   refine hc (hv.keep k1 (by simp)).sl (by omega) fun w M2 o2 k2=>?_
   have h2:=h1.keep k2 (by simp)
   obtain⟨mb',cl',g1',g2',g3',g4',g5',g6'⟩:=h2.map
   have p3:=k2.aB g3 (h1.lt _ h1.own) (by simp)
   have p4:=k2.aB g4 (h1.lt _ g1) (by simp)
   rw[aF p3 rfl]
   refine⟨rfl, ?_⟩
   have hno:∀ t∈T,t.1≠bM b:=fun t ht e=>by
    obtain⟨b1,q1,_⟩:=h1.val t ht
    rw[e,hf] at q1; cases q1
   rcases uN (bM b) T 0 with⟨a1,a2⟩ | ⟨j,t,a1,a2,a3⟩
   ·refine⟨mb,_,cl,[St (bM b)],none,rfl,p4,rfl,rfl,a2, ?_⟩
    have k3:ae [mb] M2 (M2.put mb (Ci (T.map fM) cl (St (bM b)) w none)):=(ae.refl _ _).put _ (.inr (by simp))
    have n3:(M2.put mb (Ci (T.map fM) cl (St (bM b)) w none)).heap mb=some (.map ((T++[(bM b,w,cl)]).map fM) (cl + 1)):=by
     rw[aM]; simp[Ci,fM]
    have x3:(M2.put mb (Ci (T.map fM) cl (St (bM b)) w none)).next=M2.next:=rfl
    show Q _ (M2.put mb (Ci (T.map fM) cl (St (bM b)) w none))
    generalize M2.put mb (Ci (T.map fM) cl (St (bM b)) w none)=M3 at *
    have hwb:∀ x∈ah w,M1.next≤x∧x<M2.next:=fun x hx=>Own.blk o2 x hx
    have hn1:=k1.next
    have hn2:=k2.next
    refine hQ M3 (fun x=>W x∨x∈ah w) [mb] ⟨T++[(bM b,w,cl)], ?_,by simp; omega⟩ ((k1.trans k2).mono (by simp) |>.trans k3) (by simpa using g1) (fun x hx=>hx.elim .inl fun h=>.inr (by have:=hwb x h; omega)) fun x hx=>.inl hx
    refine⟨fun x hx=>?_,.inl h.own,⟨mb,cl + 1,.inl g1,g2,k3.aB p3 (by have:=h1.lt _ h1.own; omega) (by simpa using g2.symm),n3,g5.snoc a1,fun t ht x hx=>?_⟩,fun t ht=>?_,fun s b' hs=>?_,fun t ht=>?_⟩
    ·rcases hx with hx | hx
     ·have:=h.lt x hx; omega
     ·have:=hwb x hx; omega
    ·rcases List.mem_append.1 ht with ht | ht
     ·exact g6 t ht x hx
     ·simp at ht; subst ht
      have:=hwb x hx
      have:=h1.lt _ g1
      have:=h1.lt _ h1.own
      omega
    ·rcases List.mem_append.1 ht with ht | ht
     ·obtain⟨b1,q1,q2,q3,q4⟩:=h2.val t ht
      refine⟨b1, ?_,q2.keep k3 (fun x hx hm=>by simp at hm; subst hm; exact(g6 t ht _ hx).1 rfl),q3,fun x hx=>.inl (q4 x hx)⟩
      unfold oH; rw[if_neg (fun hc=>hno t ht hc.1)]; exact q1
     ·simp at ht; subst ht
      refine⟨b,by unfold oH; rw[if_pos ⟨rfl,hf⟩],(Bs.own o2).keep k3 (fun x hx hm=>?_),hl,fun x hx=>.inr hx⟩
      simp at hm
      have:=hwb x hx; have:=h1.lt _ g1; omega
    ·unfold oH at hs
     by_cases hc:s=bM b∧f (bM b)=none
     ·exact⟨_,List.mem_append_right _ (List.mem_singleton.2 rfl),hc.1.symm⟩
     ·rw[if_neg hc] at hs
      obtain⟨t,ht,e⟩:=h2.dom s b' hs
      exact⟨t,List.mem_append_left _ ht,e⟩
    ·rcases List.mem_append.1 ht with ht | ht
     ·exact h.nm t ht
     ·simp at ht; subst ht; exact su b
   ·exact absurd a2 (hno t (List.mem_of_getElem? a1))
end Go.Ab.Bl
namespace Go.Ab.Dk
open Go Go.Ab
def xD (f:(List AV→RM→Prop)→Prop) (g:List AV→RM→Prop) : Prop:=f g
theorem dW (f:(List AV→RM→Prop)→Prop) (g:List AV→RM→Prop) : ek f g=xD f g:=rfl
theorem dh {H:(List AV→RM→Prop)→Prop} {G:List AV→RM→Prop} (P:List AV→RM→Prop) (hT:∀ xs M,P xs M→G xs M)
  (hH:∀ J:List AV→RM→Prop,(∀ xs M,P xs M→J xs M)→H J) : xD H G:=hH G hT
section
variable {i j:Nat} {K:AV→Prop}
theorem addN (h:i + j<4611686018427387904) : af .add (N .i64 (i:Int)) (N .i64 (j:Int)) K=K (N .i64 ((i + j:Nat) : Int)):=by
 rw[bz,aP (by omega) (by omega),Int.natCast_add]
theorem JN (h:j≤i) (hb:i<4611686018427387904) : af .sub (N .i64 (i:Int)) (N .i64 (j:Int)) K=K (N .i64 ((i - j:Nat) : Int)):=by
 rw[gM,aP (by omega) (by omega),show(i:Int) - (j:Int)=((i - j:Nat) : Int) by omega]
theorem fE:af .lss (N .i64 (i:Int)) (N .i64 (j:Int)) K=K (Bo (decide (i<j))):=by rw[dK,show decide ((i:Int)<(j:Int))=decide (i<j) by simp]
end
section
variable {M:RM} {c p:Bool} {f:ak→Prop} {P:RM→Prop} {G:AV→RM→Prop}
end
abbrev Nm:=List UInt8
abbrev Dir:=List (Nm × Nat)
def OV:Dir→Nm→Option Nat
 | [],_=>none
 | e :: l,n=>if n=e.1 then some e.2 else OV l n
def VF:Dir→Nm→Dir
 | [],_=>[]
 | e :: l,n=>if n=e.1 then l else e :: VF l n
def Xf:Dir→Nm→Nat→Dir
 | [],n,f=>[(n,f)]
 | e :: l,n,f=>if n=e.1 then(n,f) :: l else e :: Xf l n f
abbrev Xp:=Nm × Option Nat × Nm
abbrev FL:=List UInt8 × Nat
structure Oz where
 files:List FL
 dir:Dir
 aeo:Dir
 chg:List Xp
 abu:Int
 app:Int
 syn:Int deriving DecidableEq
inductive Tag where
 | disk | names | safe | chg | file (i:Nat) | bytes (i:Nat) deriving DecidableEq
abbrev jI:=Nat→Option Tag
def upd (own:jI) (b:Nat) (t:Tag) : jI:=fun c=>if c=b then some t else own c
theorem Nn {own:jI} {b:Nat} {t:Tag} : upd own b t b=some t:=by simp[upd]
theorem upd_ne {own:jI} {b c:Nat} {t:Tag} (h:c≠b) : upd own b t c=own c:=by simp[upd,h]
def jP (fbs:List Nat) (cl:Nat) : Nat→List (AV × AV × Nat)→Dir→Prop
 | _,[],[]=>True
 | lo,e :: es,d :: ds=>e.1=St d.1∧(∃ b,fbs[d.2]?=some b∧e.2.1=.ptr b 0)∧lo≤e.2.2∧e.2.2<cl∧jP fbs cl (e.2.2 + 1) es ds
 | _,_,_=>False
variable {fbs gbs:List Nat} {cl lo:Nat} {es:List (AV × AV × Nat)} {d:Dir}
theorem jP.len:∀ {es:List (AV × AV × Nat)} {d:Dir} {lo:Nat},jP fbs cl lo es d→es.length=d.length
 | [],[],_,_=>rfl
 | _ :: es,_ :: d,_,h=>by simp only[List.length_cons]; rw[h.2.2.2.2.len]
theorem jP.grow (hg:∀ i b:Nat,fbs[i]?=some b→gbs[i]?=some b) {cl' : Nat} (hc:cl≤cl') : ∀ {es:List (AV × AV × Nat)} {d:Dir} {lo lo' : Nat},lo'≤lo→jP fbs cl lo es d→jP gbs cl' lo' es d
 | [],[],_,_,_,_=>trivial
 | _ :: es,_ :: d,_,_,hl,⟨h1,⟨b,h2,h3⟩,h4,h5,h6⟩=>⟨h1,⟨b,hg _ _ h2,h3⟩,Nat.le_trans hl h4,Nat.lt_of_lt_of_le h5 hc,h6.grow hg hc (Nat.le_refl _)⟩
theorem Lr (s:Nm) : ∀ {es:List (AV × AV × Nat)} {d:Dir} {lo:Nat} (i:Nat),jP fbs cl lo es d →
  (jO false [2] [St s] es i=some none∧OV d s=none) ∨
  ∃ j f b,jO false [2] [St s] es i=some (some (i + j,.ptr b 0))∧OV d s=some f∧fbs[f]?=some b∧jP fbs cl lo (es.eraseIdx j) (VF d s) ∧
    ∀ g c,fbs[g]?=some c→jP fbs cl lo (CU (St s) (.ptr c 0) es j) (Xf d s g)
 | [],[],_,i,_=>.inl ⟨rfl,rfl⟩
 | (k,v,n) :: es,(s',f) :: d,lo,i,⟨h1,⟨b,h2,h3⟩,h4,h5,h6⟩=>by
   simp only at h1 h2 h3 h4 h5 h6
   subst h1 h3
   simp only[jO,fJ,OV,VF,Xf]
   rw[if_pos (by rfl),IX]
   by_cases hs:s=s'
   ·subst hs
    simp only[if_true,IZ]
    refine .inr ⟨0,f,b,rfl,rfl,h2, ?_, ?_⟩
    ·exact h6.grow (fun _ _ h=>h) (Nat.le_refl _) (by omega)
    ·intro g c hg
     exact⟨rfl,⟨c,hg,rfl⟩,h4,h5,h6⟩
   ·simp only[if_neg hs]
    rcases Lr s (i + 1) h6 with⟨a1,a2⟩ | ⟨j,f',b',a1,a2,a3,a4,a5⟩
    ·exact .inl ⟨a1,a2⟩
    ·refine .inr ⟨j + 1,f',b', ?_,a2,a3, ?_, ?_⟩
     ·rw[a1]; congr 3; omega
     ·exact⟨rfl,⟨b,h2,rfl⟩,h4,h5,a4⟩
     ·intro g c hg
      exact⟨rfl,⟨b,h2,rfl⟩,h4,h5,a5 g c hg⟩
structure MapAt (own:jI) (M:RM) (fbs:List Nat) (m:Nat) (d:Dir) (t:Tag) : Prop where
 tg:own m=some t
 lt:m<M.next
 heap:∃ es cl,M.heap m=some (.map es cl)∧jP fbs cl 0 es d
inductive FB (M:RM) (TU:Nat) : AV→List UInt8→Prop
 | nil:FB M TU bA []
 | op (b:Nat) (xs:List UInt8) : b<M.next→M.heap b=some (.row (BY.row xs) true TU 0)→FB M TU (.slc b 0 xs.length (.op 1)) xs
 | ex (b o n:Nat) (xs:List UInt8) : b<M.next→M.loads b o n=some (BY.row xs)→xs.length=n→FB M TU (.slc b o n (.ex n)) xs
structure rU (TF TU:Nat) (own:jI) (M:RM) (fbs:List Nat) (i b:Nat) (v:AV) (f:FL) : Prop where
 at_:fbs[i]?=some b
 lt:b<M.next
 tg:own b=some (.file i)
 heap:M.heap b=some (.row [v,N .i64 (f.2:Int)] false TF 0)
 fb:FB M TU v f.1
 le:f.2≤f.1.length
 blk:∀ c∈ah v,own c=some (.bytes i)
structure uK (TF TU:Nat) (own:jI) (M:RM) (fbs:List Nat) (fs:List FL) : Prop where
 len:fbs.length=fs.length
 file:∀ i f,fs[i]?=some f→∃ b v,rU TF TU own M fbs i b v f
def CHG:Enc (Nm × Option Nat × Nm):=⟨3,fun c=>[St c.1,(match c.2.1 with | some b=>.ptr b 0 | none=>.sc (.pointer none)),St c.2.2],fun _=>rfl,fun c=>by obtain⟨a,_ | b,g⟩:=c <;> rfl⟩
def chB (fbs:List Nat) (c:Xp) : Nm × Option Nat × Nm:=(c.1,c.2.1.bind (fbs[·]?),c.2.2)
structure Fp (TC:Nat) (own:jI) (M:RM) (fbs:List Nat) (v:AV) (cs:List Xp) : Prop where
 ow:Ow CHG M 0 TC v (cs.map (chB fbs))
 blk:∀ b∈ah v,own b=some .chg
 wf:∀ c∈cs,∀ f,c.2.1=some f→f<fbs.length
variable {own own' : jI} {M M' : RM} {bs:List Nat} {m:Nat} {t:Tag}
theorem MapAt.step (h:MapAt own M fbs m d t) (hk:ae bs M M') (hb:∀ b∈bs,own b≠some t) (ho:∀ b,own b=some t→own' b=some t) : MapAt own' M' fbs m d t :=
 ⟨ho _ h.tg,Nat.lt_of_lt_of_le h.lt hk.next,let ⟨es,cl,h1,h2⟩:=h.heap; ⟨es,cl,hk.aB h1 h.lt (fun hm=>hb _ hm h.tg),h2⟩⟩
theorem FB.keep {TU:Nat} {v:AV} {xs:List UInt8} (h:FB M TU v xs) (hk:ae bs M M') (hb:∀ b∈ah v,b ∉ bs) : FB M' TU v xs:=by
 cases h with
 | nil=>exact .nil
 | op b xs hl hh=>exact .op b xs (Nat.lt_of_lt_of_le hl hk.next) (hk.aB hh hl (hb b (by simp[ah])))
 | ex b o n xs hl hh h2=>exact .ex b o n xs (Nat.lt_of_lt_of_le hl hk.next) ((hk.loads hl (hb b (by simp[ah]))).trans hh) h2
theorem FB.sl {TU:Nat} {v:AV} {xs:List UInt8} (h:FB M TU v xs) : Sl BY M v xs:=by
 cases h with
 | nil=>exact .nil
 | op b xs hl hh=>exact Rw.sl ⟨hh,hl⟩
 | ex b o n xs hl hh h2 =>
   subst h2
   refine .slc _ _ _ _ _ hl ?_
   show M.loads b o (xs.length * 1)=_
   rw[Nat.mul_one,hh]
theorem FB.one {TU:Nat} {v:AV} {xs:List UInt8} (h:FB M TU v xs) : oneCell v=true∧v.cells=[v]∧known v=true:=by
 cases h <;> exact⟨rfl,rfl,rfl⟩
section
variable {TF TU i b:Nat} {v:AV} {f:FL} {fs:List FL}
theorem rU.step (h:rU TF TU own M fbs i b v f) (hk:ae bs M M') (hb:∀ b∈bs,own b≠some (.file i)∧own b≠some (.bytes i)) (ho:∀ b,own b=some (.file i)∨own b=some (.bytes i)→own' b=own b) : rU TF TU own' M' fbs i b v f :=
 ⟨h.at_,Nat.lt_of_lt_of_le h.lt hk.next,by rw[ho _ (.inl h.tg),h.tg],hk.aB h.heap h.lt (fun hm=>(hb _ hm).1 h.tg),h.fb.keep hk (fun c hc hm=>(hb _ hm).2 (h.blk c hc)),h.le,
  fun c hc=>by rw[ho _ (.inr (h.blk c hc)),h.blk c hc]⟩
theorem uK.step (h:uK TF TU own M fbs fs) (hk:ae bs M M') (hb:∀ b∈bs,∀ i,own b≠some (.file i)∧own b≠some (.bytes i)) (ho:∀ b i,own b=some (.file i)∨own b=some (.bytes i)→own' b=own b) : uK TF TU own' M' fbs fs :=
 ⟨h.len,fun i f hf=>let ⟨b,v,h1⟩:=h.file i f hf; ⟨b,v,h1.step hk (fun b hm=>hb b hm i) (fun b=>ho b i)⟩⟩
theorem uK.at (h:uK TF TU own M fbs fs) {i b:Nat} (hb:fbs[i]?=some b) : ∃ f v,fs[i]?=some f∧rU TF TU own M fbs i b v f:=by
 have hi:i<fs.length:=by rw[← h.len]; exact(List.getElem?_eq_some_iff.1 hb).1
 obtain⟨b',v,h1⟩:=h.file i fs[i] (List.getElem?_eq_getElem hi)
 have:b'=b:=by have:=h1.at_; rw[hb] at this; cases this; rfl
 subst this
 exact⟨_,v,List.getElem?_eq_getElem hi,h1⟩
end
section
variable {TC:Nat} {v:AV} {cs:List Xp}
theorem Fp.step (h:Fp TC own M fbs v cs) (hk:ae bs M M') (hb:∀ b∈bs,own b≠some .chg) (ho:∀ b,own b=some .chg→own' b=some .chg) : Fp TC own' M' fbs v cs :=
 ⟨Own.keep h.ow hk (fun b hm hm2=>hb b hm2 (h.blk b hm)),fun b hm=>ho b (h.blk b hm),h.wf⟩
theorem Fp.nil:Fp TC own M fbs bA []:=⟨.nil,by simp[ah],by simp⟩
end
structure Hw (TD TF TU TC:Nat) (own:jI) (M:RM) (db:Nat) (s:Oz) (fbs:List Nat) (nm sm:Nat) (cv:AV) : Prop where
 lt:∀ b,own b≠none→b<M.next
 od:own db=some .disk
 row:M.heap db=some (.row [N .i64 s.abu,.map nm,.map sm,cv,N .i64 s.app,N .i64 s.syn] false TD 0)
 names:MapAt own M fbs nm s.dir .names
 safe:MapAt own M fbs sm s.aeo .safe
 chg:Fp TC own M fbs cv s.chg
 files:uK TF TU own M fbs s.files
def U7 (TD TF TU TC:Nat) (own:jI) (M:RM) (db:Nat) (s:Oz) : Prop:=∃ fbs nm sm cv,Hw TD TF TU TC own M db s fbs nm sm cv
def Tr (own:jI) (M:RM) (own' : jI) (M' : RM) : Prop:=∃ bs,ae bs M M'∧(∀ b∈bs,own b≠none)∧∀ b,b<M.next→own b=none→own' b=none
theorem Tr.refl (own:jI) (M:RM) : Tr own M own M:=⟨[],ae.refl _ _,by simp,fun _ _ h=>h⟩
theorem Tr.keep (hk:ae [] M M') : Tr own M own M':=⟨[],hk,by simp,fun _ _ h=>h⟩
theorem Tr.next (h:Tr own M own' M') : M.next≤M'.next:=let ⟨_,h1,_⟩:=h; h1.next
theorem Tr.base (h:Tr own M own' M') : M'.base=M.base:=let ⟨_,h1,_⟩:=h; h1.base
section
variable {TD TF TU TC db:Nat} {s:Oz} {nm sm:Nat} {cv:AV}
theorem Hw.keep (h:Hw TD TF TU TC own M db s fbs nm sm cv) (hk:ae [] M M') : Hw TD TF TU TC own M' db s fbs nm sm cv :=
 ⟨fun b hb=>Nat.lt_of_lt_of_le (h.lt b hb) hk.next,h.od,hk.aB h.row (h.lt _ (by rw[h.od]; simp)) (by simp),h.names.step hk (by simp) (fun _ h=>h),h.safe.step hk (by simp) (fun _ h=>h),
  h.chg.step hk (by simp) (fun _ h=>h),h.files.step hk (by simp) (fun _ _ _=>rfl)⟩
end
end Go.Ab.Dk
set_option maxRecDepth 100000
namespace Go.Ab.Dk
open Go Go.Ab
def Cy (p1:Nat) (a0:AV) (M0:RM) (Q:ak) : Prop:=af .lss a0 (N .i64 0) fun l=>az l ( Q (.tup [(.sc (.pointer none)),(N .i64 1)]) M0) ( aO (.map [] 0) (fun c=>.map c) M0 fun m d=>aO (.map [] 0) (fun c=>.map c) d fun n e=>jG [(N .i64 0),(.sc (.map none)),(.sc (.map none)),(.sc (.slice none 0 0)),(N .i64 0),(N .i64 0)] [(0,1,a0),(1,1,m),(2,1,n)] fun o=>mO p1 o fun i h=>aO i h e fun j g=>Q (.tup [j,(N .i64 0)]) g)
def qz (p1:au) (a0 a1:AV) (M0:RM) (Q:ak) : Prop:=fF a0 fun m=>bT m 1 fun n=>ag M0 n fun e=>jf false [2] (.sc (.pointer none)) false M0 e a1 fun c=>fU false 1 c (.sc (.pointer none)) fun g=>az g ( Q (.tup [(.sc (.slice none 0 0)),(N .i64 4)]) M0) ( fF c fun h=>bT h 0 fun i=>ag M0 i fun j=>p1 [j] M0 fun l d=>Q (.tup [l,(N .i64 0)]) d)
def cB (p1 p2:Nat) (a0:AV) (M0:RM) (Q:ak) : Prop:=mO p1 a0 fun e d=>aO e d M0 fun g c=>Q (.fn (.func p2) [] [g]) c
set_option maxRecDepth 10000
abbrev WU:AV:=.sc (.pointer none)
section
variable {fbs gbs:List Nat} {own own' : jI} {M M' : RM} {bs:List Nat} {m:Nat} {d:Dir} {t:Tag} {s:Nm}
theorem Sa (h:MapAt own M fbs m d t) {K:AV→Prop} (h1:OV d s=none→K WU) (h2:∀ f b,OV d s=some f→fbs[f]?=some b→K (.ptr b 0)) : jf false [2] WU false M (.map m) (St s) K:=by
 obtain⟨es,cl,hh,he⟩:=h.heap
 rcases Lr s 0 he with⟨a1,a2⟩ | ⟨j,f,b,a1,a2,a3,a4,a5⟩
 ·exact⟨m,es,cl,[St s],none,rfl,hh,rfl,rfl,a1,h1 a2⟩
 ·exact⟨m,es,cl,[St s],_,rfl,hh,rfl,rfl,a1,h2 f b a2 a3⟩
end
def tot (fs:List FL) : Dir→Nat
 | []=>0
 | e :: d=>(fs[e.2]?.getD ([],0)).1.length + tot fs d
def Rn (s:Oz) (f:Nat) : FL:=s.files[f]?.getD ([],0)
def Tk (s:Oz) (n:Nm) : List UInt8 × Int :=
 match OV s.dir n with
 | none=>([],4)
 | some f=>((Rn s f).1,0)
def dQ (p:List Int) (i n:Nat) : Nat:=match p[i]? with
 | none=>0
 | some x=>if x<0 then 0 else x.toNat % n
section
variable {TD TF TU TC:Nat}
theorem rU.put {own:jI} {M:RM} {fbs:List Nat} {i b:Nat} {v:AV} {f:FL} (h:rU TF TU own M fbs i b v f) (n:Nat) (hn:n≤f.1.length) :
  rU TF TU own (M.put b (.row [v,N .i64 (n:Int)] false TF 0)) fbs i b v (f.1,n):=by
 have hk:ae [b] M (M.put b (.row [v,N .i64 (n:Int)] false TF 0)):=(ae.refl _ _).put _ (.inr (by simp))
 refine⟨h.at_,h.lt,h.tg,aM _,h.fb.keep hk (fun c hc hm=>?_),hn,h.blk⟩
 rw[List.mem_singleton] at hm
 have:=h.blk c hc
 rw[hm,h.tg] at this; cases this
def XY (TU:Nat) (c:au) : Prop:=Go.Ab.aQ.kN TU 1 1 c
def H5 (TD TF TU TC:Nat) (c:au) : Prop:=∀ {own:jI} {M:RM} {db:Nat} {s:Oz} {n:Nm} {Q:ak},U7 TD TF TU TC own M db s→(∀ f∈s.files,f.1.length≤140737488355328) →
 (∀ v M',ae [] M M'→Ow BY M' M.next TU v (Tk s n).1→Q (.tup [v,N .i64 (Tk s n).2]) M')→c [.ptr db 0,St n] M Q
theorem KS {ck:au} (hc:XY TU ck) : H5 TD TF TU TC fun args M Q=>∃ a0 a1,args=[a0,a1]∧qz ck a0 a1 M Q:=by
 intro own M db s n Q hd hlen hQ
 obtain⟨fbs,nm,sm,cv,hd⟩:=hd
 refine⟨_,_,rfl, ?_⟩
 unfold qz
 rw[bP,bE,aF (i:=0 + 1) hd.row rfl]
 unfold Tk at hQ
 refine Sa hd.names (fun hn=>?_) (fun f b hf hb=>?_)
 ·rw[hn] at hQ
  rw[xG,Bool.not_false,fo]
  exact hQ _ M (ae.refl _ _) .nil
 ·rw[hf] at hQ
  dsimp only at hQ
  rw[Aq,dH]
  obtain⟨fl,v,hfl,hat⟩:=hd.files.at hb
  have hff:Rn s f=fl:=by unfold Rn; rw[hfl]; rfl
  rw[hff] at hQ
  have:=hlen fl (List.mem_of_getElem? hfl)
  rw[bP,bE,aF (i:=0 + 0) hat.heap rfl]
  refine hc hat.fb.sl (BY.dF _) (by omega) this fun v' M' o k=>?_
  exact hQ v' M' k o
end
section
variable {TD TF TU TC:Nat}
def ZA (n:Int) : Oz:=⟨[],[],[],[],n,0,0⟩
def AB (TD TF TU TC:Nat) (c:au) : Prop:=∀ {M:RM} {n:Int} {Q:ak},(n<0→Q (.tup [WU,N .i64 1]) M) →
 (¬ n<0→∀ own M' db,U7 TD TF TU TC own M' db (ZA n)→(∀ b,b<M.next→own b=none)→ae [] M M'→Q (.tup [.ptr db 0,N .i64 0]) M')→c [N .i64 n] M Q
theorem He:AB TD TF TU TC fun args M Q=>∃ a0,args=[a0]∧Cy TD a0 M Q:=by
 intro M n Q h1 h2
 refine⟨_,rfl, ?_⟩
 unfold Cy
 rw[dK]
 refine aJ (fun hc=>h1 (of_decide_eq_true hc)) (fun hc=>?_)
 rw[aL,aL,jr]
 refine⟨_,rfl, ?_⟩
 rw[mI rfl (by show 1≤6; decide),aL]
 have k1:ae [] M (((M.push (.map [] 0)).push (.map [] 0)).push (.row [N .i64 n,.map M.next,.map (M.next + 1),bA,N .i64 0,N .i64 0] false TD 0)):=(((ae.refl _ _).push _).push _).push _
 refine h2 (of_decide_eq_false hc) (upd (upd (upd (fun _=>none) M.next .names) (M.next + 1) .safe) (M.next + 2) .disk) _ _ ?_ ?_ k1
 ·have e1:(((M.push (.map [] 0)).push (.map [] 0)).push (.row [N .i64 n,.map M.next,.map (M.next + 1),bA,N .i64 0,N .i64 0] false TD 0)).heap M.next=some (.map [] 0) :=
   vX (vX (RM.bR _) (by rw[eT]; omega)) (by rw[eT,eT]; omega)
  have e2:(((M.push (.map [] 0)).push (.map [] 0)).push (.row [N .i64 n,.map M.next,.map (M.next + 1),bA,N .i64 0,N .i64 0] false TD 0)).heap (M.next + 1)=some (.map [] 0) :=
   vX (RM.bR _) (by rw[eT,eT]; omega)
  have o1:(upd (upd (upd (fun _=>none) M.next .names) (M.next + 1) .safe) (M.next + 2) .disk) M.next=some .names:=by
   rw[upd_ne (by omega),upd_ne (by omega),Nn]
  have o2:(upd (upd (upd (fun _=>none) M.next .names) (M.next + 1) .safe) (M.next + 2) .disk) (M.next + 1)=some .safe:=by
   rw[upd_ne (by omega),Nn]
  refine⟨[],M.next,M.next + 1,bA,fun b hb=>?_,Nn,RM.bR _,⟨o1,by rw[eT,eT,eT]; omega,[],0,e1,trivial⟩,⟨o2,by rw[eT,eT,eT]; omega,[],0,e2,trivial⟩,.nil,⟨rfl,fun i f h=>by simp[ZA] at h⟩⟩
  simp only[upd] at hb
  rw[eT,eT,eT]
  split at hb
  ·omega
  ·split at hb
   ·omega
   ·split at hb
    ·omega
    ·simp at hb
 ·intro b hb
  rw[upd_ne (by omega),upd_ne (by omega),upd_ne (by omega)]
def ic (fs:List FL) (seen:List Nat) : List (AV × AV × Nat)→Dir→Nat
 | e :: es,d :: ds=>(if e.2.2∈seen then(fs[d.2]?.getD ([],0)).1.length else 0) + ic fs seen es ds
 | _,_=>0
def kC (seen:List Nat) : List (AV × AV × Nat)→Nat
 | []=>0
 | e :: es=>(if e.2.2∈seen then 0 else 1) + kC seen es
section
variable {fbs:List Nat} {cl:Nat} {fs:List FL}
theorem Ff (seen:List Nat) : ∀ {es:List (AV × AV × Nat)} {d:Dir} {lo:Nat},jP fbs cl lo es d→ic fs seen es d≤tot fs d
 | [],[],_,_=>Nat.le_refl _
 | e :: es,_ :: d,_,⟨_,_,_,_,h⟩=>by
   have:=Ff seen h
   simp only[ic,tot]; split <;> omega
theorem Bg (seen:List Nat) : ∀ {es:List (AV × AV × Nat)} {d:Dir} {lo:Nat},jP fbs cl lo es d→(∀ e∈es,e.2.2∈seen)→ic fs seen es d=tot fs d
 | [],[],_,_,_=>rfl
 | e :: es,_ :: d,_,⟨_,_,_,_,h⟩,ha=>by
   have:=Bg seen h (fun e he=>ha e (List.mem_cons_of_mem _ he))
   simp only[ic,tot,if_pos (ha e (List.mem_cons_self ..)),this]
theorem Bz:∀ {es:List (AV × AV × Nat)} {d:Dir},ic fs [] es d=0
 | [],_=>by cases ‹Dir› <;> rfl
 | e :: es,[]=>rfl
 | e :: es,d :: ds=>by simp[ic,Bz (es:=es)]
theorem zQ (seen:List Nat) (k:Nat) : ∀ {es:List (AV × AV × Nat)} {d:Dir} {lo:Nat},jP fbs cl lo es d→k<lo→ic fs (seen++[k]) es d=ic fs seen es d∧kC (seen++[k]) es=kC seen es
 | [],[],_,_,_=>⟨rfl,rfl⟩
 | e :: es,_ :: d,lo,⟨_,_,h1,_,h⟩,hk=>by
   obtain⟨a1,a2⟩:=zQ seen k h (by omega)
   have:(e.2.2∈seen++[k])=(e.2.2∈seen):=by
    simp only[List.mem_append,List.mem_singleton,eq_iff_iff]
    exact⟨fun h=>h.resolve_right (by omega),.inl⟩
   simp only[ic,kC,a1,a2,this,and_self]
theorem qF (seen:List Nat) : ∀ {es:List (AV × AV × Nat)} {d:Dir} {lo:Nat},jP fbs cl lo es d→∀ n∈es,n.2.2 ∉ seen →
  ∃ (f b:Nat),fbs[f]?=some b∧n.2.1=.ptr b 0∧es.find? (fun e=>e.2.2 == n.2.2)=some n∧lo≤n.2.2∧n.2.2<cl∧ic fs (seen++[n.2.2]) es d=ic fs seen es d + (fs[f]?.getD ([],0)).1.length∧kC (seen++[n.2.2]) es<kC seen es
 | [],[],_,_,n,hn,_=>by cases hn
 | e :: es,x :: d,lo,⟨h0,⟨b,h1,h2⟩,h3,h4,h⟩,n,hn,hs=>by
   rcases List.mem_cons.1 hn with rfl | hn
   ·obtain⟨a1,a2⟩:=zQ (fs:=fs) seen n.2.2 h (by omega)
    refine⟨x.2,b,h1,h2,by simp,h3,h4, ?_, ?_⟩
    ·simp only[ic,a1,List.mem_append,List.mem_singleton,or_true,if_true,if_neg hs]; omega
    ·simp only[kC,a2,List.mem_append,List.mem_singleton,or_true,if_true,if_neg hs]; omega
   ·obtain⟨f,b',q1,q2,q3,q4,q5,q6,q7⟩:=qF seen h n hn hs
    have hne:e.2.2≠n.2.2:=by omega
    have:(e.2.2∈seen++[n.2.2])=(e.2.2∈seen):=by
     simp only[List.mem_append,List.mem_singleton,eq_iff_iff]
     exact⟨fun h=>h.resolve_right hne,.inl⟩
    refine⟨f,b',q1,q2, ?_,by omega,q5, ?_, ?_⟩
    ·rw[List.find?_cons_of_neg (by simpa using hne)]; exact q3
    ·simp only[ic,q6,this]; omega
    ·simp only[kC,this]; omega
end
end
def mV:Nm→Nm→Bool
 | [],_=>true
 | _ :: _,[]=>false
 | a :: x,b :: y=>decide (a.toNat<b.toNat) || (decide (a.toNat=b.toNat) && mV x y)
def GI (x:Nm) : List Nm→List Nm
 | []=>[x]
 | y :: l=>if mV x y then x :: y :: l else y :: GI x l
def lh:List Nm→List Nm
 | []=>[]
 | x :: l=>GI x (lh l)
theorem Ec (x:Nm) : ∀ l,(GI x l).Perm (x :: l)
 | []=>.refl _
 | y :: l=>by
   unfold GI
   split
   ·exact .refl _
   ·exact((Ec x l).cons y).trans (.swap _ _ _)
theorem nz:∀ l,(lh l).Perm l
 | []=>.refl _
 | x :: l=>(Ec x _).trans ((nz l).cons x)
def NE (d:Dir) : List Nm:=d.map (·.1)
section
variable {M:RM} {TU:Nat}
end
def abO (d:Dir) : Prop:=(NE d).Nodup∧∀ n∈NE d,n.length≤64
section
variable {TD TF TU TC:Nat}
end
theorem rX:∀ x y:Nm,mV x y=decide (x≤y)
 | [],y=>by simp[mV]
 | a :: x,[]=>by simp[mV]
 | a :: x,b :: y=>by
   rw[mV,rX x y,Bool.eq_iff_iff]
   simp only[Bool.or_eq_true,Bool.and_eq_true,decide_eq_true_eq,List.cons_le_cons_iff]
   rw[UInt8.lt_iff_toNat_lt,← UInt8.toNat_inj]
theorem LK (x y:Nm) : (mV x y || mV y x)=true:=by
 rw[rX,rX,Bool.or_eq_true,decide_eq_true_eq,decide_eq_true_eq]
 exact Std.Total.total x y
theorem KT (x y z:Nm) (h1:mV x y=true) (h2:mV y z=true) : mV x z=true:=by
 rw[rX,decide_eq_true_eq] at *
 exact List.le_trans h1 h2
theorem GA (x y:Nm) (h1:mV x y=true) (h2:mV y x=true) : x=y:=by
 rw[rX,decide_eq_true_eq] at *
 exact List.le_antisymm h1 h2
theorem Ga (x:Nm) : ∀ {l:List Nm},l.Pairwise (fun a b=>mV a b=true)→(GI x l).Pairwise (fun a b=>mV a b=true)
 | [],_=>by simp[GI]
 | y :: l,h=>by
   unfold GI
   split
   ·rename_i hxy
    refine List.pairwise_cons.2 ⟨fun z hz=>?_,h⟩
    rcases List.mem_cons.1 hz with rfl | hz
    ·exact hxy
    ·exact KT _ _ _ hxy ((List.pairwise_cons.1 h).1 z hz)
   ·rename_i hxy
    have hyx:mV y x=true:=by have:=LK x y; simp only[Bool.not_eq_true] at hxy; rw[hxy] at this; simpa using this
    refine List.pairwise_cons.2 ⟨fun z hz=>?_,Ga x (List.pairwise_cons.1 h).2⟩
    rcases List.mem_cons.1 ((Ec x l).mem_iff.1 hz) with rfl | hz
    ·exact hyx
    ·exact(List.pairwise_cons.1 h).1 z hz
theorem pI:∀ l:List Nm,(lh l).Pairwise (fun a b=>mV a b=true)
 | []=>.nil
 | x :: l=>Ga x (pI l)
theorem FI {ss l:List Nm} (h:ss.Perm l) : ss.mergeSort (fun x y=>decide (x≤y))=lh l:=by
 have e:(fun x y:Nm=>decide (x≤y))=mV:=by funext x y; rw[rX]
 rw[e]
 refine List.Perm.eq_of_pairwise (le:=fun a b=>mV a b=true) (fun a b _ _ h1 h2=>GA a b h1 h2) ?_ (pI l) ((List.mergeSort_perm _ _).trans (h.trans (nz l).symm))
 exact List.pairwise_mergeSort KT LK ss
def KC (TS TM g:Nat) (c:au) : Prop:=∀ {own:jI} {M:RM} {fbs:List Nat} {m b:Nat} {d:Dir} {t:Tag} {Q:ak},MapAt own M fbs m d t→M.heap b=some (.row [.map m] false TM 0)→b<M.next→d.length≤4000000000→abO d →
 (∀ v M',Ow bO M' M.next TS v (lh (NE d))→ae [] M M'→Q v M')→c [.fn (.func g) [] [.ptr b 0]] M Q
def Rm (TM g:Nat) (c:au) : Prop:=∀ {M:RM} {m:Nat} {Q:ak},Q (.fn (.func g) [] [.ptr M.next 0]) (M.push (.row [.map m] false TM 0))→c [.map m] M Q
section
variable {TD TF TU TC:Nat}
end
end Go.Ab.Dk
namespace Go.Ab.Bl
open Go Go.Ab Go.Ab.aQ Go.Ab.Sha
open Go.Ab.Dk (lh mV)
def fA (T:List eQ) : List Str:=T.map (·.1)
def KC (TS TM g:Nat) (c:au) : Prop:=∀ {M:RM} {m b cl:Nat} {T:List eQ} {Q:ak},M.heap m=some (.map (T.map fM) cl)→Wf cl T→(∀ t∈T,t.1.length=64)→M.heap b=some (.row [.map m] false TM 0)→b<M.next→T.length≤1000000 →
 (∀ v M',Ow bO M' M.next TS v (lh (fA T))→ae [] M M'→Q v M')→c [.fn (.func g) [] [.ptr b 0]] M Q
def Rm (TM g:Nat) (c:au) : Prop:=∀ {M:RM} {m:Nat} {Q:ak},Q (.fn (.func g) [] [.ptr M.next 0]) (M.push (.row [.map m] false TM 0))→c [.map m] M Q
def xZ (TSt TS:Nat) (c:au) : Prop:=∀ {M:RM} {sb n:Nat} {f:Str→Option Str} {W:Nat→Prop} {Q:ak},kJ TSt M sb f W n→n≤1000000 →
 (∀ T v M',kS TSt M sb T f W→T.length≤n→Ow bO M' M.next TS v (lh (fA T))→ae [] M M'→Q v M')→c [.ptr sb 0] M Q
theorem LP {TSt TS TM g:Nat} {ck cs:au} (hk:Rm TM g ck) (hs:KC TS TM g cs) : xZ TSt TS fun args M Q=>∃ a0,args=[a0]∧lX ck cs a0 M Q:=by
 rintro M sb n f W Q ⟨T,h,hT⟩ hn hQ
 refine⟨_,rfl, ?_⟩
 unfold lX
 obtain⟨mb,cl,g1,g2,g3,g4,g5,g6⟩:=h.map
 rw[bP,bE,Nat.zero_add,aF g3 rfl]
 refine hk ?_
 have k1:ae [] M (M.push (.row [.map mb] false TM 0)):=(ae.refl _ _).push _
 have n1:(M.push (.row [.map mb] false TM 0)).heap M.next=some (.row [.map mb] false TM 0):=RM.bR _
 have x1:(M.push (.row [.map mb] false TM 0)).next=M.next + 1:=rfl
 generalize M.push (.row [.map mb] false TM 0)=M1 at *
 refine hs (k1.aB g4 (h.lt _ g1) (by simp)) g5 h.nm n1 (by omega) (by omega) fun v M2 o2 k2=>?_
 exact hQ T v M2 h hT (Own.mono o2 (by omega)) (k1.trans k2)
def ic (g:eQ→Nat) (seen:List Nat) : List eQ→Nat
 | []=>0
 | t :: T=>(if t.2.2∈seen then g t else 0) + ic g seen T
def kC (seen:List Nat) : List eQ→Nat
 | []=>0
 | t :: T=>(if t.2.2∈seen then 0 else 1) + kC seen T
def sS (g:eQ→Nat) (T:List eQ) : Nat:=(T.map g).sum
section
variable {g:eQ→Nat} {seen:List Nat}
theorem Bz:∀ {T:List eQ},ic g [] T=0
 | []=>rfl
 | t :: T=>by simp[ic,Bz (T:=T)]
theorem Ff:∀ {T:List eQ},ic g seen T≤sS g T
 | []=>Nat.le_refl _
 | t :: T=>by
   have:=Ff (T:=T)
   unfold sS at *
   simp only[ic,List.map_cons,List.sum_cons]; split <;> omega
theorem Bg:∀ {T:List eQ},(∀ t∈T,t.2.2∈seen)→ic g seen T=sS g T
 | [],_=>rfl
 | t :: T,h=>by
   have:=Bg (T:=T) (fun x hx=>h x (List.mem_cons_of_mem _ hx))
   unfold sS at *
   simp only[ic,List.map_cons,List.sum_cons,if_pos (h t (List.mem_cons_self ..)),this]
theorem zQ {k:Nat} : ∀ {T:List eQ},(∀ t∈T,t.2.2≠k)→ic g (seen++[k]) T=ic g seen T∧kC (seen++[k]) T=kC seen T
 | [],_=>⟨rfl,rfl⟩
 | t :: T,h=>by
   obtain⟨a1,a2⟩:=zQ (T:=T) (fun x hx=>h x (List.mem_cons_of_mem _ hx))
   have:(t.2.2∈seen++[k])=(t.2.2∈seen):=by
    simp only[List.mem_append,List.mem_singleton,eq_iff_iff]
    exact⟨fun hm=>hm.resolve_right (h t (List.mem_cons_self ..)),.inl⟩
   simp only[ic,kC,a1,a2,this,and_self]
theorem qF:∀ {T:List eQ},T.Pairwise (fun a b=>a.2.2<b.2.2)→∀ n∈T,n.2.2 ∉ seen →
  (T.map fM).find? (fun e=>e.2.2 == n.2.2)=some (fM n)∧ic g (seen++[n.2.2]) T=ic g seen T + g n∧kC (seen++[n.2.2]) T<kC seen T
 | [],_,n,hn,_=>by cases hn
 | t :: T,h,n,hn,hs=>by
   rw[List.pairwise_cons] at h
   rcases List.mem_cons.1 hn with rfl | hn
   ·obtain⟨a1,a2⟩:=zQ (g:=g) (seen:=seen) (k:=n.2.2) (T:=T) (fun x hx e=>by have:=h.1 x hx; omega)
    refine⟨by simp[fM], ?_, ?_⟩
    ·simp only[ic,a1,List.mem_append,List.mem_singleton,or_true,if_true,if_neg hs]; omega
    ·simp only[kC,a2,List.mem_append,List.mem_singleton,or_true,if_true,if_neg hs]; omega
   ·obtain⟨q3,q6,q7⟩:=qF h.2 n hn hs
    have hne:t.2.2≠n.2.2:=by have:=h.1 n hn; omega
    have:(t.2.2∈seen++[n.2.2])=(t.2.2∈seen):=by
     simp only[List.mem_append,List.mem_singleton,eq_iff_iff]
     exact⟨fun h=>h.resolve_right hne,.inl⟩
    refine⟨?_, ?_, ?_⟩
    ·rw[List.map_cons,List.find?_cons_of_neg (by simpa [fM] using hne)]; exact q3
    ·simp only[ic,q6,this]; omega
    ·simp only[kC,this]; omega
end
def tL (f:Str→Option Str) (t:eQ) : Nat:=((f t.1).getD []).length
def Ao (TSt:Nat) (c:au) : Prop:=∀ {M:RM} {sb n:Nat} {f:Str→Option Str} {W:Nat→Prop} {Q:ak},kJ TSt M sb f W n→n≤1000000 →
 (∀ T M',kS TSt M sb T f W→T.length≤n→ae [] M M'→Q (N .i64 (sS (tL f) T:Int)) M')→c [.ptr sb 0] M Q
theorem PT {g:eQ→Nat} {k:Nat} : ∀ {T:List eQ},(∀ t∈T,g t≤k)→sS g T≤T.length * k
 | [],_=>Nat.zero_le _
 | t :: T,h=>by
   have h1:=PT (T:=T) (fun x hx=>h x (List.mem_cons_of_mem _ hx))
   have h2:=h t (List.mem_cons_self ..)
   unfold sS at *
   simp only[List.map_cons,List.sum_cons,List.length_cons,Nat.succ_mul]; omega
theorem Je {TSt:Nat} : Ao TSt fun args M Q=>∃ a0,args=[a0]∧lZ a0 M Q:=by
 rintro M sb n f W Q ⟨T,h,hT⟩ hn hQ
 refine⟨_,rfl, ?_⟩
 unfold lZ
 obtain⟨mb,cl,g1,g2,g3,g4,g5,g6⟩:=h.map
 rw[bP,bE,Nat.zero_add,aF g3 rfl]
 refine⟨mb,_,cl,rfl,g4, ?_⟩
 have hml:=h.lt _ g1
 have hval:∀ t∈T,tL f t≤1000000:=fun t ht=>by
  obtain⟨b,q1,_,q3,_⟩:=h.val t ht
  unfold tL; rw[q1]; exact q3
 have htot:=PT hval
 have htot2:sS (tL f) T≤1000000 * 1000000:=Nat.le_trans htot (Nat.mul_le_mul_right _ (by omega))
 have k1:ae [] M (M.push (.iter (some mb) cl [] cl)):=(ae.refl _ _).push _
 refine aG (fun z ys M'=>∃ seen,z=kC seen T∧ys=[N .i64 (ic (tL f) seen T:Int)]∧ae [] M M'∧M.next<M'.next∧M'.heap M.next=some (.iter (some mb) cl seen cl)) (kC [] T)
  ⟨[],rfl,by rw[Bz]; rfl,k1,by rw[eT]; omega,RM.bR _⟩ ?_
 rintro next z ys M' hnext ⟨seen,rfl,rfl,k2,n2,h2⟩
 dsimp only[aa]
 have hm:=k2.aB g4 hml (by simp)
 refine⟨M.next,mb,cl,seen,cl,_,cl,rfl,h2,hm, ?_,fun e he hs=>?_,fun ha=>?_⟩
 ·cases T with
  | nil=>exact .inr (.inl rfl)
  | cons t T=>exact .inr (.inr ⟨fM t,by simp,g5.lt t (List.mem_cons_self ..)⟩)
 ·obtain⟨t,ht,rfl⟩:=List.mem_map.1 he
  obtain⟨q3,q6,q7⟩:=qF (g:=tL f) g5.up t ht hs
  rw[cz,fo]
  have k3:ae [] M (M'.put M.next (.iter (some mb) cl (seen++[(fM t).2.2]) cl)):=k2.put _ (.inl (Nat.le_refl _))
  have h3:(M'.put M.next (.iter (some mb) cl (seen++[(fM t).2.2]) cl)).heap M.next=some (.iter (some mb) cl (seen++[(fM t).2.2]) cl):=aM _
  have hm3:=k3.aB g4 hml (by simp)
  refine⟨M.next,mb,cl,seen,_,cl,_,_,rfl,h3,hm3,q3, ?_⟩
  obtain⟨b,p1,p2,p3,p4⟩:=(h.keep k3 (by simp)).val t ht
  have e1:tL f t=b.length:=by unfold tL; rw[p1]; rfl
  have hle:=Ff (g:=tL f) (seen:=seen++[t.2.2]) (T:=T)
  rw[dD,show(fM t).2.1=t.2.1 from rfl,p2.len,addN (by omega),← e1,← q6]
  exact hnext _ _ _ q7 ⟨_,rfl,rfl,k3,n2,h3⟩
 ·dsimp only
  rw[cz,dH,Bg (fun t ht=>?_)]
  ·exact hQ T M' h hT k2
  ·rcases Classical.em (t.2.2∈seen) with hx | hx
   ·exact hx
   ·have:=ha (fM t) (List.mem_map_of_mem ht) hx
    have:=g5.lt t ht
    simp only[fM] at *
    omega
end Go.Ab.Bl
namespace Go.Ab.Bl
open Go Go.Ab Go.Ab.aQ Go.Ab.Sha
theorem gB {i:Nat} (hi:i<4611686018427387903) {K:AV→Prop} : af .add (N .i64 (i:Int)) (N .i64 1) K=K (N .i64 ((i + 1:Nat) : Int)):=by
 rw[show(1:Int)=((1:Nat) : Int) from rfl,addN (by omega)]
def E9 (P:RM→Prop) (p:Str→Bool) (c:List AV→RM→ak→Prop) : Prop:=∀ {M:RM} {x:Str} {Q:ak},P M→x.length≤281474976710656→(∀ M',ae [] M M'→Q (Bo (p x)) M')→c [St x] M Q
def Ad (P:RM→Prop) (p:Str→Bool) (fv:AV) (c:au) : Prop:=∀ {M:RM} {v:AV} {xs:List Str} {Q:ak},P M→(∀ M M',P M→ae [] M M'→P M')→Sl bO M v xs→xs.length≤1000000000→(∀ x∈xs,x.length≤281474976710656) →
 (xs.any p=false→∀ M',ae [] M M'→Q (N .i64 (-1)) M')→(∀ (i:Nat) (hi:i<xs.length),p xs[i]=true→(∀ x∈xs.take i,p x=false)→∀ M',ae [] M M'→Q (N .i64 (i:Int)) M')→c [v,fv] M Q
theorem FZ {P:RM→Prop} {p:Str→Bool} {fv:AV} {cv:FuncId→au} (hp:E9 P p (ql cv fv)) : Ad P p fv fun args M Q=>∃ a0 a1,args=[a0,a1]∧mQ cv a0 a1 M Q:=by
 intro M v xs Q hP hPk hs hl hxl h0 h1
 refine⟨_,_,rfl, ?_⟩
 unfold mQ
 rw[aD.len hs]
 refine aG (fun m ys M3=>∃ i:Nat,m=xs.length - i∧ys=[N .i64 (i:Int)]∧i≤xs.length∧ae [] M M3∧∀ x∈xs.take i,p x=false) _ ⟨0,rfl,rfl,Nat.zero_le _,ae.refl _ _,by simp⟩ ?_
 rintro next m ys M3 hnext ⟨i,rfl,rfl,hi,k3,hm⟩
 simp only[aC]
 rw[fE]
 refine aJ (fun hlt=>?_) (fun hge=>?_)
 ·have hlt:i<xs.length:=of_decide_eq_true hlt
  refine gG (aD.keep hs k3 (by simp)) hlt ?_
  refine hp (hPk _ _ hP k3) (hxl _ (List.getElem_mem _)) fun M4 k4=>?_
  refine aJ (fun he=>h1 i hlt he hm M4 (k3.trans k4)) (fun he=>?_)
  rw[gB (by omega)]
  refine hnext _ _ _ (by omega) ⟨i + 1,rfl,rfl,by omega,k3.trans k4,fun x hx=>?_⟩
  rw[List.take_succ_eq_append_getElem hlt,List.mem_append] at hx
  rcases hx with hx | hx
  ·exact hm x hx
  ·simp at hx; subst hx; exact he
 ·have he:i=xs.length:=by
   have:¬ i<xs.length:=of_decide_eq_false hge
   omega
  subst he
  rw[List.take_length] at hm
  exact h0 (by simpa using hm) M3 k3
def NI (P:RM→Prop) (p:Str→Bool) (fv:AV) (c:au) : Prop:=∀ {M:RM} {v:AV} {xs:List Str} {Q:ak},P M→(∀ M M',P M→ae [] M M'→P M')→Sl bO M v xs→xs.length≤1000000000→(∀ x∈xs,x.length≤281474976710656) →
 (∀ M',ae [] M M'→Q (Bo (xs.any p)) M')→c [v,fv] M Q
theorem Sj {P:RM→Prop} {p:Str→Bool} {fv:AV} {ci:au} (hi:Ad P p fv ci) : NI P p fv fun args M Q=>∃ a0 a1,args=[a0,a1]∧kP ci a0 a1 M Q:=by
 intro M v xs Q hP hPk hs hl hxl hQ
 refine⟨_,_,rfl, ?_⟩
 unfold kP
 refine hi hP hPk hs hl hxl (fun hn M1 k1=>?_) fun i hlt hpi _ M1 k1=>?_
 ·rw[fV,show decide ((-1:Int) ≥ 0)=false by decide,← hn]
  exact hQ M1 k1
 ·rw[fV,show decide ((i:Int) ≥ 0)=true by simp,← List.any_eq_true.2 ⟨_,List.getElem_mem hlt,hpi⟩]
  exact hQ M1 k1
def Og (c:au) : Prop:=∀ {M:RM} {v:AV} {xs:List Str} {s:Str} {Q:ak},Sl bO M v xs→xs.length≤1000000000→Q (Bo (decide (s∈xs))) M→c [v,St s] M Q
def JZ (c:au) : Prop:=∀ {M:RM} {v:AV} {xs:List Str} {s:Str} {Q:ak},Sl bO M v xs→xs.length≤1000000000→(∀ n:Int,decide (n ≥ 0)=decide (s∈xs)→Q (N .i64 n) M)→c [v,St s] M Q
theorem Py:JZ fun args M Q=>∃ a0 a1,args=[a0,a1]∧qI a0 a1 M Q:=by
 intro M v xs s Q hs hl hQ
 refine⟨_,_,rfl, ?_⟩
 unfold qI
 rw[aD.len hs]
 refine aG (fun m ys M3=>∃ i:Nat,m=xs.length - i∧ys=[N .i64 (i:Int)]∧i≤xs.length∧M3=M∧s ∉ xs.take i) _ ⟨0,rfl,rfl,Nat.zero_le _,rfl,by simp⟩ ?_
 rintro next m ys M3 hnext ⟨i,rfl,rfl,hi,rfl,hm⟩
 simp only[aC]
 rw[fE]
 refine aJ (fun hlt=>?_) (fun hge=>?_)
 ·have hlt:i<xs.length:=of_decide_eq_true hlt
  refine gG hs hlt ?_
  rw[mR]
  refine aJ (fun he=>?_) (fun he=>?_)
  ·have he:s=xs[i]:=by simpa using he
   refine hQ i ?_
   rw[show decide ((i:Int) ≥ 0)=true by simp,eq_comm,decide_eq_true_eq,he]
   exact List.getElem_mem _
  ·have he:¬ s=xs[i]:=by simpa using he
   rw[gB (by omega)]
   refine hnext _ _ _ (by omega) ⟨i + 1,rfl,rfl,by omega,rfl,fun hx=>?_⟩
   rw[List.take_succ_eq_append_getElem hlt,List.mem_append] at hx
   rcases hx with hx | hx
   ·exact hm hx
   ·simp at hx; exact he hx
 ·have he:i=xs.length:=by
   have:¬ i<xs.length:=of_decide_eq_false hge
   omega
  subst he
  rw[List.take_length] at hm
  exact hQ (-1) (by rw[show decide ((-1:Int) ≥ 0)=false by decide,eq_comm,decide_eq_false_iff_not]; exact hm)
theorem Q7 {ci:au} (hi:JZ ci) : Og fun args M Q=>∃ a0 a1,args=[a0,a1]∧nL ci a0 a1 M Q:=by
 intro M v xs s Q hs hl hQ
 refine⟨_,_,rfl, ?_⟩
 unfold nL
 refine hi hs hl fun n hn=>?_
 rw[fV,hn]
 exact hQ
theorem WL {b o n k z:Nat} (h:k≤n) (h0:0<n) : bK z (.slc b o n (.op z)) none (some (N .i64 (k:Int))) none=some (.slc b o k (.op z)):=by
 simp only[bK,bnd]
 simp[h]
 omega
def GG (P:RM→Prop) (p:Str→Bool) (fv:AV) (c:au) : Prop:=∀ {M:RM} {base T:Nat} {v:AV} {xs:List Str} {Q:ak},P M→(∀ M M' ks,P M→ae ks M M'→(∀ d∈ks,d∈ah v)→P M')→Ow bO M base T v xs→xs.length≤100000000→(∀ x∈xs,x.length≤281474976710656) →
 (∀ v' M',Sl bO M' v' (xs.filter fun x=>!p x)→(∀ d∈ah v',d∈ah v)→ae (ah v) M M'→Q v' M')→c [v,fv] M Q
theorem NY {P:RM→Prop} {p:Str→Bool} {fv:AV} {cv:FuncId→au} {ci:au} (hi:Ad P p fv ci) (hp:E9 P p (ql cv fv)) : GG P p fv fun args M Q=>∃ a0 a1,args=[a0,a1]∧lU ci cv a0 a1 M Q:=by
 intro M base T v xs Q hP hPk ho hl hxl hQ
 refine⟨_,_,rfl, ?_⟩
 unfold lU
 simp only[Sha.dW]
 have hs:Sl bO M v xs:=ho.gJ
 refine hi hP (fun M M' h k=>hPk M M' [] h k (by simp)) hs (by omega) hxl (fun hn M1 k1=>?_) (fun i hlt hpi hm M1 k1=>?_)
 ·rw[bS,show((-1:Int) == -1)=true from rfl,fo]
  have e:(xs.filter fun x=>!p x)=xs:=List.filter_eq_self.2 fun x hx=>by
   have:=List.any_eq_false.1 hn x hx
   simpa using this
  exact hQ v M1 (by rw[e]; exact aD.keep hs k1 (by simp)) (fun d hd=>hd) (k1.mono (by simp))
 rw[bS,show((i:Int) == -1)=false by rw[beq_eq_false_iff_ne]; omega,dH,gB (by omega)]
 obtain⟨b,rfl,h1,h2,h3,h4⟩:=Own.aax ho (by omega)
 have hat:Rw bO M b true T xs:=⟨h3,h2⟩
 have hpre0:xs.take i=(xs.take (i + 1)).filter fun x=>!p x:=by
  rw[List.take_succ_eq_append_getElem hlt,List.filter_append,List.filter_eq_self.2 fun x hx=>by simpa using hm x hx]
  simp[hpi]
 refine aG (fun m ys M3=>∃ (k j:Nat) (d:List Str),m=xs.length - j∧ys=[N .i64 (k:Int),N .i64 (j:Int)]∧j≤xs.length∧k<j∧Rw bO M3 b true T d∧ae [b] M M3∧d.length=xs.length∧d.take k=(xs.take j).filter (fun x=>!p x)∧d.drop j=xs.drop j) _
  ⟨i,i + 1,xs,rfl,rfl,by omega,by omega,hat.keep k1 (by simp),k1.mono (by simp),rfl,hpre0,rfl⟩ ?_
 rintro next m ys M3 hnext ⟨k,j,d,rfl,rfl,hj,hkj,h3',k3,hds,hpre,hold⟩
 simp only[aC,bF]
 have acW:∀ K:AV→Prop,aU (AV.slc b 0 xs.length (.op bO.size)) K=K (N .i64 (xs.length:Int)):=fun K=>by simp[MV]
 rw[acW,fE]
 have e5:bO.size=1:=rfl
 rw[e5] at *
 refine aJ (fun hlt2=>?_) (fun Hl=>?_)
 ·have hlt2:j<xs.length:=of_decide_eq_true hlt2
  have hdj:d[j]?=some xs[j]:=by
   have:=congrArg (·[0]?) hold
   simpa [hlt2] using this
  have ac5:d[j]'(by omega)=xs[j]:=by rw[List.getElem?_eq_getElem (by omega)] at hdj; exact Option.some.inj hdj
  refine dh (fun zs M'=>∃ (k' : Nat) (d' : List Str),zs=[N .i64 (k' : Int)]∧k'<j + 1∧Rw bO M' b true T d'∧ae [b] M M'∧d'.length=xs.length∧d'.take k'=(xs.take (j + 1)).filter (fun x=>!p x)∧d'.drop (j + 1)=xs.drop (j + 1)) ?_ ?_
  ·rintro zs M' ⟨k',d',rfl,c1,c2,c3,c4,c5,c6⟩
   simp only[aC]
   rw[gB (by omega)]
   exact hnext _ _ _ (by omega) ⟨k',j + 1,d',rfl,rfl,by omega,c1,c2,c3,c4,c5,c6⟩
  intro J hJ
  rw[← hds,WG (by omega),dM]
  refine⟨St xs[j],h3'.ag (i:=j) (by omega) rfl (by rw[ac5]; rfl), ?_⟩
  have hP3:P M3:=hPk M M3 [b] hP k3 (by simp[ah])
  refine hp hP3 (hxl _ (List.getElem_mem _)) fun M5 k5=>?_
  have kk5:ae [b] M M5:=k3.trans (k5.mono (cs:=[b]) (by simp))
  have aae:=h3'.keep k5 (by simp)
  have aaH:(xs.take (j + 1)).filter (fun x=>!p x)=if p xs[j] then(xs.take j).filter (fun x=>!p x) else(xs.take j).filter (fun x=>!p x)++[xs[j]]:=by
   rw[List.take_succ_eq_append_getElem hlt2,List.filter_append]
   by_cases hpj:p xs[j]=true <;> simp[hpj]
  have XG:d.drop (j + 1)=xs.drop (j + 1):=by
   have:=congrArg (List.drop 1) hold
   simpa [Nat.add_comm] using this
  rw[dO]
  refine aJ (fun hn=>?_) (fun hn=>?_)
  ·have hpj:p xs[j]=false:=by simpa using hn
   obtain⟨st1,st2⟩:=aae.Ub (i:=k) (by omega) xs[j] rfl (u:=St xs[j]) rfl
   rw[WG (by omega)]
   refine⟨b,k,_,rfl,rfl,st1, ?_⟩
   dsimp only
   rw[gB (by omega)]
   have k6:ae [b] M5 (M5.put b (.row (bO.row (d.set k xs[j])) true T 0)):=(ae.refl _ _).put _ (.inr (by simp))
   refine hJ _ _ ⟨k + 1,_,rfl,by omega,st2,kk5.trans k6,by simpa using hds, ?_, ?_⟩
   ·rw[aaH,hpj,← hpre,List.take_succ_eq_append_getElem (by rw[List.length_set]; omega),List.getElem_set_self,List.take_set_of_le (Nat.le_refl _)]
    rfl
   ·rw[List.drop_set_of_lt (by omega)]; exact XG
  ·have hpj:p xs[j]=true:=by simpa using hn
   exact hJ _ _ ⟨k,d,rfl,by omega,aae,kk5,hds,by rw[aaH,hpj]; exact hpre,XG⟩
 ·have hj2:j=xs.length:=by
   have:¬ j<xs.length:=of_decide_eq_false Hl
   omega
  subst hj2
  rw[List.take_length] at hpre
  have hrl:(bO.row d).length=xs.length:=by rw[Enc.iL,hds]; exact Nat.mul_one _
  have hrp:(ig [(St [])] (xs.length - k)).length=xs.length - k∧(ig [(St [])] (xs.length - k)).all oneCell=true:=by
   generalize xs.length - k=q
   induction q with
   | zero=>exact⟨rfl,rfl⟩
   | succ q ih=>rw[ig]; simp only[List.singleton_append,List.length_cons,ih.1,List.all_cons,ih.2]; exact⟨trivial,rfl⟩
  have hst:M3.stores b (0 + k * 1) (ig [(St [])] (xs.length - k))=some (M3.put b (.row ((bO.row d).take (0 + k * 1)++ig [(St [])] (xs.length - k)++(bO.row d).drop (0 + k * 1 + (ig [(St [])] (xs.length - k)).length)) true T 0)):=by
   refine RM.H9 h3'.heap ?_ (Nat.zero_le _) hrp.2
   rw[hrp.1,hrl]; omega
  rw[Np (by omega),iF]
  refine .inl ⟨_,_,_,_,_,rfl,hst, ?_⟩
  dsimp only
  rw[WL (show k≤xs.length by omega) (by omega),iF]
  have hlk:(xs.filter fun x=>!p x).length=k:=by rw[← hpre,List.length_take]; omega
  refine hQ _ _ ?_ (fun e he=>by simpa [ah] using he) ?_
  ·have hrow:((bO.row d).take (0 + k * 1))=bO.row (xs.filter fun x=>!p x):=by
    rw[← hpre,show 0 + k * 1=k * bO.size by show 0 + k * 1=k * 1; omega,Enc.qE]
   show aD _ 1 (.slc b 0 k (.op 1)) (bO.row (xs.filter fun x=>!p x)) (xs.filter fun x=>!p x).length
   rw[hlk]
   refine .slc _ _ _ _ _ h3'.lt ?_
   have hl:(bO.row (xs.filter fun x=>!p x)).length=k * 1:=by rw[Enc.iL,hlk]; rfl
   rw[RM.gV (aM _) (by rw[hrow]; simp[hl]),List.drop_zero,hrow,List.append_assoc,List.take_left' hl]
  ·have:ae [b] M3 (M3.put b (.row ((bO.row d).take (0 + k * 1)++ig [(St [])] (xs.length - k)++(bO.row d).drop (0 + k * 1 + (ig [(St [])] (xs.length - k)).length)) true T 0)):=(ae.refl _ _).put _ (.inr (by simp))
   simpa [ah] using k3.trans this
def dC (p:Str→Bool) (acc:List Str) (n:Str) : List Str:=if p n && !decide (n∈acc) then acc++[n] else acc
def gD (p:Str→Bool) (l:List Str) : List Str:=l.foldl (dC p) []
theorem rE {p:Str→Bool} : ∀ {l acc:List Str},(l.foldl (dC p) acc).length≤acc.length + l.length
 | [],acc=>by simp
 | x :: l,acc=>by
   have:=rE (p:=p) (l:=l) (acc:=dC p acc x)
   have h2:(dC p acc x).length≤acc.length + 1:=by unfold dC; split <;> simp
   simp only[List.foldl_cons,List.length_cons]; omega
theorem OD {p:Str→Bool} : ∀ {l acc:List Str},∀ x∈l.foldl (dC p) acc,x∈acc∨x∈l
 | [],acc,x,h=>.inl h
 | y :: l,acc,x,h=>by
   rcases OD (l:=l) (acc:=dC p acc y) x h with h | h
   ·unfold dC at h
    split at h
    ·rcases List.mem_append.1 h with h | h
     ·exact .inl h
     ·simp at h; exact .inr (by simp[h])
    ·exact .inl h
   ·exact .inr (List.mem_cons_of_mem _ h)
def isNil (f:Str→Option Str) (s:Str) : Bool:=!(f s).isSome
def JF (TSt T:Nat) (c:au) : Prop:=∀ {M:RM} {sb n:Nat} {f:Str→Option Str} {W:Nat→Prop} {v:AV} {l:List Str} {Q:ak},kJ TSt M sb f W n→Sl bO M v l→l.length≤10000000 →
 (∀ v' M',ae [] M M'→Ow bO M' M.next T v' (gD (isNil f) l)→Q v' M')→c [.ptr sb 0,v] M Q
theorem RV {TSt T:Nat} {ch cc:au} (hh:NR TSt ch) (hc:Og cc) : JF TSt T fun args M Q=>∃ a0 a1,args=[a0,a1]∧ma ch cc T a0 a1 M Q:=by
 intro M sb n f W v l Q hst hs hl hQ
 refine⟨_,_,rfl, ?_⟩
 unfold ma
 simp only[mX,Sha.dW]
 rw[aD.len hs]
 refine aG (fun m ys M3=>∃ (i:Nat) (ov:AV),m=l.length - i∧ys=[ov,N .i64 (i:Int)]∧i≤l.length∧ae [] M M3∧Ow bO M3 M.next T ov (gD (isNil f) (l.take i))) _ ⟨0,bA,rfl,rfl,Nat.zero_le _,ae.refl _ _,.nil⟩ ?_
 rintro next m ys M3 hnext ⟨i,ov,rfl,rfl,hi,k3,o3⟩
 simp only[aC,bF]
 rw[fE]
 refine aJ (fun hlt=>?_) (fun hge=>?_)
 ·have hlt:i<l.length:=of_decide_eq_true hlt
  have hstep:gD (isNil f) (l.take (i + 1))=dC (isNil f) (gD (isNil f) (l.take i)) l[i]:=by
   unfold gD
   rw[List.take_succ_eq_append_getElem hlt,List.foldl_append]; rfl
  have hll:(gD (isNil f) (l.take i)).length≤10000000:=by
   have:=rE (p:=isNil f) (l:=l.take i) (acc:=[])
   rw[List.length_take] at this
   unfold gD; simp only[List.length_nil] at this; omega
  refine dh (fun zs M'=>∃ ov',zs=[ov']∧ae [] M M'∧Ow bO M' M.next T ov' (gD (isNil f) (l.take (i + 1)))) ?_ ?_
  ·rintro zs M' ⟨ov',rfl,c1,c2⟩
   simp only[aC]
   rw[gB (by omega)]
   exact hnext _ _ _ (by omega) ⟨i + 1,ov',rfl,rfl,hlt,c1,c2⟩
  intro J hJ
  refine gG (aD.keep hs k3 (by simp)) hlt ?_
  refine hh (hst.keep k3 (by simp)) ?_
  rw[dO]
  refine andM (p:=!decide (l[i]∈gD (isNil f) (l.take i))) (fun _ K hK=>?_) ?_
  ·refine hc (Own.gJ o3) (by omega) ?_
   rw[dO]
   exact hK
  refine aJ (fun hb=>?_) (fun hb=>?_)
  ·rw[fq (x:=St l[i]) (size:=1) rfl rfl rfl,aL]
   have hn3:=k3.next
   refine fP (E:=bO) (a:=l[i]) o3 (by omega) (by decide) (by omega) (by omega) fun v5 M5 o5 k5 hn5 hv5=>?_
   refine hJ _ _ ⟨v5,rfl,ae.own k3 k5 (fun x hx=>(Own.blk o3 x hx).1), ?_⟩
   have hb' : (isNil f l[i] && !decide (l[i]∈gD (isNil f) (l.take i)))=true:=hb
   rw[hstep]
   unfold dC
   rw[if_pos hb']
   exact o5
  ·refine hJ _ _ ⟨ov,rfl,k3, ?_⟩
   have hb' : ¬ (isNil f l[i] && !decide (l[i]∈gD (isNil f) (l.take i)))=true:=by
    have:(isNil f l[i] && !decide (l[i]∈gD (isNil f) (l.take i)))=false:=hb
    rw[this]; decide
   rw[hstep]
   unfold dC
   rw[if_neg hb']
   exact o3
 ·have:i=l.length:=by
   have:¬ i<l.length:=of_decide_eq_false hge
   omega
  subst this
  rw[List.take_length] at o3
  exact hQ ov M3 k3 o3
structure Cr (n0:Nat) (M:RM) (v:AV) (l:List Str) : Prop where
 sl:Sl bO M v l
 new:∀ x∈ah v,n0≤x
theorem Cr.keep {n0:Nat} {M M' : RM} {v:AV} {l:List Str} {ks:List Nat} (h:Cr n0 M v l) (k:ae ks M M') (hb:∀ x∈ah v,x ∉ ks) : Cr n0 M' v l:=⟨aD.keep h.sl k hb,h.new⟩
theorem Cr.own {n0 T:Nat} {M:RM} {v:AV} {l:List Str} (h:Ow bO M n0 T v l) : Cr n0 M v l:=⟨Own.gJ h,fun x hx=>(Own.blk h x hx).1⟩
def uy (f:Str→Option Str) (s:Str) : List Str:=match f s with
 | none=>[s]
 | some m=>match iZ m with
   | none=>[]
   | some (_,l)=>gD (isNil f) l
def Ce (TSt:Nat) (c:au) : Prop:=∀ {M:RM} {sb n:Nat} {f:Str→Option Str} {W:Nat→Prop} {s:Str} {Q:ak},kJ TSt M sb f W n→(∀ v' M',ae [] M M'→Cr M.next M' v' (uy f s)→Q v' M')→c [.ptr sb 0,St s] M Q
theorem lI {m:Str} {n:Nat} {l:List Str} (h:iZ m=some (n,l)) : l.length=(n + 64 - 1) / 64∧n≤4096∧∀ x∈l,x.length=64:=by
 have hn:=(Yc h).2
 unfold iZ at h
 split at h
 ·cases h
 ·rename_i n' r h1
  split at h
  ·rename_i hl
   simp only[Option.some.injEq,Prod.mk.injEq] at h
   obtain⟨rfl,rfl⟩:=h
   have hl' : r.length=32 * ((n' + 64 - 1) / 64):=hl
   refine⟨by rw[List.length_map,eF]; unfold dN; omega,hn,fun x hx=>?_⟩
   obtain⟨y,hy,rfl⟩:=List.mem_map.1 hx
   obtain⟨k,hk,rfl⟩:=List.mem_map.1 hy
   have hk:=(iB (n:=32) (b:=r) (by decide)).1 (List.mem_range.1 hk)
   rw[Bn,List.length_take,List.length_drop]
   omega
  ·cases h
theorem Ns {TSt T:Nat} {cn cl:au} (hn:zT T cn) (hl:JF TSt T cl) : Ce TSt fun args M Q=>∃ a0 a1,args=[a0,a1]∧kV T cn cl a0 a1 M Q:=by
 rintro M sb n f W s Q hst hQ
 obtain⟨T',h,hT⟩:=id hst
 refine⟨_,_,rfl, ?_⟩
 unfold kV
 refine h.look (fun h0=>?_) fun v b h0 hb hbl hw=>?_
 ·simp only[iI,if_true]
  rw[cz,dD,dO,Bool.not_false,fo,fq (x:=St s) (size:=1) rfl rfl rfl,aL]
  refine hQ _ _ ((ae.refl _ _).push _) ⟨?_,by simp[ah]⟩
  unfold uy; rw[h0]
  exact Sl.new (E:=bO) [s]
 ·simp only[iI,if_true]
  rw[cz,dD,dO,Bool.not_true,dH]
  refine hn hb (by omega) (fun M1 k1 hx=>?_) (fun n' l lv M1 k1 hx o1=>?_)
  ·rw[cz,dD,jd]
   refine hl (hst.keep k1 (by simp)) (v:=bA) (l:=[]) .nil (by simp) fun v' M2 k2 o2=>?_
   refine hQ v' M2 (k1.trans k2) ?_
   unfold uy; rw[h0]; simp only[hx]
   exact Cr.own (Own.mono o2 k1.next)
  ·rw[cz,dD,jd]
   have hle:=lI hx
   refine hl (hst.keep k1 (by simp)) (Own.gJ o1) (by rw[hle.1]; omega) fun v' M2 k2 o2=>?_
   refine hQ v' M2 (k1.trans k2) ?_
   unfold uy; rw[h0]; simp only[hx]
   exact Cr.own (Own.mono o2 k1.next)
theorem Rb {T32:Nat} {cr:au} {cv:FuncId→au} {g:FuncId} (hg:∀ {s:AV} {M:RM} {Q:ak},lg cr T32 s M Q→cv g [s] M Q) (hr:NW cr) : E9 (fun _=>True) (fun x=>!bY x) (ql cv (.fn (.func g) [] [])):=by
 intro M x Q _ hx hQ
 rw[NK]
 refine hg ?_
 unfold lg
 refine hr hx fun cs M1 k1 h1 h2=>?_
 rw[cz,dD]
 refine gP (BY.row (List.replicate 32 0)) fun M2 k2 n2 e2=>?_
 rw[lK n2 h1 (by rw[fT,List.length_replicate]) h2,bX]
 have e:((if bY x then(0:Int) else 14) != 0)=!bY x:=by cases bY x <;> rfl
 rw[e]
 exact hQ _ (k1.trans (k2.new _ (Nat.le_refl _)))
def Ml (TSt:Nat) (c:au) : Prop:=∀ {M:RM} {sb n:Nat} {f:Str→Option Str} {W:Nat→Prop} {v:AV} {l:List Str} {Q:ak},kJ TSt M sb f W n→Sl bO M v l→l.length≤10000000→(∀ x∈l,x.length≤281474976710656) →
 (∀ v' M',ae [] M M'→Cr M.next M' v' ((gD (isNil f) l).filter bY)→Q v' M')→c [.ptr sb 0,v] M Q
theorem U8 {TSt T:Nat} {cl cd:au} {g:FuncId} (hl:JF TSt T cl) (hd:GG (fun _=>True) (fun x=>!bY x) (.fn (.func g) [] []) cd) : Ml TSt fun args M Q=>∃ a0 a1,args=[a0,a1]∧mE cl cd g a0 a1 M Q:=by
 intro M sb n f W v l Q hst hs hll hlx hQ
 refine⟨_,_,rfl, ?_⟩
 unfold mE
 refine hl hst hs hll fun v1 M1 k1 o1=>?_
 have h1:=rE (p:=isNil f) (l:=l) (acc:=[])
 have h2:=OD (p:=isNil f) (l:=l) (acc:=[])
 refine hd trivial (fun _ _ _ _ _ _=>trivial) o1 (by unfold gD; simp at h1; omega) (fun x hx=>hlx x ((h2 x hx).resolve_left (by simp))) fun v2 M2 s2 hb2 k2=>?_
 have e:(fun x=>!!bY x)=bY:=by funext x; simp
 rw[e] at s2
 exact hQ v2 M2 (ae.own k1 k2 (fun x hx=>(Own.blk o1 x hx).1)) ⟨s2,fun x hx=>(Own.blk o1 x (hb2 x hx)).1⟩
def kD (f:Str→Option Str) (c:Str) : Str:=(f c).getD []
def jU (f:Str→Option Str) (n:Nat) : Str→List Str→Str × Nat
 | acc,[]=>(acc,0)
 | acc,c :: l=>if (kD f c).length=min 64 (n - acc.length) then jU f n (acc++kD f c) l else([],14)
def gZ (f:Str→Option Str) (s:Str) : Str × Nat:=match f s with
 | none=>([],4)
 | some m=>match iZ m with
   | none=>([],14)
   | some (n,l)=>if l.any (isNil f) then([],4) else jU f n [] l
def JB (TSt:Nat) (c:au) : Prop:=∀ {M:RM} {sb n:Nat} {f:Str→Option Str} {W:Nat→Prop} {s:Str} {Q:ak},kJ TSt M sb f W n→(∀ v' M',ae [] M M'→Nw M.next M' v' (gZ f s).1→Q (.tup [v',N .i64 ((gZ f s).2:Int)]) M')→c [.ptr sb 0,St s] M Q
theorem qg {n0:Nat} {M:RM} : Nw n0 M bA []:=⟨⟨.nil,trivial⟩,by simp[ah]⟩
theorem O7 {TSt TP sb n b2:Nat} {f:Str→Option Str} {W:Nat→Prop} {ch:au} {cv:FuncId→au} {g:FuncId} (hg:∀ {s t:AV} {M:RM} {Q:ak},kU ch s t M Q→cv g [s,t] M Q) (hh:NR TSt ch) :
  E9 (fun M=>kJ TSt M sb f W n∧M.heap b2=some (.row [.ptr sb 0] false TP 0)∧b2<M.next) (isNil f) (ql cv (.fn (.func g) [] [.ptr b2 0])):=by
 intro M x Q hP hx hQ
 obtain⟨h1,h2,h3⟩:=hP
 rw[NK]
 refine hg ?_
 unfold kU
 rw[aF h2 rfl]
 refine hh h1 ?_
 rw[dO]
 exact hQ M (ae.refl _ _)
theorem Rt {TSt TP T T8:Nat} {cn cc:au} {g:FuncId} (hn:zT T cn) (hc:∀ {sb n b2:Nat} {f:Str→Option Str} {W:Nat→Prop},NI (fun M=>kJ TSt M sb f W n∧M.heap b2=some (.row [.ptr sb 0] false TP 0)∧b2<M.next) (isNil f) (.fn (.func g) [] [.ptr b2 0]) cc) :
  JB TSt fun args M Q=>∃ a0 a1,args=[a0,a1]∧lW TP cn g cc T8 a0 a1 M Q:=by
 rintro M sb n f W s Q hst hQ
 refine⟨_,_,rfl, ?_⟩
 unfold lW
 refine⟨rfl,Nat.le_refl 1, ?_⟩
 dsimp only
 refine gP [.ptr sb 0] fun M1 k1 n1 e1=>?_
 have aal:=hst.keep k1 (by simp)
 obtain⟨T',h,hT⟩:=id aal
 have hn1:=k1.next
 rw[aF n1 rfl]
 refine h.look (fun h0=>?_) fun v b h0 hb hbl hw=>?_
 ·simp only[iI,if_true]
  rw[cz,dD,dO,Bool.not_false,fo]
  have:=hQ bA M1 k1 (by unfold gZ; rw[h0]; exact qg)
  unfold gZ at this; rw[h0] at this; exact this
 ·simp only[iI,if_true]
  rw[cz,dD,dO,Bool.not_true,dH]
  refine hn hb (by omega) (fun M2 k2 hx=>?_) (fun n' l lv M2 k2 hx o2=>?_)
  ·rw[cz,dD,jd,bX,show((14:Int) != 0)=true by decide,fo]
   have:=hQ bA M2 (k1.trans k2) (by unfold gZ; rw[h0]; simp only[hx]; exact qg)
   unfold gZ at this; rw[h0] at this; simp only[hx] at this; exact this
  ·rw[cz,dD,jd,bX,show((0:Int) != 0)=false by decide,dH]
   obtain⟨hll,hn4,Z8⟩:=lI hx
   have hn2:=k2.next
   have m1:=k2.aB n1 (by omega) (by simp)
   have hls:=Own.gJ o2
   refine hc (n:=n) (W:=W) ⟨aal.keep k2 (by simp),m1,by omega⟩ (fun Ma Mb ⟨q1,q2,q3⟩ k=>⟨q1.keep k (by simp),k.aB q2 q3 (by simp),by have:=k.next; omega⟩) hls (by omega) (fun x hx=>by rw[Z8 x hx]; decide) fun M3 k3=>?_
   have k13:=(k1.trans k2).trans k3
   have hn3:=k3.next
   have hPh:gZ f s=if l.any (isNil f) then([],4) else jU f n' [] l:=by unfold gZ; rw[h0]; simp only[hx]
   rw[hPh] at hQ
   refine aJ (fun hany=>?_) (fun hany=>?_)
   ·rw[if_pos hany] at hQ
    exact hQ bA M3 k13 qg
   rw[if_neg (by rw[hany]; decide)] at hQ
   have hsome:∀ x∈l,∃ b,f x=some b:=fun x hx=>by
    have:=List.any_eq_false.1 hany x hx
    unfold isNil at this
    cases hf:f x with
    | none=>rw[hf] at this; simp at this
    | some b=>exact⟨b,rfl⟩
   have Zu:=aD.keep hls k3 (by simp)
   rw[aD.len Zu]
   have p1:=k3.aB m1 (by omega) (by simp)
   refine aG (fun m ys M4=>∃ (i:Nat) (pv:AV) (acc:Str),m=l.length - i∧ys=[pv,N .i64 (i:Int)]∧i≤l.length∧ae [] M M4∧ae [] M3 M4∧Ow BY M4 M3.next T8 pv acc∧acc.length≤n'∧jU f n' acc (l.drop i)=jU f n' [] l) _ ⟨0,bA,[],rfl,rfl,Nat.zero_le _,k13,ae.refl _ _,.nil,Nat.zero_le _,rfl⟩ ?_
   rintro next m ys M4 hnext ⟨i,pv,acc,rfl,rfl,hi,k4,k34,o4,hacc,hj⟩
   simp only[aC,bF]
   rw[fE]
   have Wu:=k34.next
   refine aJ (fun hlt=>?_) (fun hge=>?_)
   ·have hlt:i<l.length:=of_decide_eq_true hlt
    refine gG (aD.keep Zu k34 (by simp)) hlt ?_
    rw[aF (k34.aB p1 (by omega) (by simp)) rfl]
    obtain⟨b1,hb1⟩:=hsome _ (List.getElem_mem hlt)
    obtain⟨T4,h4,hT4⟩:=hst.keep k4 (by simp)
    rw[List.drop_eq_getElem_cons hlt,jU] at hj
    have hval:kD f l[i]=b1:=by unfold kD; rw[hb1]; rfl
    rw[hval] at hj
    refine h4.look (fun h00=>by rw[hb1] at h00; cases h00) fun w b2 h00 hb2 hbl2 hw2=>?_
    rw[hb1] at h00; cases h00
    simp only[iI,if_true]
    have:∀ {K:AV→Prop},(aU w fun t51=>aU pv fun t54=>af .sub (N .i64 (n' : Int)) t54 fun t55=>Gj false (N .i64 64) t55 fun t56=>af .neq t51 t56 K)=K (Bo (!decide (b1.length=min 64 (n' - acc.length)))):=by
     intro K
     rw[hb2.len,aD.len (Own.gJ o4),JN (by omega) (by omega)]
     apply propext
     have hm:(if ((n' - acc.length:Nat) : Int)<(64:Int) then((n' - acc.length:Nat) : Int) else(64:Int))=((min 64 (n' - acc.length) : Nat) : Int):=Qa 64 (n' - acc.length)
     have hne:(((b1.length:Nat) : Int) != ((min 64 (n' - acc.length) : Nat) : Int))=!decide (b1.length=min 64 (n' - acc.length)):=by
      rw[bne,Bool.not_inj_iff,Bool.eq_iff_iff,beq_iff_eq,decide_eq_true_iff]; omega
     constructor
     ·rintro⟨k,a,b,e1,e2,hK⟩
      cases e1; cases e2
      simp only[Bool.false_eq_true,if_false] at hK
      rw[hm,bX,hne] at hK; exact hK
     ·intro hK
      refine⟨_,_,_,rfl,rfl, ?_⟩
      simp only[Bool.false_eq_true,if_false]
      rw[hm,bX,hne]; exact hK
    rw[this]
    refine aJ (fun hbad=>?_) (fun hgood=>?_)
    ·have hbad:¬ b1.length=min 64 (n' - acc.length):=by simpa using hbad
     rw[if_neg hbad] at hj
     rw[← hj] at hQ
     exact hQ bA M4 k4 qg
    ·have hgood:b1.length=min 64 (n' - acc.length):=by simpa using hgood
     rw[if_pos hgood] at hj
     refine iE (E:=BY) o4 Wu (by decide) hb2.sl (by omega) (by omega) fun v5 M5 o5 k5 hn5 hv5=>?_
     rw[gB (by omega)]
     have hbk:∀ x∈ah pv,M3.next≤x:=fun x hx=>(Own.blk o4 x hx).1
     have hnM:=k13.next
     refine hnext _ _ _ (by omega) ⟨i + 1,v5,acc++b1,rfl,rfl,hlt,k4.bu k5 (fun x hx=>.inl (by have:=hbk x hx; omega)),k34.bu k5 (fun x hx=>.inl (hbk x hx)),o5,by rw[List.length_append]; omega,hj⟩
   ·have:i=l.length:=by
     have:¬ i<l.length:=of_decide_eq_false hge
     omega
    subst this
    rw[List.drop_length,jU] at hj
    rw[← hj] at hQ
    have hnM:=k13.next
    exact hQ pv M4 k4 ⟨Bs.own o4,fun x hx=>by have:=(Own.blk o4 x hx).1; omega⟩
def KM (M:RM) (m:Nat) (kp:Str→Bool) : Prop:=∃ (L:List eQ) (cl:Nat),M.heap m=some (.map (L.map fM) cl)∧(L.map (·.1)).Nodup∧(∀ t∈L,t.2.1=Bo (kp t.1))∧∀ s,kp s=true→∃ t∈L,t.1=s
def oJ (kp:Str→Bool) (s:Str) (b:Bool) : Str→Bool:=fun x=>if x=s then b else kp x
theorem KM.keep {M M' : RM} {m:Nat} {kp:Str→Bool} {ks:List Nat} (h:KM M m kp) (hm:m<M.next) (k:ae ks M M') (hk:m ∉ ks) : KM M' m kp:=by
 obtain⟨L,cl,h1,h2⟩:=h
 exact⟨L,cl,k.aB h1 hm hk,h2⟩
theorem KM.look {M:RM} {m:Nat} {kp:Str→Bool} {s:Str} {K:AV→Prop} (h:KM M m kp) (hK:K (Bo (kp s))) : jf false [2] (Bo false) false M (.map m) (St s) K:=by
 obtain⟨L,cl,h1,h2,h3,h4⟩:=h
 rcases uN s L 0 with⟨a1,a2⟩ | ⟨j,t,a1,a2,a3⟩
 ·refine⟨m,_,cl,[St s],none,rfl,h1,rfl,rfl,a2, ?_⟩
  have:kp s=false:=by
   cases hk:kp s with
   | false=>rfl
   | true=>obtain⟨t,ht,e⟩:=h4 s hk; exact absurd e (a1 t ht)
  rw[this] at hK; exact hK
 ·refine⟨m,_,cl,[St s],_,rfl,h1,rfl,rfl,a3, ?_⟩
  show K t.2.1
  rw[h3 t (List.mem_of_getElem? a1),a2]; exact hK
theorem U2 {s:Str} {v:AV} : ∀ {L:List eQ} {j:Nat} {t:eQ},L[j]?=some t→CU (St s) v (L.map fM) j=(L.set j (s,v,t.2.2)).map fM
 | t :: L,0,t',h=>by simp at h; subst h; rfl
 | x :: L,j + 1,t,h=>by
   simp only[List.map_cons,List.set_cons_succ,CU]
   rw[U2 (by simpa using h)]
theorem KM.upd {M:RM} {m:Nat} {kp:Str→Bool} {s:Str} {b:Bool} {K:RM→Prop} (h:KM M m kp) (hK:∀ M',KM M' m (oJ kp s b)→ae [m] M M'→M'.next=M.next→K M') : nk false [2] M (.map m) (St s) (Bo b) K:=by
 obtain⟨L,cl,h1,h2,h3,h4⟩:=h
 have hk:∀ X,ae [m] M (M.put m X):=fun X=>(ae.refl _ _).put _ (.inr (by simp))
 rcases uN s L 0 with⟨a1,a2⟩ | ⟨j,t,a1,a2,a3⟩
 ·refine⟨m,_,cl,[St s],none,rfl,h1,rfl,rfl,a2,hK _ ⟨L++[(s,Bo b,cl)],cl + 1, ?_, ?_, ?_, ?_⟩ (hk _) rfl⟩
  ·rw[aM]; simp[Ci,fM]
  ·rw[List.map_append,List.nodup_append]
   refine⟨h2,by simp, ?_⟩
   intro a ha c hc e
   obtain⟨t,ht,rfl⟩:=List.mem_map.1 ha
   simp at hc
   exact a1 t ht (by rw[e,hc])
  ·intro t ht
   rcases List.mem_append.1 ht with ht | ht
   ·rw[h3 t ht]; unfold oJ; rw[if_neg (a1 t ht)]
   ·simp at ht; subst ht; unfold oJ; rw[if_pos rfl]
  ·intro x hx
   unfold oJ at hx
   by_cases e:x=s
   ·exact⟨_,List.mem_append_right _ (List.mem_singleton.2 rfl),e.symm⟩
   ·rw[if_neg e] at hx
    obtain⟨t,ht,e⟩:=h4 x hx
    exact⟨t,List.mem_append_left _ ht,e⟩
 ·have hj:j<L.length:=(List.getElem?_eq_some_iff.1 a1).1
  have hjt:L[j]=t:=(List.getElem?_eq_some_iff.1 a1).2
  refine⟨m,_,cl,[St s],_,rfl,h1,rfl,rfl,a3,hK _ ⟨L.set j (s,Bo b,t.2.2),cl, ?_, ?_, ?_, ?_⟩ (hk _) rfl⟩
  ·rw[aM]; simp only[Ci,Nat.zero_add]; rw[U2 a1]
  ·have:(L.set j (s,Bo b,t.2.2)).map (·.1)=L.map (·.1):=by
    rw[List.map_set]
    apply List.ext_getElem?
    intro i
    rw[List.getElem?_set]
    split
    ·rename_i e; subst e; simp[hj,hjt,a2]
    ·rfl
   rw[this]; exact h2
  ·intro x hx
   obtain⟨i,hi,rfl⟩:=List.getElem_of_mem hx
   rw[List.length_set] at hi
   rw[List.getElem_set]
   split
   ·unfold oJ; simp
   ·rename_i hne
    unfold oJ
    have hne2:L[i].1≠s:=by
     intro e
     have e2:(L.map (·.1))[i]'(by simpa using hi)=(L.map (·.1))[j]'(by simpa using hj):=by simp[e,hjt,a2]
     have:=(List.getElem_inj h2).1 e2
     omega
    rw[if_neg hne2]
    exact h3 _ (List.getElem_mem hi)
  ·intro x hx
   unfold oJ at hx
   by_cases e:x=s
   ·exact⟨_,List.mem_set hj _,e.symm⟩
   ·rw[if_neg e] at hx
    obtain⟨y,hy,e2⟩:=h4 x hx
    obtain⟨i,hi,rfl⟩:=List.getElem_of_mem hy
    refine⟨L[i], ?_,e2⟩
    have hne:j≠i:=fun e3=>by subst e3; exact e (by rw[← e2,hjt,a2])
    have:(L.set j (s,Bo b,t.2.2))[i]'(by rw[List.length_set]; exact hi)=L[i]:=by rw[List.getElem_set,if_neg hne]
    rw[← this]; exact List.getElem_mem _
def nK (m:Str) : List Str:=match iZ m with
 | none=>[]
 | some (_,l)=>l
def tY (m:Str) : Bool:=(iZ m).isSome
def Ch (f:Str→Option Str) (kp:Str→Bool) (p:Str) : Str→Bool:=(nK (kD f p)).foldl (fun k c=>oJ k c true) (oJ kp p (kp p || tY (kD f p)))
def iq (f:Str→Option Str) (l:List Str) : Str→Bool:=l.foldl (Ch f) (fun _=>false)
theorem KI:∀ {T:List eQ} {j:Nat},(T.map fM).eraseIdx j=(T.eraseIdx j).map fM
 | [],j=>rfl
 | x :: T,0=>rfl
 | x :: T,j + 1=>by rw[List.map_cons,List.eraseIdx_cons_succ,List.eraseIdx_cons_succ,List.map_cons,KI]
theorem erase_filter:∀ {T:List eQ} {j:Nat} {t:eQ},(T.map (·.1)).Nodup→T[j]?=some t→T.eraseIdx j=T.filter fun x=>decide (x.1≠t.1)
 | x :: T,0,t,hn,h=>by
   simp at h; subst h
   rw[List.map_cons,List.nodup_cons] at hn
   rw[List.eraseIdx_cons_zero,List.filter_cons]
   simp only[ne_eq,not_true_eq_false,decide_false,Bool.false_eq_true,if_false]
   exact(List.filter_eq_self.2 fun y hy=>by rw[decide_eq_true_eq]; exact fun e=>hn.1 (by rw[← e]; exact List.mem_map_of_mem hy)).symm
 | x :: T,j + 1,t,hn,h=>by
   rw[List.map_cons,List.nodup_cons] at hn
   have ht:t∈T:=List.mem_of_getElem? (by simpa using h)
   have hne:x.1≠t.1:=fun e=>hn.1 (by rw[e]; exact List.mem_map_of_mem ht)
   rw[List.eraseIdx_cons_succ,List.filter_cons,if_pos (decide_eq_true hne),erase_filter hn.2 (by simpa using h)]
def Mi (TSt:Nat) (c:au) : Prop:=∀ {M:RM} {sb:Nat} {T:List eQ} {f:Str→Option Str} {W:Nat→Prop} {v:AV} {l:List Str} {Q:ak},kS TSt M sb T f W→T.length≤1000000→Sl bO M v l→l.length≤1000000 →
 (∀ M' ks,kS TSt M' sb (T.filter fun t=>iq f l t.1) (fun s=>if iq f l s then f s else none) W→ae ks M M'→(∀ x∈ks,W x)→Q (N .i64 ((T.length - (T.filter fun t=>iq f l t.1).length:Nat) : Int)) M')→c [.ptr sb 0,v] M Q
theorem Ty {TSt TN:Nat} {cn:au} (hn:zT TN cn) : Mi TSt fun args M Q=>∃ a0 a1,args=[a0,a1]∧mP cn a0 a1 M Q:=by
 intro M sb T f W v l Q h hT hs hl hQ
 refine⟨_,_,rfl, ?_⟩
 unfold mP
 simp only[mX]
 rw[aL]
 have k1:ae [] M (M.push (.map [] 0)):=(ae.refl _ _).push _
 have n1:(M.push (.map [] 0)).heap M.next=some (.map [] 0):=RM.bR _
 have x1:(M.push (.map [] 0)).next=M.next + 1:=rfl
 generalize M.push (.map [] 0)=M1 at *
 have km1:KM M1 M.next (fun _=>false):=⟨[],0,n1,.nil,by simp,by simp⟩
 rw[aD.len hs]
 refine aG (fun m ys M3=>∃ i:Nat,m=l.length - i∧ys=[N .i64 (i:Int)]∧i≤l.length∧ae [] M M3∧M.next<M3.next∧KM M3 M.next (iq f (l.take i))) _ ⟨0,rfl,rfl,Nat.zero_le _,k1,by omega,km1⟩ ?_
 rintro next m ys M3 hnext ⟨i,rfl,rfl,hi,k3,hn3,km3⟩
 simp only[aC]
 rw[fE]
 refine aJ (fun hlt=>?_) (fun hge=>?_)
 ·have hlt:i<l.length:=of_decide_eq_true hlt
  have hstep:iq f (l.take (i + 1))=Ch f (iq f (l.take i)) l[i]:=by
   unfold iq
   rw[List.take_succ_eq_append_getElem hlt,List.foldl_append]; rfl
  refine gG (aD.keep hs k3 (by simp)) hlt ?_
  have h3:=h.keep k3 (by simp)
  have go:∀ w,Bs M3 w (kD f l[i])→(kD f l[i]).length≤1000000→cn [w] M3 fun t29 M_1=>bB t29 0 fun t30=>bB t29 1 fun t31=>bB t29 2 fun t32=>jf false [2] (Bo false) false M_1 (.map M.next) (St l[i]) fun t37 =>
    ax t37 false (fun k=>af .eql t32 (N .i64 0) fun t40=>k t40 M_1) (fun k=>k .undef M_1) fun abh M_5=>aV t37 (Bo true) abh fun t41=>nk false [2] M_5 (.map M.next) (St l[i]) t41 fun M_6=>aU t31 fun t43 =>
    aX (fun Nt Gx M_9=>af .lss (aa Gx 0) t43 fun t45=>az t45 (aI t31 (aa Gx 0) 1 fun t46=>ag M_9 t46 fun t47=>nk false [2] M_9 (.map M.next) t47 (Bo true) fun WB=>af .add (aa Gx 0) (N .i64 1) fun t50=>Nt [t50] WB) (af .add (N .i64 (i:Int)) (N .i64 1) fun t51=>next [t51] M_9)) [(N .i64 0)] M_6:=by
   intro w hw hwl
   have inner:∀ (lv:AV) (ls:List Str) (kp:Str→Bool) (M4:RM),Sl bO M4 lv ls→ls.length≤10000→(∀ x∈ah lv,x≠M.next)→ae [] M M4→M.next<M4.next→KM M4 M.next kp→ls.foldl (fun k c=>oJ k c true) kp=iq f (l.take (i + 1)) →
     (aU lv fun t43=>aX (fun Nt Gx M_9=>af .lss (aa Gx 0) t43 fun t45=>az t45 (aI lv (aa Gx 0) 1 fun t46=>ag M_9 t46 fun t47=>nk false [2] M_9 (.map M.next) t47 (Bo true) fun WB=>af .add (aa Gx 0) (N .i64 1) fun t50=>Nt [t50] WB) (af .add (N .i64 (i:Int)) (N .i64 1) fun t51=>next [t51] M_9)) [(N .i64 0)] M4):=by
    intro lv ls kp M4 hls hll hbl k4 hn4 km4 hfin
    rw[aD.len hls]
    refine aG (fun m ys M5=>∃ j:Nat,m=ls.length - j∧ys=[N .i64 (j:Int)]∧j≤ls.length∧ae [] M M5∧M.next<M5.next∧KM M5 M.next ((ls.take j).foldl (fun k c=>oJ k c true) kp)∧Sl bO M5 lv ls) _ ⟨0,rfl,rfl,Nat.zero_le _,k4,hn4,km4,hls⟩ ?_
    rintro next' m' ys' M5 vE ⟨j,rfl,rfl,hj,k5,hn5,km5,Z5⟩
    simp only[aC]
    rw[fE]
    refine aJ (fun hlt=>?_) (fun hge=>?_)
    ·have hlt:j<ls.length:=of_decide_eq_true hlt
     refine gG Z5 hlt ?_
     refine km5.upd fun M6 km6 k6 e6=>?_
     rw[gB (by omega)]
     refine vE _ _ _ (by omega) ⟨j + 1,rfl,rfl,hlt,k5.bu k6 (by simp),by omega, ?_,aD.keep Z5 k6 (fun x hx hm=>by simp at hm; exact hbl x hx hm)⟩
     rw[List.take_succ_eq_append_getElem hlt,List.foldl_append]; exact km6
    ·have:j=ls.length:=by
      have:¬ j<ls.length:=of_decide_eq_false hge
      omega
     subst this
     rw[List.take_length,hfin] at km5
     rw[gB (by omega)]
     exact hnext _ _ _ (by omega) ⟨i + 1,rfl,rfl,hlt,k5,hn5,km5⟩
   have aao:∀ {c p:Bool} {M:RM} {x:Int} {G:AV→RM→Prop},(decide (x=0))=p→G (Bo (c || p)) M→ax (Bo c) false (fun k=>af .eql (N .i64 x) (N .i64 0) fun t40=>k t40 M) (fun k=>k .undef M) (fun t M'=>aV (Bo c) (Bo true) t fun u=>G u M'):=by
    intro c p M x G hx hG
    refine SX (p:=p) (fun _ K hK=>?_) hG
    rw[bS,show(x == 0)=p by rw[← hx,Bool.eq_iff_iff,beq_iff_eq,decide_eq_true_iff]]
    exact hK
   refine hn hw (by omega) (fun M4 k4 hx=>?_) (fun n' ls lv M4 k4 hx o4=>?_)
   ·rw[cz,dD,jd]
    have hn4:=k4.next
    have km4:=km3.keep (by omega) k4 (by simp)
    refine km4.look ?_
    refine aao (p:=false) (by decide) ?_
    refine km4.upd fun M5 km5 k5 e5=>?_
    refine inner bA [] _ M5 .nil (by simp) (by simp[ah]) ((k3.trans k4).bu k5 (by simp)) (by omega) km5 ?_
    rw[hstep]
    unfold Ch nK tY
    rw[hx]; rfl
   ·rw[cz,dD,jd]
    have hn4:=k4.next
    have km4:=km3.keep (by omega) k4 (by simp)
    have hle:=lI hx
    refine km4.look ?_
    refine aao (p:=true) (by decide) ?_
    refine km4.upd fun M5 km5 k5 e5=>?_
    have hbl:∀ x∈ah lv,x≠M.next:=fun x hx=>by have:=(Own.blk o4 x hx).1; omega
    refine inner lv ls _ M5 (aD.keep (Own.gJ o4) k5 (fun x hx hm=>by simp at hm; exact hbl x hx hm)) (by omega) hbl ((k3.trans k4).bu k5 (by simp)) (by omega) km5 ?_
    rw[hstep]
    unfold Ch nK tY
    rw[hx]; rfl
  refine h3.look (fun h0=>?_) fun w b h0 hb hbl hw=>?_
  ·have e:kD f l[i]=[]:=by unfold kD; rw[h0]; rfl
   exact go bA (by rw[e]; exact⟨.nil,trivial⟩) (by rw[e]; simp)
  ·have e:kD f l[i]=b:=by unfold kD; rw[h0]; rfl
   exact go w (by rw[e]; exact hb) (by rw[e]; exact hbl)
 ·have:i=l.length:=by
   have:¬ i<l.length:=of_decide_eq_false hge
   omega
  subst this
  rw[List.take_length] at km3
  have h3:=h.keep k3 (by simp)
  obtain⟨mb,cl,g1,g2,g3,g4,g5,g6⟩:=h3.map
  have RZ:mb<M.next:=h.lt _ g1
  have hslt:sb<M.next:=h.lt _ h.own
  rw[bP,bE,Nat.zero_add,aF g3 rfl]
  refine⟨mb,_,cl,rfl,g4, ?_⟩
  have k4:ae [] M3 (M3.push (.iter (some mb) cl [] cl)):=(ae.refl _ _).push _
  have n4:(M3.push (.iter (some mb) cl [] cl)).heap M3.next=some (.iter (some mb) cl [] cl):=RM.bR _
  have x4:(M3.push (.iter (some mb) cl [] cl)).next=M3.next + 1:=rfl
  generalize M3.push (.iter (some mb) cl [] cl)=M4 at *
  obtain⟨kp,hkp⟩ : ∃ kp,iq f l=kp:=⟨_,rfl⟩
  rw[hkp] at hQ km3
  have hf0:(T.filter fun t=>decide (t.2.2 ∉ ([] : List Nat)) || kp t.1)=T:=List.filter_eq_self.2 fun t _=>by simp
  refine aG (fun z ys M'=>∃ seen:List Nat,z=kC seen T∧ys=[N .i64 ((T.length - (T.filter fun t=>decide (t.2.2 ∉ seen) || kp t.1).length:Nat) : Int)]∧ae [mb] M M'∧M3.next<M'.next∧M'.heap M3.next=some (.iter (some mb) cl seen cl) ∧
   M'.heap mb=some (.map ((T.filter fun t=>decide (t.2.2 ∉ seen) || kp t.1).map fM) cl)∧M'.heap sb=some (.row [.map mb] false TSt 0)∧KM M' M.next kp) (kC [] T)
   ⟨[],rfl,by rw[hf0,Nat.sub_self]; rfl,(k3.trans k4).mono (by simp),by omega,n4,by rw[hf0]; exact k4.aB g4 (by omega) (by simp),k4.aB g3 (by omega) (by simp),km3.keep (by omega) k4 (by simp)⟩ ?_
  rintro next z ys M' hnext ⟨seen,rfl,rfl,q1,q2,q3,q4,q5,q6⟩
  simp only[aC]
  have wfP:=g5.filter (fun t=>decide (t.2.2 ∉ seen) || kp t.1)
  refine⟨M3.next,mb,cl,seen,cl,_,cl,rfl,q3,q4, ?_,fun e he hs'=>?_,fun ha=>?_⟩
  ·generalize hTP:(T.filter fun t=>decide (t.2.2 ∉ seen) || kp t.1)=TP at *
   cases TP with
   | nil=>exact .inr (.inl rfl)
   | cons t TP=>exact .inr (.inr ⟨fM t,by simp,wfP.lt t (List.mem_cons_self ..)⟩)
  ·obtain⟨t,ht,rfl⟩:=List.mem_map.1 he
   have htT:t∈T:=(List.mem_filter.1 ht).1
   obtain⟨r3,_,_⟩:=qF (g:=fun _=>0) (seen:=seen) wfP.up t ht hs'
   obtain⟨_,_,r7⟩:=qF (g:=fun _=>0) (seen:=seen) g5.up t htT hs'
   rw[cz,fo]
   have k5:ae [mb] M (M'.put M3.next (.iter (some mb) cl (seen++[(fM t).2.2]) cl)):=q1.put _ (.inl (by have:=k3.next; omega))
   have kk5:ae [M3.next] M' (M'.put M3.next (.iter (some mb) cl (seen++[(fM t).2.2]) cl)):=(ae.refl _ _).put _ (.inr (by simp))
   have hn3':=k3.next
   have hnM:=q1.next
   have s3:(M'.put M3.next (.iter (some mb) cl (seen++[(fM t).2.2]) cl)).heap M3.next=some (.iter (some mb) cl (seen++[(fM t).2.2]) cl):=aM _
   have s4:=kk5.aB q4 (by omega) (by simp; omega)
   have s5:=kk5.aB q5 (by omega) (by simp; omega)
   have s6:=q6.keep (by omega) kk5 (by simp; omega)
   have e5:(M'.put M3.next (.iter (some mb) cl (seen++[(fM t).2.2]) cl)).next=M'.next:=rfl
   generalize M'.put M3.next (.iter (some mb) cl (seen++[(fM t).2.2]) cl)=M5 at *
   refine⟨M3.next,mb,cl,seen,_,cl,_,_,rfl,s3,s4,r3, ?_⟩
   dsimp only
   rw[cz,show(fM t).1=St t.1 from rfl]
   refine s6.look ?_
   rw[dO]
   have other:∀ x∈T,x.1≠t.1→(decide (x.2.2 ∉ seen++[t.2.2]) || kp x.1)=(decide (x.2.2 ∉ seen) || kp x.1):=by
    intro x hx hne
    have:x.2.2≠t.2.2:=fun e=>by
     obtain⟨i,hi,rfl⟩:=List.getElem_of_mem hx
     obtain⟨j,hj,rfl⟩:=List.getElem_of_mem htT
     have hp:=List.pairwise_iff_getElem.1 g5.up
     rcases Nat.lt_trichotomy i j with hij | hij | hij
     ·have:=hp i j hi hj hij; omega
     ·subst hij; exact hne rfl
     ·have:=hp j i hj hi hij; omega
    have e:(x.2.2 ∉ seen++[t.2.2])=(x.2.2 ∉ seen):=by
     simp only[List.mem_append,List.mem_singleton,this,or_false]
    simp only[e]
   refine aJ (fun hno=>?_) (fun Wp=>?_)
   ·have hno:kp t.1=false:=by simpa using hno
    rw[bP,bE,Nat.zero_add,aF s5 rfl]
    rcases uN t.1 (T.filter fun t=>decide (t.2.2 ∉ seen) || kp t.1) 0 with⟨a1,_⟩ | ⟨j,t',a1,a2,a3⟩
    ·exact absurd rfl (a1 t ht)
    have hj:=(List.getElem?_eq_some_iff.1 a1).1
    refine⟨mb,_,cl,[St t.1],_,rfl,s4,rfl,rfl,a3, ?_⟩
    have k6:ae [mb] M5 (M5.put mb (Kn ((T.filter fun t=>decide (t.2.2 ∉ seen) || kp t.1).map fM) cl (some (0 + j,t'.2.1)))):=(ae.refl _ _).put _ (.inr (by simp))
    have hfil:(T.filter fun x=>decide (x.2.2 ∉ seen++[t.2.2]) || kp x.1)=(T.filter fun t=>decide (t.2.2 ∉ seen) || kp t.1).eraseIdx j:=by
     rw[erase_filter wfP.nodup a1,List.filter_filter]
     refine List.filter_congr fun x hx=>?_
     by_cases hxt:x.1=t.1
     ·have:=g5.same hx htT hxt
      subst this
      simp[hno,a2]
     ·rw[other x hx hxt,a2]
      simp[hxt]
    have m4:(M5.put mb (Kn ((T.filter fun t=>decide (t.2.2 ∉ seen) || kp t.1).map fM) cl (some (0 + j,t'.2.1)))).heap mb=some (.map ((T.filter fun x=>decide (x.2.2 ∉ seen++[t.2.2]) || kp x.1).map fM) cl):=by
     rw[aM,hfil]
     simp only[Kn,Nat.zero_add]
     rw[KI]
    have e6:(M5.put mb (Kn ((T.filter fun t=>decide (t.2.2 ∉ seen) || kp t.1).map fM) cl (some (0 + j,t'.2.1)))).next=M5.next:=rfl
    dsimp only
    generalize M5.put mb (Kn ((T.filter fun t=>decide (t.2.2 ∉ seen) || kp t.1).map fM) cl (some (0 + j,t'.2.1)))=M6 at *
    have hlen:(T.filter fun x=>decide (x.2.2 ∉ seen++[t.2.2]) || kp x.1).length + 1=(T.filter fun t=>decide (t.2.2 ∉ seen) || kp t.1).length:=by
     rw[hfil,List.length_eraseIdx_of_lt hj]; omega
    have hle:(T.filter fun t=>decide (t.2.2 ∉ seen) || kp t.1).length≤T.length:=List.length_filter_le ..
    rw[gB (by omega),show T.length - (T.filter fun t=>decide (t.2.2 ∉ seen) || kp t.1).length + 1=T.length - (T.filter fun x=>decide (x.2.2 ∉ seen++[t.2.2]) || kp x.1).length by omega]
    exact hnext _ _ _ r7 ⟨seen++[t.2.2],rfl,rfl,k5.trans k6,by omega,k6.aB s3 (by omega) (by simp; omega),m4,k6.aB s5 (by omega) (by simpa using g2.symm),s6.keep (by omega) k6 (by simp; omega)⟩
   ·have Wp:kp t.1=true:=by simpa using Wp
    have hfil:(T.filter fun x=>decide (x.2.2 ∉ seen++[t.2.2]) || kp x.1)=(T.filter fun t=>decide (t.2.2 ∉ seen) || kp t.1):=by
     refine List.filter_congr fun x hx=>?_
     by_cases hxt:x.1=t.1
     ·have:=g5.same hx htT hxt
      subst this
      simp[Wp]
     ·exact other x hx hxt
    exact hnext _ _ _ r7 ⟨seen++[t.2.2],rfl,by rw[hfil],k5,by omega,s3,by rw[hfil]; exact s4,s5,s6⟩
  ·dsimp only
   rw[cz,dH]
   have hfil:(T.filter fun t=>decide (t.2.2 ∉ seen) || kp t.1)=T.filter fun t=>kp t.1:=by
    refine List.filter_congr fun t ht=>?_
    cases hk:kp t.1 with
    | true=>simp
    | false =>
      have:t.2.2∈seen:=by
       rcases Classical.em (t.2.2∈seen) with hx | hx
       ·exact hx
       ·have:=ha (fM t) (List.mem_map_of_mem (List.mem_filter.2 ⟨ht,by simp[hx]⟩)) hx
        have:=g5.lt t ht
        simp only[fM] at *
        omega
      simp[this]
   rw[hfil] at q4 ⊢
   refine hQ M' [mb] ⟨fun x hx=>Nat.lt_of_lt_of_le (h.lt x hx) q1.next,h.own,⟨mb,cl,g1,g2,q5,q4,g5.filter _,fun t ht=>g6 t (List.mem_filter.1 ht).1⟩,fun t ht=>?_,fun s b hs=>?_,fun t ht=>h.nm t (List.mem_filter.1 ht).1⟩ q1 (by simpa using g1)
   ·obtain⟨ht1,ht2⟩:=List.mem_filter.1 ht
    obtain⟨b,p1,p2,p3,p4⟩:=h.val t ht1
    exact⟨b,by rw[if_pos ht2]; exact p1,p2.keep q1 (fun x hx hm=>by simp at hm; exact(g6 t ht1 x hx).1 hm),p3,p4⟩
   ·by_cases hk:kp s=true
    ·rw[if_pos hk] at hs
     obtain⟨t,ht,e⟩:=h.dom s b hs
     exact⟨t,List.mem_filter.2 ⟨ht,by rw[e]; exact hk⟩,e⟩
    ·rw[if_neg hk] at hs; cases hs
abbrev bL:=Str × Str
def uG:mF bL where
 size:=2
 rel M cs x S:=∃ v,cs=[St x.1,v]∧Bs M v x.2∧∀ d∈ah v,S d
 len h:=by obtain⟨v,rfl,_⟩:=h; rfl
 one h:=by obtain⟨v,rfl,h,_⟩:=h; simp[aD.one h.sl]; rfl
 mono h hs:=by obtain⟨v,rfl,h,k⟩:=h; exact⟨v,rfl,h,fun x hx=>hs x (k x hx)⟩
 lt h:=by obtain⟨v,rfl,h,k⟩:=h; exact⟨v,rfl,h,fun x hx=>⟨k x hx,h.lt x hx⟩⟩
 keep h hk hb:=by obtain⟨v,rfl,h,k⟩:=h; exact⟨v,rfl,h.keep hk (fun x hx hm=>hb x hm (k x hx)),k⟩
def fW (w:List bL) (s:Str) : Option Str:=(w.find? fun x=>decide (x.1=s)).map (·.2)
theorem Yb {w:List bL} {s:Str} (h:∀ x∈w,x.1≠s) : fW w s=none:=by
 unfold fW
 rw[List.find?_eq_none.2 (by simpa using h)]; rfl
theorem Xe {w:List bL} {s:Str} {i:Nat} (hi:i<w.length) (h:w[i].1=s) (hb:∀ x∈w.take i,x.1≠s) : fW w s=some w[i].2:=by
 unfold fW
 have e:w=w.take i++w[i] :: w.drop (i + 1):=by rw[← List.drop_eq_getElem_cons hi,List.take_append_drop]
 have:w.find? (fun x=>decide (x.1=s))=some w[i]:=by
  generalize w[i]=y at h e ⊢
  rw[e,List.find?_append,List.find?_eq_none.2 (by simpa using hb),List.find?_cons_of_pos (by simp[h])]
  simp
 rw[this]; rfl
theorem uM {M:RM} {v:AV} {w:List bL} {S:Nat→Prop} (h:fw uG M v w S) {i:Nat} (hi:i<w.length) :
  ∃ b o u,b<M.next∧(∀ (K:AV→Prop),aI v (N .i64 (i:Int)) 2 K=K (.ptr b o))∧M.loads b o 2=some [St w[i].1,u]∧M.cell b o=some (St w[i].1)∧M.cell b (o + 1)=some u∧Bs M u w[i].2∧∀ d∈ah u,S d:=by
 obtain⟨b,o,cs,h1,h2,h3,h4,u,rfl,h5,h6⟩:=h.at (i:=i) 2 (i:Int) hi
 exact⟨b,o,u,h1,fun K=>h3 .i64 K,h4,kM h4 rfl,Ct h4 (j:=1) rfl,h5,h6⟩
def uI (c:au) : Prop:=∀ {M:RM} {v:AV} {w:List bL} {S:Nat→Prop} {s:Str} {Q:ak},fw uG M v w S→w.length≤10000000 →
 (fW w s=none→Q (N .i64 (-1)) M)→(∀ (i:Nat) (hi:i<w.length),w[i].1=s→fW w s=some w[i].2→Q (N .i64 (i:Int)) M)→c [v,St s] M Q
theorem find_spec:uI fun args M Q=>∃ a0 a1,args=[a0,a1]∧uY a0 a1 M Q:=by
 intro M v w S s Q h hl h0 h1
 refine⟨_,_,rfl, ?_⟩
 unfold uY
 refine aG (fun m ys M3=>∃ i:Nat,m=w.length - i∧ys=[N .i64 (i:Int)]∧i≤w.length∧M3=M∧∀ x∈w.take i,x.1≠s) _ ⟨0,rfl,rfl,Nat.zero_le _,rfl,by simp⟩ ?_
 rintro next m ys M3 hnext ⟨i,rfl,rfl,hi,rfl,hb⟩
 simp only[aC]
 rw[h.len,fE]
 refine aJ (fun hlt=>?_) (fun hge=>?_)
 ·have hlt:i<w.length:=of_decide_eq_true hlt
  obtain⟨b,o,u,g1,g2,g3,g4,g5,g6,g7⟩:=uM h hlt
  rw[g2,bE,Nat.add_zero,dM]
  refine⟨_,g4, ?_⟩
  rw[mR]
  refine aJ (fun he=>?_) (fun he=>?_)
  ·have he:w[i].1=s:=by simpa using he
   exact h1 i hlt he (Xe hlt he hb)
  ·have he:w[i].1≠s:=by simpa using he
   rw[gB (by omega)]
   refine hnext _ _ _ (by omega) ⟨i + 1,rfl,rfl,hlt,rfl,fun x hx=>?_⟩
   rw[List.take_succ_eq_append_getElem hlt,List.mem_append] at hx
   rcases hx with hx | hx
   ·exact hb x hx
   ·simp at hx; subst hx; exact he
 ·have:i=w.length:=by
   have:¬ i<w.length:=of_decide_eq_false hge
   omega
  subst this
  rw[List.take_length] at hb
  exact h0 (Yb hb)
def gq (w:List bL) (l:List Str) : List Str:=gD (fun s=>bY s && !(fW w s).isSome) l
def BJ (T:Nat) (c:au) : Prop:=∀ {M:RM} {v lv:AV} {w:List bL} {S:Nat→Prop} {l:List Str} {Q:ak},fw uG M v w S→w.length≤10000000→Sl bO M lv l→l.length≤10000000→(∀ x∈l,x.length≤281474976710656) →
 (∀ v' M',ae [] M M'→Ow bO M' M.next T v' (gq w l)→Q v' M')→c [v,lv] M Q
theorem MC {T:Nat} {cd cf:au} (hd:JP cd) (hf:uI cf) : BJ T fun args M Q=>∃ a0 a1,args=[a0,a1]∧wO T cd cf a0 a1 M Q:=by
 intro M v lv w S l Q h hwl hs hl hlx hQ
 refine⟨_,_,rfl, ?_⟩
 unfold wO
 simp only[mX,xU,Sha.dW]
 refine Sha.xJ ?_
 show aO _ _ _ _
 rw[aL]
 have k0:ae [] M (M.push (.row [] false T 0)):=(ae.refl _ _).push _
 have o0:Ow bO (M.push (.row [] false T 0)) M.next T (.slc M.next 0 0 (.ex 0)) []:=Ow.lit bO M
 refine aG (fun m ys M3=>∃ (i:Nat) (ov:AV),m=l.length - i∧ys=[ov,N .i64 (i:Int)]∧i≤l.length∧ae [] M M3∧Ow bO M3 M.next T ov (gq w (l.take i))) _ ⟨0,_,rfl,rfl,Nat.zero_le _,k0,o0⟩ ?_
 rintro next m ys M3 hnext ⟨i,ov,rfl,rfl,hi,k3,o3⟩
 simp only[aC,bF]
 have hs3:=aD.keep hs k3 (by simp)
 rw[aD.len hs3,fE]
 refine aJ (fun hlt=>?_) (fun hge=>?_)
 ·have hlt:i<l.length:=of_decide_eq_true hlt
  have hstep:gq w (l.take (i + 1))=dC (fun s=>bY s && !(fW w s).isSome) (gq w (l.take i)) l[i]:=by
   unfold gq gD
   rw[List.take_succ_eq_append_getElem hlt,List.foldl_append]; rfl
  have hll:(gq w (l.take i)).length≤10000000:=by
   have:=rE (p:=fun s=>bY s && !(fW w s).isSome) (l:=l.take i) (acc:=[])
   rw[List.length_take] at this
   unfold gq gD; simp only[List.length_nil] at this; omega
  refine dh (fun zs M'=>∃ ov',zs=[ov']∧ae [] M M'∧Ow bO M' M.next T ov' (gq w (l.take (i + 1)))) ?_ ?_
  ·rintro zs M' ⟨ov',rfl,c1,c2⟩
   simp only[aC]
   rw[gB (by omega)]
   exact hnext _ _ _ (by omega) ⟨i + 1,ov',rfl,rfl,hlt,c1,c2⟩
  intro J hJ
  refine gG hs3 hlt ?_
  refine hd (hlx _ (List.getElem_mem hlt)) ?_
  rw[dO]
  refine SX (p:=(fW w l[i]).isSome) (fun _ K hK=>?_) ?_
  ·refine gG hs3 hlt ?_
   refine hf (h.keep k3 (by simp)) hwl (fun h0=>?_) (fun j hj _ h1=>?_)
   ·rw[fV,show decide ((-1:Int) ≥ 0)=false by decide]; rw[h0] at hK; exact hK
   ·rw[fV,show decide ((j:Int) ≥ 0)=true by simp]; rw[h1] at hK; exact hK
  refine aG (fun m ys M4=>∃ j:Nat,m=(gq w (l.take i)).length - j∧ys=[Bo ((!bY l[i] || (fW w l[i]).isSome) || decide (l[i]∈(gq w (l.take i)).take j)),N .i64 (j:Int)]∧j≤(gq w (l.take i)).length∧M4=M3) _ ⟨0,rfl,by simp,Nat.zero_le _,rfl⟩ ?_
  rintro next' m' ys' M4 vE ⟨j,rfl,rfl,hj,rfl⟩
  simp only[aC,bF]
  rw[aD.len (Own.gJ o3),fE]
  refine aJ (fun hlt2=>?_) (fun Hl=>?_)
  ·have hlt2:j<(gq w (l.take i)).length:=of_decide_eq_true hlt2
   refine orK (p:=decide ((gq w (l.take i))[j]=l[i])) (fun _ K hK=>?_) ?_
   ·refine gG (Own.gJ o3) hlt2 ?_
    refine gG hs3 hlt ?_
    rw[mR,show((gq w (l.take i))[j] == l[i])=decide ((gq w (l.take i))[j]=l[i]) by rw[Bool.eq_iff_iff]; simp]
    exact hK
   rw[gB (by omega)]
   refine vE _ _ _ (by omega) ⟨j + 1,rfl, ?_,hlt2,rfl⟩
   congr 2
   rw[List.take_succ_eq_append_getElem hlt2,Bool.or_assoc]
   congr 1
   rw[Bool.eq_iff_iff]
   simp only[decide_eq_true_eq,Bool.or_eq_true,List.mem_append,List.mem_singleton]
   exact⟨fun h=>h.imp id Eq.symm,fun h=>h.imp id Eq.symm⟩
  ·have:j=(gq w (l.take i)).length:=by
    have:¬ j<(gq w (l.take i)).length:=of_decide_eq_false Hl
    omega
   subst this
   rw[List.take_length,dO]
   have hcond:(!(!bY l[i] || (fW w l[i]).isSome || decide (l[i]∈gq w (l.take i))))=((bY l[i] && !(fW w l[i]).isSome) && !decide (l[i]∈gq w (l.take i))):=by
    cases bY l[i] <;> cases(fW w l[i]).isSome <;> simp
   rw[hcond]
   refine aJ (fun hb=>?_) (fun hb=>?_)
   ·refine gG hs3 hlt ?_
    rw[fq (x:=St l[i]) (size:=1) rfl rfl rfl,aL]
    have hn3:=k3.next
    refine fP (E:=bO) (a:=l[i]) o3 (by omega) (by decide) (by omega) (by omega) fun v5 M5 o5 k5 hn5 hv5=>?_
    refine hJ _ _ ⟨v5,rfl,ae.own k3 k5 (fun x hx=>(Own.blk o3 x hx).1), ?_⟩
    rw[hstep]
    unfold dC
    rw[if_pos hb]
    exact o5
   ·refine hJ _ _ ⟨ov,rfl,k3, ?_⟩
    rw[hstep]
    unfold dC
    rw[if_neg (by rw[hb]; decide)]
    exact o3
 ·have:i=l.length:=by
   have:¬ i<l.length:=of_decide_eq_false hge
   omega
  subst this
  rw[List.take_length] at o3
  exact hQ ov M3 k3 o3
def uH (w:List bL) (s:Str) : List Str:=match fW w s with
 | none=>[s]
 | some m=>gq w (nK m)
def yT (c:au) : Prop:=∀ {M:RM} {v:AV} {w:List bL} {S:Nat→Prop} {s:Str} {Q:ak},fw uG M v w S→w.length≤10000000→(∀ x∈w,x.2.length≤1000000) →
 (∀ v' M',ae [] M M'→Cr M.next M' v' (uH w s)→Q v' M')→c [v,St s] M Q
theorem H8 {T:Nat} {cf cn cw:au} (hf:uI cf) (hn:rV T cn) (hw:BJ T cw) : yT fun args M Q=>∃ a0 a1,args=[a0,a1]∧pR cf T cn cw a0 a1 M Q:=by
 intro M v w S s Q h hwl hbl hQ
 refine⟨_,_,rfl, ?_⟩
 unfold pR
 refine hf h hwl (fun h0=>?_) (fun i hi hs h1=>?_)
 ·rw[dK,show decide ((-1:Int)<0)=true by decide,fo,fq (x:=St s) (size:=1) rfl rfl rfl,aL]
  refine hQ _ _ ((ae.refl _ _).push _) ⟨?_,by simp[ah]⟩
  unfold uH; rw[h0]
  exact Sl.new (E:=bO) [s]
 ·rw[dK,show decide ((i:Int)<0)=false by simp,dH]
  obtain⟨b,o,u,g1,g2,g3,g4,g5,g6,g7⟩:=uM h hi
  rw[g2,bE,dM]
  refine⟨_,g5, ?_⟩
  have hub:=hbl _ (List.getElem_mem hi)
  refine hn g6 (by omega) (fun hx=>?_) (fun n l lv M1 k1 hx o1=>?_)
  ·rw[cz,dD,jd]
   refine hw h hwl (lv:=bA) (l:=[]) .nil (by simp) (by simp) fun v' M2 k2 o2=>?_
   refine hQ v' M2 k2 ?_
   unfold uH nK; rw[h1]; simp only[hx]
   exact Cr.own o2
  ·rw[cz,dD,jd]
   have hle:=lI hx
   refine hw (h.keep k1 (by simp)) hwl (Own.gJ o1) (by omega) (fun x hx=>by rw[hle.2.2 x hx]; decide) fun v' M2 k2 o2=>?_
   refine hQ v' M2 (k1.trans k2) ?_
   unfold uH nK; rw[h1]; simp only[hx]
   exact Cr.own (Own.mono o2 k1.next)
def Da (c:au) : Prop:=∀ {M:RM} {v:AV} {w:List bL} {S:Nat→Prop} {s:Str} {Q:ak},fw uG M v w S→w.length≤10000000→(∀ x∈w,x.2.length≤1000000) →
 (∀ v' M',ae [] M M'→Nw M.next M' v' (gZ (fW w) s).1→Q (.tup [v',N .i64 ((gZ (fW w) s).2:Int)]) M')→c [v,St s] M Q
theorem LU {T T8:Nat} {cf cn:au} (hf:uI cf) (hn:rV T cn) : Da fun args M Q=>∃ a0 a1,args=[a0,a1]∧sQ cf cn T8 a0 a1 M Q:=by
 intro M v w S s Q h hwl hbl hQ
 refine⟨_,_,rfl, ?_⟩
 unfold sQ
 simp only[Sha.dW]
 refine hf h hwl (fun h0=>?_) (fun i0 hi0 hs0 h0=>?_)
 ·rw[dK,show decide ((-1:Int)<0)=true by decide,fo]
  have:=hQ bA M (ae.refl _ _) (by unfold gZ; rw[h0]; exact qg)
  unfold gZ at this; rw[h0] at this; exact this
 ·rw[dK,show decide ((i0:Int)<0)=false by simp,dH]
  obtain⟨b,o,u,g1,g2,g3,g4,g5,g6,g7⟩:=uM h hi0
  rw[g2,bE,dM]
  refine⟨_,g5, ?_⟩
  have hub:=hbl _ (List.getElem_mem hi0)
  refine hn g6 (by omega) (fun hx=>?_) (fun n' l lv M2 k2 hx o2=>?_)
  ·rw[cz,dD,jd,dO,Bool.not_false,fo]
   have:=hQ bA M (ae.refl _ _) (by unfold gZ; rw[h0]; simp only[hx]; exact qg)
   unfold gZ at this; rw[h0] at this; simp only[hx] at this; exact this
  ·rw[cz,dD,jd,dO,Bool.not_true,dH]
   obtain⟨hll,hn4,Z8⟩:=lI hx
   have hn2:=k2.next
   have hls:=Own.gJ o2
   have h2:=h.keep k2 (by simp)
   have hPh:gZ (fW w) s=if l.any (isNil (fW w)) then([],4) else jU (fW w) n' [] l:=by unfold gZ; rw[h0]; simp only[hx]
   rw[hPh] at hQ
   refine aG (fun m ys M3=>∃ i:Nat,m=l.length - i∧ys=[N .i64 (i:Int)]∧i≤l.length∧M3=M2∧∀ x∈l.take i,isNil (fW w) x=false) _ ⟨0,rfl,rfl,Nat.zero_le _,rfl,by simp⟩ ?_
   rintro next m ys M3 hnext ⟨i,rfl,rfl,hi,rfl,hno⟩
   simp only[aC]
   rw[aD.len hls,fE]
   refine aJ (fun hlt=>?_) (fun hge=>?_)
   ·have hlt:i<l.length:=of_decide_eq_true hlt
    refine gG hls hlt ?_
    refine hf h2 hwl (fun h00=>?_) (fun j hj _ h1=>?_)
    ·rw[dK,show decide ((-1:Int)<0)=true by decide,fo]
     have:l.any (isNil (fW w))=true:=List.any_eq_true.2 ⟨_,List.getElem_mem hlt,by unfold isNil; rw[h00]; rfl⟩
     rw[if_pos this] at hQ
     exact hQ bA _ k2 qg
    ·rw[dK,show decide ((j:Int)<0)=false by simp,dH,gB (by omega)]
     refine hnext _ _ _ (by omega) ⟨i + 1,rfl,rfl,hlt,rfl,fun x hx=>?_⟩
     rw[List.take_succ_eq_append_getElem hlt,List.mem_append] at hx
     rcases hx with hx | hx
     ·exact hno x hx
     ·simp at hx; subst hx; unfold isNil; rw[h1]; rfl
   have:i=l.length:=by
    have:¬ i<l.length:=of_decide_eq_false hge
    omega
   subst this
   rw[List.take_length] at hno
   have hany:¬ l.any (isNil (fW w))=true:=by
    rw[Bool.not_eq_true,List.any_eq_false]
    intro x hx; rw[hno x hx]; decide
   rw[if_neg hany] at hQ
   refine aG (fun m ys M4=>∃ (i:Nat) (pv:AV) (acc:Str),m=l.length - i∧ys=[pv,N .i64 (i:Int)]∧i≤l.length∧ae [] M M4∧ae [] M3 M4∧Ow BY M4 M3.next T8 pv acc∧acc.length=min n' (i * 64)∧jU (fW w) n' acc (l.drop i)=jU (fW w) n' [] l) _ ⟨0,bA,[],rfl,rfl,Nat.zero_le _,k2,ae.refl _ _,.nil,by simp,rfl⟩ ?_
   rintro next' m' ys' M4 vE ⟨i,pv,acc,rfl,rfl,hi,k4,k34,o4,hacc,hj⟩
   simp only[aC,bF]
   have ZB:=aD.keep hls k34 (by simp)
   have h4:=h2.keep k34 (by simp)
   rw[aD.len ZB,fE]
   have Wu:=k34.next
   refine aJ (fun hlt=>?_) (fun Hl=>?_)
   ·have hlt:i<l.length:=of_decide_eq_true hlt
    have lc:i * 64<n':=by rw[hll] at hlt; omega
    have hacc2:acc.length=i * 64:=by omega
    refine dh (fun zs M'=>∃ (pv' : AV) (acc' : Str),zs=[pv']∧ae [] M M'∧ae [] M3 M'∧Ow BY M' M3.next T8 pv' acc'∧acc'.length=min n' ((i + 1) * 64)∧jU (fW w) n' acc' (l.drop (i + 1))=jU (fW w) n' [] l) ?_ ?_
    ·rintro zs M' ⟨pv',acc',rfl,c1,c2,c3,c4,c5⟩
     simp only[aC]
     rw[gB (by omega)]
     exact vE _ _ _ (by omega) ⟨i + 1,pv',acc',rfl,rfl,hlt,c1,c2,c3,c4,c5⟩
    intro J hJ
    refine gG ZB hlt ?_
    rw[List.drop_eq_getElem_cons hlt,jU] at hj
    refine hf h4 hwl (fun h00=>?_) (fun q hq hqs h1=>?_)
    ·have:=hno _ (List.getElem_mem hlt)
     unfold isNil at this; rw[h00] at this; cases this
    obtain⟨b',o',u',f1,f2,f3,f4,f5,f6,f7⟩:=uM h4 hq
    rw[f2,bE,dM]
    refine⟨_,f5, ?_⟩
    have hval:kD (fW w) l[i]=w[q].2:=by unfold kD; rw[h1]; rfl
    rw[hval] at hj
    have hub':=hbl _ (List.getElem_mem hq)
    have e64:∀ {K:AV→Prop},af .mul (N .i64 (i:Int)) (N .i64 64) K=K (N .i64 ((i * 64:Nat) : Int)):=by
     intro K; rw[fK,show(i:Int) * 64=((i * 64:Nat) : Int) by omega,aP (by omega) (by omega)]
    refine dh (fun zs M'=>zs=[N .i64 ((min 64 (n' - acc.length) : Nat) : Int)]∧M'=M4) ?_ ?_
    ·rintro zs M' ⟨rfl,rfl⟩
     simp only[aC]
     rw[f6.len,bX]
     have hne:(((w[q].2.length:Nat) : Int) != ((min 64 (n' - acc.length) : Nat) : Int))=!decide (w[q].2.length=min 64 (n' - acc.length)):=by
      rw[bne,Bool.not_inj_iff,Bool.eq_iff_iff,beq_iff_eq,decide_eq_true_iff]; omega
     rw[hne]
     refine aJ (fun hbad=>?_) (fun hgood=>?_)
     ·have hbad:¬ w[q].2.length=min 64 (n' - acc.length):=by simpa using hbad
      rw[if_neg hbad] at hj
      rw[← hj] at hQ
      exact hQ bA _ k4 qg
     ·have hgood:w[q].2.length=min 64 (n' - acc.length):=by simpa using hgood
      rw[if_pos hgood] at hj
      refine iE (E:=BY) o4 Wu (by decide) f6.sl (by omega) (by omega) fun v5 M5 o5 k5 hn5 hv5=>?_
      have hbk:∀ x∈ah pv,M3.next≤x:=fun x hx=>(Own.blk o4 x hx).1
      have hnM:=k2.next
      refine hJ _ _ ⟨v5,acc++w[q].2,rfl,k4.bu k5 (fun x hx=>.inl (by have:=hbk x hx; omega)),k34.bu k5 (fun x hx=>.inl (hbk x hx)),o5,by rw[List.length_append]; omega,hj⟩
    ·intro J7 hJ7
     rw[e64,JN (by omega) (by omega),show(64:Int)=((64:Nat) : Int) from rfl,fE]
     refine aJ (fun hs=>?_) (fun hs=>?_)
     ·have hs:n' - i * 64<64:=of_decide_eq_true hs
      rw[show((64:Nat) : Int)=64 from rfl,e64,JN (by omega) (by omega)]
      exact hJ7 _ _ ⟨by congr 2; omega,rfl⟩
     ·have hs:¬ n' - i * 64<64:=of_decide_eq_false hs
      exact hJ7 _ _ ⟨by congr 2; omega,rfl⟩
   ·have:i=l.length:=by
     have:¬ i<l.length:=of_decide_eq_false Hl
     omega
    subst this
    rw[List.drop_length,jU] at hj
    rw[← hj] at hQ
    have hnM:=k2.next
    exact hQ pv M4 k4 ⟨Bs.own o4,fun x hx=>by have:=(Own.blk o4 x hx).1; omega⟩
end Go.Ab.Bl
