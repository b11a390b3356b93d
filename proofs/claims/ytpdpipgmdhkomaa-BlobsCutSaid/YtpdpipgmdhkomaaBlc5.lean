/- Part 5 of the ground of the proofs of this seat (texts R28 to C19). By an AI agent. -/
import Derived.Test.YtpdpipgmdhkomaaBlc4
import Derived.RangeFuncRecord
import Derived.RangeFuncSeq
import Derived.OrdersIn
import Derived.LoopNIn
set_option maxRecDepth 10000
set_option linter.unusedVariables false
set_option linter.unusedSimpArgs false
namespace Go.Ab
open Go Go.RowKit
abbrev Gc (r:Option Nat) : Fence := { Fence.wide with round:=r }
def wd (ds:List Deferred) (a:Act) : Act := { a with defers:=ds }
theorem BH (ds:List Deferred) (a:Act) (d:Option Tmp) (v:Value) : (wd ds a).put d v=wd ds (a.put d v):=by cases d <;> rfl
theorem Hw (ds:List Deferred) (a:Act) : (wd ds a).eval=a.eval:=by funext x; cases x <;> rfl
theorem put_defers (a:Act) (d:Option Tmp) (v:Value) : (a.put d v).defers=a.defers:=by cases d <;> rfl
def Dw (o:Oper) : Bool:=match o.op with | .defer _=>false | _=>true
theorem Sg {o:Oper} (h:Dw o=true) : ∀ c,o.op≠.defer c:=by
 intro c e; unfold Dw at h; rw[e] at h; cases h
def Qn (Q0:Act→World→Prop) : Exit→Act→World→Prop:=fun e a w=>e=.normal∧a.defers=[]∧Q0 a w
section
variable {P:Program} {Q0:Act→World→Prop} {K K' : Act→World→Prop} {Q' : Exit→Act→World→Prop} {r:Option Nat} {n:Nat} {ds:List Deferred}
theorem VQ {row:String} {args:Array Value} {w:World} {R:Value→World→Prop} (h:Rows P row args w R) : RowsIn (Gc r) n P row args w R :=
 fun c cs _=>let ⟨v,w',q,s⟩:=h c cs; ⟨v,w',q,(stepsIn_wide (P:=P)).2 s⟩
theorem L8 {f:FuncId} {args:Array Value} {w:World} {R:Ending→World→Prop} (h:Calls P f args w R) : CallsIn (Gc r) n P f args w R :=
 (callsIn_wide (n:=n)).2 h
theorem Nh {o:Oper} (hKd:∀ a w,a.defers≠[]→¬ K a w) {a:Act} (ha:a.defers≠[]) {res:Result Next} (h:o.upon P a K (Qn Q0) res) : False:=by
 unfold Oper.upon at h
 split at h
 ·exact hKd _ _ (by rw[put_defers]; exact ha) h
 ·exact hKd _ _ (by rw[put_defers]; exact ha) h
 ·exact hKd _ _ (by rw[put_defers]; simp) h
 ·obtain⟨e,w',fr,hR,_⟩:=h []
  cases e with
  | returned v=>exact hKd _ _ (by rw[put_defers]; exact ha) hR
  | panicked c=>cases hR.1
  | outgrown=>obtain⟨a,w,h⟩:=hR; cases h.1
 ·obtain⟨v,w',hR,_⟩:=h default []
  exact hKd _ _ (by rw[put_defers]; exact ha) hR
 ·cases h.1
 ·exact h
theorem Vr {o:Oper} (hK:∀ a w,a.defers=[]→K a w→K' (wd ds a) w) (hKd:∀ a w,a.defers≠[]→¬ K a w) {a:Act} (ha:a.defers=[]) {res:Result Next} (h:o.upon P a K (Qn Q0) res) :
  o.uponIn (Gc r) n P (wd ds a) K' Q' res:=by
 unfold Oper.upon at h
 split at h
 ·rw[Oper.uponIn_value,BH]
  exact hK _ _ (by rw[put_defers]; exact ha) h
 ·rw[Oper.uponIn_skip,BH]
  exact hK _ _ (by rw[put_defers]; exact ha) h
 ·exact absurd h (hKd _ _ (by rw[put_defers]; simp))
 ·rw[Oper.uponIn_enter]
  refine⟨fun h=>(by cases h),L8 (h.mono ?_)⟩
  intro e w'' hR
  cases e with
  | returned v=>simp only at hR ⊢; rw[BH]; exact hK _ _ (by rw[put_defers]; exact ha) hR
  | panicked c=>cases hR.1
  | outgrown=>obtain⟨a,w,h⟩:=hR; cases h.1
 ·rw[Oper.uponIn_row]
  refine⟨fun h=>(by cases h),VQ (h.mono ?_)⟩
  intro v w'' hR
  rw[BH]; exact hK _ _ (by rw[put_defers]; exact ha) hR
 ·cases h.1
 ·exact h.elim
theorem RV {o:Oper} (hKd:∀ a w,a.defers≠[]→¬ K a w) {a:Act} {w:World} (ha:a.defers≠[]) (h:o.wp P a w K (Qn Q0)) : False:=Nh hKd ha h
theorem Yx {o:Oper} (hd:Dw o=true) (hK:∀ a w,a.defers=[]→K a w→K' (wd ds a) w) (hKd:∀ a w,a.defers≠[]→¬ K a w) {a:Act} {w:World} (ha:a.defers=[]) (h:o.wp P a w K (Qn Q0)) :
  o.wpIn (Gc r) n P (wd ds a) w K' Q':=by
 refine⟨fun _ _=>trivial, ?_⟩
 rw[Oper.semAt_eq _ _ _ (Sg hd),Hw]
 exact Vr hK hKd ha h
theorem Jq {Q0:Act→World→Prop} : ¬ LetsOut (Qn Q0):=fun⟨_,_,h⟩=>by cases h.1
theorem oH {ops:Array Oper} : ∀ (l:List Nat) (a:Act) (w:World),a.defers≠[]→¬ wpOps P ops (Qn Q0) l a w
 | [],a,w,ha,h=>ha h.2.1
 | i :: l,a,w,ha,h=>by
   rw[wpOps_cons] at h
   unfold wpOp at h
   split at h
   ·exact oH l a w ha h
   ·split at h
    ·rcases h with h | h
     ·exact RV (fun a w=>oH l a w) ha h
     ·exact Jq h.2
    ·exact oH l _ w (by rw[put_defers]; exact ha) h
theorem sW {ops:Array Oper} (hd:ops.toList.all Dw=true) (hQ:∀ a w,a.defers=[]→Q0 a w→Q' .normal (wd ds a) w) : ∀ (l:List Nat) (a:Act) (w:World),a.defers=[]→wpOps P ops (Qn Q0) l a w→wpOpsIn (Gc r) n P ops Q' l (wd ds a) w
 | [],a,w,ha,h=>hQ a w ha h.2.2
 | i :: l,a,w,ha,h=>by
   rw[wpOps_cons] at h
   rw[wpOpsIn_cons]
   unfold wpOp at h
   unfold wpOpIn
   cases ho:ops[i]? with
   | none=>rw[ho] at h; exact sW hd hQ l a w ha h
   | some o =>
     rw[ho] at h
     simp only at h ⊢
     have hdo:Dw o=true:=List.all_eq_true.1 hd o (by
      have:ops.toList[i]?=some o:=by rw[Array.getElem?_toList]; exact ho
      exact List.mem_of_getElem? this)
     have hy:yielded ops (wd ds a).tmps=yielded ops a.tmps:=rfl
     rw[hy]
     split at h
     ·rename_i hw
      rw[if_pos hw]
      rcases h with h | h
      ·exact Yx hdo (fun a w=>sW hd hQ l a w) (fun a w=>oH l a w) ha h
      ·exact absurd h.2 Jq
     ·rename_i hw
      rw[if_neg hw]
      exact⟨fun _ _=>trivial,by rw[BH]; exact sW hd hQ l _ w (by rw[put_defers]; exact ha) h⟩
end
section
variable {P:Program} {nt:Nat} {ops:Array Oper} {M0:RM} {ρ0 ρ:Ren} {w0 w:World} {a:Act}
theorem Ny (hP:rG P) {T:Tree AV} {M:RM} {K:Tree AV→RM→Prop} {Q:Exit→Act→World→Prop} (hM:After P M0 ρ0 w0 M ρ w) (hA:bR ρ nt T a)
  (hQ:∀ T' M' ρ' a' w',After P M0 ρ0 w0 M' ρ' w'→bR ρ' nt T' a'→K T' M'→(∀ t,(∀ o∈ops.toList,o.dst≠some t)→T'.get t=T.get t)→Q .normal a' w') (h:DN P nt ops T M K) (t:Nat) :
  wpOps P ops Q (Region.schedule (P.follows .mixedOrders) ops t) a { w with drawn:=w.drawn + 1 } := by
 simp only[Region.schedule,hP.mixed,Bool.true_or,if_true]
 unfold DN at h
 split at h
 ·exact wpAny_sound ops.size t _ a _ (Ch hP hM hA hQ h)
 ·split at h
  ·exact h.elim
  ·rename_i x y p _
   split at h
   ·exact h.elim
   ·rename_i hc
    simp only[Bool.and_eq_true,Bool.not_eq_true'] at hc
    obtain⟨⟨c1,c2⟩,c3⟩:=hc
    have p1:=qz c1
    have p2:=qz c2
    have hxy:x≠y:=fun e=>by subst e; rw[Nat.beq_refl] at c3; cases c3
    have go:∀ (q:List Nat) (x y:Nat),Perm q ops.size→rQ P nt (gZ q x y ops) T M K→wpAny P .any (gZ q x y ops) Q ops.size (Array.replicate ops.size false) a { w with drawn:=w.drawn + 1 } := by
     intro q x y hq hd
     have:=Ch hP hM hA (Q:=Q) (fun T' M' ρ' a' w' k1 k2 k3 k4=>hQ T' M' ρ' a' w' k1 k2 k3 fun t ht=>k4 t fun o' ho'=>?_) hd
     ·rw[sG hq] at this; exact this
     ·obtain⟨k,hk⟩:=List.mem_iff_getElem?.1 ho'
      rw[Array.getElem?_toList] at hk
      obtain⟨i,o,hi,_,rfl⟩:=zV hq hk
      exact ht o (by rw[← Array.getElem?_toList] at hi; exact List.mem_of_getElem? hi)
    have hv:=Br ops ops.size t (Array.replicate ops.size false)
    have rel:∀ q:List Nat,Ih q ops.size (Array.replicate ops.size false) (Array.replicate ops.size false):=fun q=>⟨by simp,by simp,fun z=>by
     simp only[Array.getD_eq_getD_getElem?,Array.getElem?_replicate]
     split <;> split <;> rfl⟩
    rcases Ip hxy ops.size _ _ (by simp) hv with ho | ho
    ·exact qG p1 ops.size _ _ _ a _ hv ho (rel _) (go _ _ _ p1 h.1)
    ·exact qG p2 ops.size _ _ _ a _ hv ho (rel p) (go _ _ _ p2 h.2)
end
theorem aX.far {P:Program} {base:Base} {ρ:Ren} {A:AW} {w w' : World} (h:aX P base ρ A w) (hs:w.heap.size≤w'.heap.size) (hf:∀ b i,ρ b=some i→w'.heap[i.cb]?=w.heap[i.cb]?) (hl:∀ c,c<base.n→w'.heap[c]?=w.heap[c]?) : aX P base ρ A w' where
 dom b i hb:=⟨(h.dom b i hb).1,Nat.lt_of_lt_of_le (h.dom b i hb).2 hs⟩
 blk b i x hb hx:=by obtain⟨o,h1,h2⟩:=h.blk b i x hb hx; exact⟨o,by rw[hf b i hb]; exact h1,h2⟩
 sep:=h.sep
 top:=h.top
 lo:=h.lo
 inv:=base.low _ _ hl h.inv
theorem bn.far {P:Program} {ρ:Ren} {M:RM} {w w' : World} (h:bn P ρ M w) (hs:w.heap.size≤w'.heap.size) (hf:∀ b i,ρ b=some i→w'.heap[i.cb]?=w.heap[i.cb]?) (hl:∀ c,c<M.lo→w'.heap[c]?=w.heap[c]?) : bn P ρ M w':=by
 obtain⟨A,hA⟩:=h
 refine⟨A,hA.next,hA.rel.far hs hf hl,Nat.le_trans hA.size hs,fun b x hx=>?_,hA.old⟩
 rcases hA.blk b x hx with h1 | ⟨c,e,hlt,elem,fr,hh⟩
 ·exact .inl h1
 ·exact .inr ⟨c,e,hlt,elem,fr,by rw[hl b hlt]; exact hh⟩
theorem bn.Iz {P:Program} {ρ:Ren} {M:RM} {w:World} (h:bn P ρ M w) : M.lo≤w.heap.size:=by
 obtain⟨A,hA⟩:=h; exact hA.size
def vG (ρ:Ren) (c:Nat) : Prop:=∀ b i,ρ b=some i→i.cb≠c
theorem bn.mZ {P:Program} {ρ:Ren} {M:RM} {w:World} (h:bn P ρ M w) {c:Nat} (hc:w.heap.size≤c) : vG ρ c:=fun b i hb e=>by
 have:=(h.lt hb).2; omega
theorem bn.putObj {P:Program} {ρ:Ren} {M:RM} {w:World} (h:bn P ρ M w) {l:Nat} (o:Obj) (hn:vG ρ l) (hl:M.lo≤l) : bn P ρ M (w.putObj l o) :=
 h.far (by simp) (fun b i hb=>World.putObj_heap_other (hn b i hb)) (fun c hc=>World.putObj_heap_other (by omega))
theorem alloc_old {w:World} {o:Obj} {c:Nat} (hc:c<w.heap.size) : (w.alloc o).heap[c]?=w.heap[c]?:=by
 show(w.heap.push o)[c]?=w.heap[c]?
 rw[Array.getElem?_push,if_neg (by omega)]
theorem bn.alloc {P:Program} {ρ:Ren} {M:RM} {w:World} (h:bn P ρ M w) (o:Obj) : bn P ρ M (w.alloc o) :=
 h.far (by simp) (fun b i hb=>alloc_old (h.lt hb).2) (fun c hc=>alloc_old (by have:=h.Iz; omega))
theorem Step.alloc {lo n:Nat} {ρ ρ' : Ren} {w w' : World} (h:Step lo n ρ w ρ' w') (hlo:lo≤w.heap.size) (o:Obj) : Step lo n ρ w ρ' (w'.alloc o) where
 os:=h.os
 tape:=h.tape
 output:=h.output
 size:=by simp only[World.size_alloc]; have:=h.size; omega
 frame c hc hu:=by rw[alloc_old (by have:=h.size; omega)]; exact h.frame c hc hu
 ext:=h.ext
 fresh:=h.fresh
 low c hc:=by rw[alloc_old (by have:=h.size; omega)]; exact h.low c hc
theorem Step.putObj {lo n:Nat} {ρ ρ' : Ren} {w w' : World} (h:Step lo n ρ w ρ' w') {l:Nat} (hlo:lo≤w.heap.size) (hl:w.heap.size≤l) (o:Obj) : Step lo n ρ w ρ' (w'.putObj l o) where
 os:=h.os
 tape:=h.tape
 output:=h.output
 size:=by simp only[World.putObj_size]; exact h.size
 frame c hc hu:=by rw[World.putObj_heap_other (by omega)]; exact h.frame c hc hu
 ext:=h.ext
 fresh:=h.fresh
 low c hc:=by rw[World.putObj_heap_other (by omega)]; exact h.low c hc
theorem Step.turned {lo n:Nat} {ρ ρ' : Ren} {w w' : World} {l:Nat} {o o' : Obj} (hlo:lo≤l) (hw:w.heap[l]?=some o) (h:Step lo n ρ (w.putObj l o') ρ' w') : Step lo n ρ w ρ' (w'.putObj l o) where
 os:=h.os
 tape:=h.tape
 output:=h.output
 size:=by simp only[World.putObj_size]; have:=h.size; simpa using this
 frame c hc hu:=by
  have hl:=(Array.getElem?_eq_some_iff.1 hw).1
  have hs:=h.size
  simp only[World.putObj_size] at hs
  by_cases e:c=l
  ·subst e; rw[World.putObj_heap_same (by omega),hw]
  ·rw[World.putObj_heap_other e,h.frame c (by simpa using hc) hu,World.putObj_heap_other e]
 ext:=h.ext
 fresh b i hb:=by
  rcases h.fresh b i hb with k | k
  ·exact .inl k
  ·exact .inr (by simpa using k)
 low c hc:=by
  rw[World.putObj_heap_other (by omega),h.low c hc,World.putObj_heap_other (by omega)]
theorem Step.mZ {lo n:Nat} {ρ ρ' : Ren} {w w' : World} (h:Step lo n ρ w ρ' w') {c:Nat} (hn:vG ρ c) (hc:c<w.heap.size) : vG ρ' c:=fun b i hb e=>by
 rcases h.fresh b i hb with⟨b0,i0,h0,e0⟩ | k
 ·exact hn b0 i0 h0 (by rw[e0,e])
 ·omega
theorem Step.kept {lo n:Nat} {ρ ρ' : Ren} {w w' : World} (h:Step lo n ρ w ρ' w') {c:Nat} {o:Obj} (hn:vG ρ c) (hc:w.heap[c]?=some o) : w'.heap[c]?=some o:=by
 rw[h.frame c (Array.getElem?_eq_some_iff.1 hc).1 hn]; exact hc
def zB (D:Nat) : Deferred := { target:=.collected D,args := #[] }
structure vN (n0:Nat) (ρ:Ren) (w:World) (Ds:List Nat) : Prop where
 nodup:Ds.Nodup
 all:∀ D∈Ds,n0≤D∧w.heap[D]?=some (.deferred (some []))∧vG ρ D
theorem vN.step {lo n n0:Nat} {ρ ρ' : Ren} {w w' : World} {Ds:List Nat} (h:vN n0 ρ w Ds) (hs:Step lo n ρ w ρ' w') : vN n0 ρ' w' Ds :=
 ⟨h.nodup,fun D hD=>by
  obtain⟨h1,h2,h3⟩:=h.all D hD
  exact⟨h1,hs.kept h3 h2,hs.mZ h3 (Array.getElem?_eq_some_iff.1 h2).1⟩⟩
def Ot (P:Program) (gf:FuncId) : Prop :=
 ∀ (l:Nat) (J:Nat→World→Prop) (p2 p3:Addr) (a:Option Addr) (len cap n:Nat),0<n→n<2 ^ 40→len≤cap→len<2 ^ 48→(a=none→len=0)→(a=none→cap=0) →
   (∀ k W,J k W→W.cell? p2=some (.slice a len cap)∧W.cell? p3=some (.int .i64 n))→(∀ k W,J k W→J k W.drew) →
   (∀ k W,k * n<len→J k W→YieldAt Fence.wide 0 P l #[.slice (a.map fun a=>a.add (k * n)) (min n (len - k * n)) (min n (len - k * n))] W (fun e W'=>e=.returned (.bool true)∧J (k + 1) W')) →
   ∀ W,J 0 W→CallsIn Fence.wide 0 P gf #[.func (.yield l) #[] #[],.pointer (some p2),.pointer (some p3)] W (fun e W'=>(∃ v,e=.returned v)∧∃ k,len≤k * n∧J k W')
inductive Head:AV→Nat→Prop
 | nil:Head (.sc (.slice none 0 0)) 0
 | emp (b:Nat) : Head (.emp b) 0
 | ex (b o len c:Nat) : len≤c→Head (.slc b o len (.ex c)) len
 | op (b o len:Nat) : Head (.slc b o len (.op 1)) len
def De:AV→Nat→Nat→AV
 | .slc b o _ _,i,h=>.slc b (o + i) h (.ex h)
 | _,_,_=>.top
def pF (P:Program) (gf:FuncId) : Prop:=Ot P gf∧IV P gf
def BS (C:FuncId→Prop) (x:AV) (M:RM) (round:AV→RM→(RM→Prop)→Prop) (fin:RM→Prop) : Prop :=
 ∃ (gf:FuncId) (b2 o2 b3 o3:Nat) (s:AV) (len n:Nat) (I:Nat→RM→Prop),x=.fn (.func gf) [] [.ptr b2 o2,.ptr b3 o3]∧C gf∧0<n∧n<2 ^ 40∧len<2 ^ 48∧Head s len∧I 0 M ∧
   (∀ k M',I k M'→M'.loads b2 o2 1=some [s]∧M'.loads b3 o3 1=some [N .i64 n]) ∧
   (∀ k M',k * n<len→I k M'→round (De s (k * n) (min n (len - k * n))) M' (fun M''=>I (k + 1) M'')) ∧
   (∀ k M',len≤k * n→I k M'→fin M')
def nQ (P:Program) (nt ret:Nat) : Nat→Bool→Code→List (Nat × Nat)→Nat→Tree AV→RM→K3→Prop
 | 0,_,_,_,_,_,_,_=>False
 | f + 1,rg,c,env,L,T,M,K=>match c with
   | .skip=>K .normal T M
   | .region _ ops d=>match ops.toList.all Dw with
     | true=>match d with
       | false=>Fp P nt ops ops.toList T M (fun T' M'=>K .normal T' M')
       | true=>DN P nt ops T M (fun T' M'=>K .normal T' M')
     | false=>False
   | .seq a b=>match Nat.ble (qO f a) 1 with
     | true=>nQ P nt ret f rg a env (dZ ret f env b L) T M (fun e T' M'=>match e with
       | .normal=>nQ P nt ret f rg b env L T' M' K
       | e=>K e T' M')
     | false=>fC (fun J=>nQ P nt ret f rg a env (dZ ret f env b L) T M (fun e T' M'=>match e with
       | .normal=>J (tQ T' (bitsOf (bY f a &&& dZ ret f env b L) nt)) M'
       | e=>K e T' M'))
       (fun xs M'=>nQ P nt ret f rg b env L (vF T (bitsOf (bY f a) nt) (bitsOf (bY f a &&& dZ ret f env b L) nt) xs) M' K)
   | .cond c a b=>aA (iK T c) (nQ P nt ret f rg a env L T M K) (nQ P nt ret f rg b env L T M K)
   | .block id c=>nQ P nt ret f rg c ((id,L) :: env) L T M (fun e T' M'=>match e with
     | .exit i=>match Nat.beq i id with
       | true=>K .normal T' M'
       | false=>K (.exit i) T' M'
     | e=>K e T' M')
   | .exit id=>K (.exit id) T M
   | .ret=>K .ret T M
   | .label _=>K .normal T M
   | .rangeFunc g ps assign body=>match rg with
     | false=>False
     | true=>match ps.toList with
       | [p]=>match Nat.ble (p + 1) nt with
         | false=>False
         | true=>BS (pF P) (iK T g) M (fun v M' next=>nQ P nt ret f false assign [] (dZ ret f [] body 0) (T.set p v) M' (fun e T2 M2=>match e with
           | .normal=>nQ P nt ret f false body [] 0 T2 M2 (fun e T3 M3=>match e with
             | .normal=>next M3
             | _=>False)
           | _=>False)) (fun M'=>K .normal T M')
       | _=>False
   | _=>False
section
variable {P:Program} {nt ret:Nat}
def pg (P:Program) (nt n0:Nat) (rg:Bool) (Ds:List Nat) (M:RM) (ρ:Ren) (w:World) (T:Tree AV) (asg:Nat) (K:K3) (e:Exit) (a' : Act) (w' : World) : Prop :=
 ∃ x T' M' ρ' a0 Ds',e=vR x∧a'=wd (Ds'.map zB) a0∧(rg=false→Ds'=Ds)∧vN n0 ρ' w' Ds'∧After P M ρ w M' ρ' w'∧bR ρ' nt T' a0∧(∀ t,Nat.testBit asg t=false→T'.get t=T.get t)∧K x T' M'
theorem pg.trans {n0:Nat} {rg:Bool} {Ds Ds1:List Nat} {M M1:RM} {ρ ρ1:Ren} {w w1:World} {T T1:Tree AV} {asg XB:Nat} {K:K3} (h:After P M ρ w M1 ρ1 w1) (hds:rg=false→Ds1=Ds) (hk:∀ t,Nat.testBit asg t=false→Nat.testBit XB t=false∧T1.get t=T.get t) {e:Exit} {a' : Act} {w' : World}
  (q:pg P nt n0 rg Ds1 M1 ρ1 w1 T1 XB K e a' w') : pg P nt n0 rg Ds M ρ w T asg K e a' w':=by
 obtain⟨x,T',M',ρ',a0,Ds',h1,h2,hx,h3,h4,h5,h6,h7⟩:=q
 exact⟨x,T',M',ρ',a0,Ds',h1,h2,fun hr=>(hx hr).trans (hds hr),h3,h.trans h4,h5,fun t ht=>by obtain⟨k1,k2⟩:=hk t ht; rw[h6 t k1,k2],h7⟩
theorem Rj (ρ ρ' : Ren) (x:AV) (hx:af ρ x undef) : af ρ' x undef:=by
 unfold undef at hx ⊢
 cases hx with
 | top=>exact .top _
 | sc v p=>exact .sc _ p
 | tup xs vs a=>cases a; exact .tup _ _ .nil
theorem JB {ρ:Ren} {b o len:Nat} {v:Value} (hv:af ρ (.slc b o len (.op 1)) v) : ∃ i,ρ b=some i∧o + len≤i.dC∧v=.slice (some ⟨i.cb,i.sh + o,none⟩) len (i.dC - o):=by
 generalize hq:AV.slc b o len (.op 1)=q at hv
 cases hv <;> first | (cases hq; done) | skip
 rename_i b' k l i e hk
 injection hq with h1 h2 h3 h4
 injection h4 with h4
 subst h1; subst h3
 rw[← h4,Nat.mul_one] at h2
 subst h2
 exact⟨i,e,hk,by rw[← h4,Nat.mul_one]⟩
theorem SN {s:AV} {len:Nat} (h:Head s len) {ρ:Ren} {v:Value} (hv:af ρ s v) :
  ∃ (a:Option Addr) (cap:Nat),v=.slice a len cap∧len≤cap∧(a=none→len=0)∧(a=none→cap=0)∧(0<len→∀ ρ' u,ρ.le ρ'→af ρ' s u→u=v) ∧
    (0<len→∀ i h,af ρ (De s i h) (.slice (a.map fun a=>a.add i) h h)):=by
 cases h with
 | nil =>
   obtain⟨rfl,_⟩:=aF hv
   exact⟨none,0,rfl,Nat.le_refl _,fun _=>rfl,fun _=>rfl,fun h=>absurd h (Nat.lt_irrefl _),fun h=>absurd h (Nat.lt_irrefl _)⟩
 | emp b =>
   cases hv with
   | emp _ a c=>exact⟨some a,c,rfl,Nat.zero_le _,fun _=>rfl,fun e=>(by cases e),fun h=>absurd h (Nat.lt_irrefl _),fun h=>absurd h (Nat.lt_irrefl _)⟩
 | ex b o len c hc =>
   cases hv with
   | eH _ _ _ _ i e =>
     refine⟨some ⟨i.cb,i.sh + o,none⟩,c,rfl,hc,fun e=>(by cases e),fun e=>(by cases e),fun _ ρ' u hle hu=>?_,fun _ k h=>?_⟩
     ·cases hu with
      | eH _ _ _ _ i' e'=>rw[hle _ _ e] at e'; cases e'; rfl
     ·simp only[De,Option.map_some,cZ]
      have:=af.eH (ρ:=ρ) b (o + k) h h i e
      rw[← Nat.add_assoc] at this; exact this
 | op b o len =>
   obtain⟨i,e,hk,rfl⟩:=JB hv
   refine⟨some ⟨i.cb,i.sh + o,none⟩,i.dC - o,rfl,by omega,fun e=>(by cases e),fun e=>(by cases e),fun _ ρ' u hle hu=>?_,fun _ m h=>?_⟩
   ·obtain⟨i2,e2,_,rfl⟩:=JB hu
    rw[hle _ _ e] at e2; cases e2
    rfl
   ·simp only[De,Option.map_some,cZ]
    have:=af.eH (ρ:=ρ) b (o + m) h h i e
    rw[← Nat.add_assoc] at this; exact this
theorem Fe {ρ:Ren} {M:RM} {w:World} (hw:bn P ρ M w) {b o:Nat} {i:eu} {x:AV} (hb:ρ b=some i) (h:M.loads b o 1=some [x]) : ∃ v,af ρ x v∧w.cell? ⟨i.cb,i.sh + o,none⟩=some v:=by
 obtain⟨vs,h1,h2,h3⟩:=RM.fu hw hb h
 cases h1 with
 | cons _ v _ _ hv ht =>
   have:=h3 0 v rfl
   rw[cZ] at this
   exact⟨v,hv,this⟩
theorem Ng {n0 n:Nat} {g:Operand} {p:Tmp} {assign body:Code} {T:Tree AV} {M:RM} {K:K3} {round:AV→RM→(RM→Prop)→Prop} {ρ:Ren} {a:Act} {w:World} {Ds:List Nat}
  (h:BS (pF P) (iK T g) M round (fun M'=>K .normal T M')) (hw:bn P ρ M w) (hA:bR ρ nt T a) (hD:vN n0 ρ w Ds) (hn0:n0≤w.heap.size) (hP:rG P)
  (hr:∀ (l:Nat) (v:AV) (u:Value) (M1:RM) (ρ1:Ren) (W1:World) (next:RM→Prop),round v M1 next→bn P ρ1 M1 W1→af ρ1 v u→ρ.le ρ1→assign.wpIn (Gc (some l)) 0 P (Exit.then (fun a2 W2=>∃ (T2:Tree AV) (M2:RM) (ρ2:Ren),After P M1 ρ1 W1 M2 ρ2 W2 ∧
      ∀ W2',bn P ρ2 M2 W2'→body.wpIn (Gc (some l)) 0 P (fun e a3 W3=>e=.normal∧∃ M3 ρ3,After P M2 ρ2 W2' M3 ρ3 W3∧next M3) a2 W2') (fun _ _ _=>False))
      { tmps:=a.tmps.setIfInBounds p u,defers:=[] } W1) :
  (Code.rangeFunc g #[p] assign body).wpIn (Gc none) n P (pg P nt n0 true Ds M ρ w T 0 K) (wd (Ds.map zB) a) w:=by
 obtain⟨gf,b2,o2,b3,o3,s,len,m,I,hx,⟨hC,hB⟩,hm0,hm1,hlen,hh,h0,hI,hR,hF⟩:=h
 have hg:=nN hA g
 rw[hx] at hg
 generalize hgv:a.eval g=gv at hg
 obtain⟨i2,i3,e2,e3,rfl⟩ : ∃ i2 i3,ρ b2=some i2∧ρ b3=some i3∧gv=.func (.func gf) #[] #[.pointer (some ⟨i2.cb,i2.sh + o2,none⟩),.pointer (some ⟨i3.cb,i3.sh + o3,none⟩)]:=by
  cases hg with
  | fn f xs ys us vs hpl hxs hys =>
    cases hxs
    cases hys with
    | cons x1 v1 xs1 vs1 hp2 ht =>
      cases ht with
      | cons x2 v2 xs2 vs2 hp3 ht2 =>
        cases ht2
        cases hp2 with
        | ptr _ _ i2 e2 =>
          cases hp3 with
          | ptr _ _ i3 e3=>exact⟨i2,i3,e2,e3,rfl⟩
 have eg:∀ args w,(callFunc gf args).run P w=.ok (.enter gf args) w:=fun args w=>by
  obtain⟨fn,c,h1,h2⟩:=hB
  exact EW h1 (hP.ng _ _ h1) h2 w
 refine wpIn_rangeFunc fun fn _=>?_
 obtain⟨rec,hrec⟩ : ∃ rec:LoopState→Option Code→Loop,rec=fun st pe => { state:=st,pending:=pe,fn,tmps:=a.tmps,params := #[p],assign,body,defers:=w.heap.size } := ⟨_,rfl⟩
 obtain⟨W1,hW1⟩ : ∃ W1,(w.alloc (.deferred (some []))).alloc (.loop (rec .ready none))=W1:=⟨_,rfl⟩
 have hsz:W1.heap.size=w.heap.size + 2:=by rw[← hW1]; simp
 have hL1:W1.heap[w.heap.size + 1]?=some (.loop (rec .ready none)):=by
  rw[← hW1]; have:=World.alloc_heap_new (w.alloc (.deferred (some []))) (.loop (rec .ready none)); rwa [World.size_alloc] at this
 have hK1:W1.heap[w.heap.size]?=some (.deferred (some [])):=by
  rw[← hW1,alloc_old (by simp)]; exact World.alloc_heap_new w _
 have hw1:bn P ρ M W1:=by rw[← hW1]; exact(hw.alloc _).alloc _
 have hlo:=hw.Iz
 have hS1:Step M.lo M.next ρ w ρ W1:=by rw[← hW1]; exact((Step.refl _ _ _).alloc hlo _).alloc hlo _
 have hnl:vG ρ (w.heap.size + 1):=hw.mZ (by omega)
 have hnd:vG ρ w.heap.size:=hw.mZ (by omega)
 obtain⟨v0,hv0,hc0⟩:=Fe hw1 e2 (hI 0 M h0).1
 obtain⟨ad,cap,rfl,hcap,hz1,hz2,hsame,vM⟩:=SN hh hv0
 refine⟨w.heap.size + 1,[{ target:=.collected w.heap.size,args := #[] }],W1,{ target:=.fn (.func gf) #[.pointer (some ⟨i2.cb,i2.sh + o2,none⟩),.pointer (some ⟨i3.cb,i3.sh + o3,none⟩)],args := #[.func (.yield (w.heap.size + 1)) #[] #[]] },W1,gf,
  #[.func (.yield (w.heap.size + 1)) #[] #[],.pointer (some ⟨i2.cb,i2.sh + o2,none⟩),.pointer (some ⟨i3.cb,i3.sh + o3,none⟩)],W1, ?_, ?_,fun _ _=>trivial, ?_,fun h=>(by cases h), ?_⟩
 ·rw[← hW1,hrec]; exact run_enterLoop_outer _ _ _ _ _
 ·have:(wd (Ds.map zB) a).eval g=.func (.func gf) #[] #[.pointer (some ⟨i2.cb,i2.sh + o2,none⟩),.pointer (some ⟨i3.cb,i3.sh + o3,none⟩)]:=by rw[Hw]; exact hgv
  simp only[resolve,this]
  simp[go_sem]
 ·simp[invoke,go_sem,eg]
 ·refine L8 (callsIn_wide.1 ((hC (w.heap.size + 1) (fun k W=>(∃ M' ρ',After P M ρ W1 M' ρ' W∧I k M')∧W.cell? ⟨i2.cb,i2.sh + o2,none⟩=some (.slice ad len cap)) _ ⟨i3.cb,i3.sh + o3,none⟩ ad len cap m hm0 hm1 hcap hlen hz1 hz2 ?_ ?_ ?_ W1 ⟨⟨M,ρ,After.refl hw1,h0⟩,hc0⟩).mono ?_))
  ·rintro k W ⟨⟨M',ρ',k1,k2⟩,k3⟩
   refine⟨k3, ?_⟩
   obtain⟨v,hv,hc⟩:=Fe k1.rel (k1.le hw1 _ _ e3) (hI k M' k2).2
   obtain⟨rfl,_⟩:=aF hv
   exact hc
  ·rintro k W ⟨⟨M',ρ',k1,k2⟩,k3⟩
   exact⟨⟨M',ρ',⟨k1.step.trans (Step.drew (n:=M.next)) (Nat.le_refl _),k1.rel.drew,k1.base,k1.next⟩,k2⟩,k3⟩
  ·rintro k W hk ⟨⟨M',ρ',k1,k2⟩,k3⟩
   have hl1:=k1.step.kept hnl hL1
   have hn1:=k1.step.mZ hnl (by omega)
   refine⟨fn,a.tmps.setIfInBounds p (.slice (ad.map fun a=>a.add (k * m)) (min m (len - k * m)) (min m (len - k * m))),assign,body, ?_,roundIn_of_wpIn (n:=0) trivial ?_⟩
   ·generalize Value.slice (ad.map fun a=>a.add (k * m)) (min m (len - k * m)) (min m (len - k * m))=uu
    have:=run_yield (P:=P) (args := #[uu]) hl1 (by rw[hrec]; rfl)
    rw[hrec] at this
    simpa using this
   ·have hu:=(vM (by omega) (k * m) (min m (len - k * m))).mono (k1.le hw1)
    refine wpIn_mono (hr (w.heap.size + 1) _ _ M' ρ' W _ (hR k M' hk k2) k1.rel hu (k1.le hw1)) fun e a2 W2 hp=>?_
    cases e with
    | normal =>
      obtain⟨T2,M2,ρ2,q1,q2⟩:=hp
      have hl2:=q1.step.kept hn1 hl1
      have hn2:=q1.step.mZ hn1 (Array.getElem?_eq_some_iff.1 hl1).1
      have hlo2:M2.lo≤w.heap.size:=by rw[q1.lo,k1.lo]; exact hlo
      refine⟨_,run_beginRound hl2 (by rw[hrec]), ?_⟩
      have hm2:bn P ρ2 M2 (W2.putObj (w.heap.size + 1) (.loop { rec .ready none with state:=.busy })):=q1.rel.putObj _ hn2 (by omega)
      refine wpIn_mono (q2 _ hm2) fun e a3 W3 hp=>?_
      obtain⟨rfl,M3,ρ3,r1,r2⟩:=hp
      have hs2:=(Array.getElem?_eq_some_iff.1 hl2).1
      have hl3:=r1.step.kept (o:=.loop { rec .ready none with state:=.busy }) hn2 (World.putObj_heap_same hs2)
      have hn3:=r1.step.mZ hn2 (by simp only[World.putObj_size]; exact hs2)
      have hend:=run_endRound (P:=P) none hl3
      rw[hrec] at hend
      refine⟨_,_,hend,rfl, ?_⟩
      have hst:Step M2.lo M2.next ρ2 W2 ρ3 (W3.putObj (w.heap.size + 1) (.loop (rec .ready none))):=Step.turned (by omega) hl2 r1.step
      have hlo3:M3.lo≤w.heap.size:=by rw[r1.lo]; exact hlo2
      have hA3:After P M2 ρ2 W2 M3 ρ3 (W3.putObj (w.heap.size + 1) (.loop (rec .ready none))):=⟨hst,r1.rel.putObj _ hn3 (by omega),r1.base,r1.next⟩
      have hA4:=(k1.trans q1).trans hA3
      have e0:(W3.putObj (w.heap.size + 1) (.loop (rec .ready none)))=W3.putObj (w.heap.size + 1) (.loop { state:=if (none:Option Code).isNone then .ready else .done,pending:=none,fn,tmps:=a.tmps,params := #[p],assign,body,defers:=w.heap.size }):=by rw[hrec]; rfl
      rw[hrec] at e0
      rw[← hrec] at e0
      rw[hrec] at hA4
      refine⟨⟨M3,ρ3,hA4,r2⟩, ?_⟩
      obtain⟨v,hv,hc⟩:=Fe hA4.rel (hA4.le hw1 _ _ e2) (hI (k + 1) M3 r2).1
      have:=hsame (by omega) ρ3 v (hA4.le hw1) hv
      subst this
      exact hc
    | exit id=>exact hp.elim
    | goto t=>exact hp.elim
    | ret=>exact hp.elim
    | panic c=>exact hp.elim
    | outgrown=>exact hp.elim
  ·rintro e W ⟨⟨v,rfl⟩,k,hk,⟨M',ρ',k1,k2⟩,k3⟩
   have hl1:=k1.step.kept hnl hL1
   have hn1:=k1.step.mZ hnl (by omega)
   have hd1:=k1.step.kept hnd hK1
   have ZA:=k1.step.mZ hnd (by omega)
   refine⟨none,_,by have:=run_endLoop (P:=P) hl1 (by rw[hrec]; simp); rw[hrec] at this; exact this, ?_⟩
   have hA5:After P M ρ w M' ρ' W:=⟨(hS1.trans k1.step (Nat.le_refl _)),k1.rel,k1.base,k1.next⟩
   refine⟨.normal,T,M',ρ',a,w.heap.size :: Ds,rfl,rfl,fun h=>(by cases h),⟨?_, ?_⟩,⟨hA5.step.putObj hlo (by omega) _,k1.rel.putObj _ hn1 (by rw[k1.lo]; omega),k1.base,k1.next⟩,hA.mono (k1.le hw1),fun _ _=>rfl,hF k M' hk k2⟩
   ·refine List.nodup_cons.2 ⟨fun hin=>?_,hD.nodup⟩
    have:=(Array.getElem?_eq_some_iff.1 (hD.all _ hin).2.1).1
    omega
   ·intro D hin
    rcases List.mem_cons.1 hin with rfl | hin
    ·exact⟨hn0,by rw[World.putObj_heap_other (by omega)]; exact hd1,ZA⟩
    ·obtain⟨g1,g2,g3⟩:=hD.all D hin
     have hDs:=(Array.getElem?_eq_some_iff.1 g2).1
     exact⟨g1,by rw[World.putObj_heap_other (by omega)]; exact hA5.step.kept g3 g2,hA5.step.mZ g3 hDs⟩
theorem RZ {ops:Array Oper} {t:Nat} (h:Nat.testBit (BN ops.toList) t=false) : ∀ o∈ops.toList,o.dst≠some t:=su _ h
theorem Q7 (hP:rG P) : ∀ (f:Nat) (rg:Bool) (c:Code) (env:List (Nat × Nat)) (L:Nat) (T:Tree AV) (M:RM) (K:K3),nQ P nt ret f rg c env L T M K →
  ∀ (n0:Nat) (r:Option Nat) (n:Nat) (Ds:List Nat) (ρ:Ren) (a:Act) (w:World),(rg=true→r=none)→n0≤w.heap.size→bn P ρ M w→bR ρ nt T a→vN n0 ρ w Ds→c.wpIn (Gc r) n P (pg P nt n0 rg Ds M ρ w T (bY f c) K) (wd (Ds.map zB) a) w:=by
 intro f
 induction f with
 | zero=>intro rg c env L T M K h; exact h.elim
 | succ f ih =>
   intro rg c env L T M K h n0 r n Ds ρ a w hr hn0 hM hA hD
   have fin:∀ (x:Ex) (asg:Nat),K x T M→pg P nt n0 rg Ds M ρ w T asg K (vR x) (wd (Ds.map zB) a) w:=fun x asg h=>⟨x,T,M,ρ,a,Ds,rfl,rfl,fun _=>rfl,hD,After.refl hM,hA,fun _ _=>rfl,h⟩
   cases c with
   | skip=>exact wpIn_skip (fin .normal _ h)
   | region id ops d =>
     simp only[nQ] at h
     split at h
     ·rename_i hnd
      have hQ:∀ a' w',a'.defers=[]→(∃ T' M' ρ',After P M ρ w M' ρ' w'∧bR ρ' nt T' a'∧K .normal T' M'∧(∀ t,(∀ o∈ops.toList,o.dst≠some t)→T'.get t=T.get t)) →
        pg P nt n0 rg Ds M ρ w T (bY (f + 1) (.region id ops d)) K .normal (wd (Ds.map zB) a') w':=by
       rintro a' w' - ⟨T',M',ρ',k1,k2,k3,k4⟩
       exact⟨.normal,T',M',ρ',a',Ds,rfl,rfl,fun _=>rfl,hD.step k1.step,k1,k2,fun t ht=>k4 t (RZ ht),k3⟩
      split at h
      ·refine wpIn_region ?_
       have:=si (nt:=nt) hP (ops:=ops) (Q:=Qn fun a' w'=>∃ T' M' ρ',After P M ρ w M' ρ' w'∧bR ρ' nt T' a'∧K .normal T' M'∧(∀ t,(∀ o∈ops.toList,o.dst≠some t)→T'.get t=T.get t)) (K:=fun T' M'=>K .normal T' M') (M0:=M) (ρ0:=ρ) (w0:=w) (T0:=T)
        (fun T' M' ρ' a' w' k1 k2 k3 k4=>⟨rfl,k2.defers,T',M',ρ',k1,k2,k3,k4⟩) ops.toList 0 (by simp) hA (After.refl hM) (fun _ _=>rfl) h
       rw[Array.length_toList,← List.range_eq_range'] at this
       exact sW hnd hQ _ _ _ hA.defers this
      ·refine wpIn_region_draw fun t=>?_
       exact sW hnd hQ _ _ _ hA.defers (Ny (nt:=nt) (T:=T) (Q:=Qn fun a' w'=>∃ T' M' ρ',After P M ρ w M' ρ' w'∧bR ρ' nt T' a'∧K .normal T' M'∧(∀ t,(∀ o∈ops.toList,o.dst≠some t)→T'.get t=T.get t)) hP (After.refl hM) hA
        (fun T' M' ρ' a' w' k1 k2 k3 k4=>⟨rfl,k2.defers,T',M',ρ',k1,k2,k3,k4⟩) h t)
     ·exact h.elim
   | seq c1 c2 =>
     simp only[nQ] at h
     refine wpIn_seq ?_
     split at h
     ·refine wpIn_mono (ih _ c1 _ _ _ _ _ h n0 r n Ds ρ a w hr hn0 hM hA hD) fun e a' w' hp=>?_
      obtain⟨x,T1,M1,ρ1,a1,Ds1,rfl,rfl,hds,g,k1,k2,k3,k4⟩:=hp
      have bits:∀ t,Nat.testBit (bY (f + 1) (.seq c1 c2)) t=false→Nat.testBit (bY f c1) t=false∧Nat.testBit (bY f c2) t=false:=fun t ht=>by
       simpa only[bY,Nat.testBit_or,Bool.or_eq_false_iff] using ht
      cases x with
      | normal =>
        refine wpIn_mono (ih _ c2 _ _ _ _ _ k4 n0 r n Ds1 ρ1 a1 w' hr (Nat.le_trans hn0 k1.step.size) k1.rel k2 g) fun e a2 w2 hp=>?_
        exact pg.trans k1 hds (fun t ht=>⟨(bits t ht).2,k3 t (bits t ht).1⟩) hp
      | exit i=>exact⟨.exit i,T1,M1,ρ1,a1,Ds1,rfl,rfl,hds,g,k1,k2,fun t ht=>k3 t (bits t ht).1,k4⟩
      | ret=>exact⟨.ret,T1,M1,ρ1,a1,Ds1,rfl,rfl,hds,g,k1,k2,fun t ht=>k3 t (bits t ht).1,k4⟩
     ·unfold fC at h
      refine wpIn_mono (ih _ c1 _ _ _ _ _ h n0 r n Ds ρ a w hr hn0 hM hA hD) fun e a' w' hp=>?_
      obtain⟨x,T1,M1,ρ1,a1,Ds1,rfl,rfl,hds,g,k1,k2,k3,k4⟩:=hp
      have bits:∀ t,Nat.testBit (bY (f + 1) (.seq c1 c2)) t=false→Nat.testBit (bY f c1) t=false∧Nat.testBit (bY f c2) t=false:=fun t ht=>by
       simpa only[bY,Nat.testBit_or,Bool.or_eq_false_iff] using ht
      have hge:∀ t,nt≤t→af ρ1 ((T.get t).getD .top) undef:=fun t ht=>Rj _ _ _ (hA.ge t ht)
      cases x with
      | normal =>
        refine wpIn_mono (ih _ c2 _ _ _ _ _ k4 n0 r n Ds1 ρ1 a1 w' hr (Nat.le_trans hn0 k1.step.size) k1.rel (vP k2 hge k3) g) fun e a2 w2 hp=>?_
        refine pg.trans k1 hds (fun t ht=>⟨(bits t ht).2,zH (fun t' ht'=>?_) t (bits t ht).1⟩) hp
        have:=(oL.1 ht').2
        rw[Nat.testBit_and,Bool.and_eq_true] at this
        exact this.1
      | exit i=>exact⟨.exit i,T1,M1,ρ1,a1,Ds1,rfl,rfl,hds,g,k1,k2,fun t ht=>k3 t (bits t ht).1,k4⟩
      | ret=>exact⟨.ret,T1,M1,ρ1,a1,Ds1,rfl,rfl,hds,g,k1,k2,fun t ht=>k3 t (bits t ht).1,k4⟩
   | cond cnd c1 c2 =>
     simp only[nQ] at h
     have bits:∀ t,Nat.testBit (bY (f + 1) (.cond cnd c1 c2)) t=false→Nat.testBit (bY f c1) t=false∧Nat.testBit (bY f c2) t=false:=fun t ht=>by
      simpa only[bY,Nat.testBit_or,Bool.or_eq_false_iff] using ht
     obtain⟨b,hb,h1,h2⟩:=Jk h (nN hA cnd)
     rw[← Hw (Ds.map zB)] at hb
     cases b with
     | true =>
       refine wpIn_cond_true hb (wpIn_mono (ih _ c1 _ _ _ _ _ (h1 rfl) n0 r n Ds ρ a w hr hn0 hM hA hD) fun e a' w' hp=>?_)
       exact pg.trans (After.refl hM) (fun _=>rfl) (fun t ht=>⟨(bits t ht).1,rfl⟩) hp
     | false =>
       refine wpIn_cond_false hb (wpIn_mono (ih _ c2 _ _ _ _ _ (h2 rfl) n0 r n Ds ρ a w hr hn0 hM hA hD) fun e a' w' hp=>?_)
       exact pg.trans (After.refl hM) (fun _=>rfl) (fun t ht=>⟨(bits t ht).2,rfl⟩) hp
   | block id c1 =>
     simp only[nQ] at h
     refine wpIn_block (wpIn_mono (ih _ c1 _ _ _ _ _ h n0 r n Ds ρ a w hr hn0 hM hA hD) fun e a' w' hp=>?_)
     obtain⟨x,T1,M1,ρ1,a1,Ds1,rfl,rfl,hds,g,k1,k2,k3,k4⟩:=hp
     cases x with
     | normal=>exact⟨.normal,T1,M1,ρ1,a1,Ds1,rfl,rfl,hds,g,k1,k2,k3,k4⟩
     | ret=>exact⟨.ret,T1,M1,ρ1,a1,Ds1,rfl,rfl,hds,g,k1,k2,k3,k4⟩
     | exit i =>
       simp only at k4
       split at k4
       ·rename_i he
        have he:=aW he
        subst he
        simp only[vR,Exit.inBlock,if_true]
        exact⟨.normal,T1,M1,ρ1,a1,Ds1,rfl,rfl,hds,g,k1,k2,k3,k4⟩
       ·rename_i he
        have he:=rP he
        simp only[vR,Exit.inBlock,if_neg he]
        exact⟨.exit i,T1,M1,ρ1,a1,Ds1,rfl,rfl,hds,g,k1,k2,k3,k4⟩
   | loop c1=>simp[nQ] at h
   | exit id=>exact wpIn_exit (fin (.exit id) _ h)
   | ret=>exact wpIn_ret (fin .ret _ h)
   | rangeFunc g ps assign body =>
     simp only[nQ] at h
     split at h
     ·exact h.elim
     ·have hr:=hr rfl
      subst hr
      split at h
      ·rename_i p hp
       have hps:ps = #[p]:=Array.ext' hp
       subst hps
       split at h
       ·exact h.elim
       ·rename_i hb
        refine Ng h hM hA hD hn0 hP ?_
        intro l v u M1 ρ1 W1 next WQ hM1 hu hle
        have hA1:bR ρ1 nt (T.set p v) { tmps:=a.tmps.setIfInBounds p u,defers:=[] } := by
         have:=xP (hA.mono hle) (d:=some p) (T':=T.set p v) hu (by simp only[Fj,hb])
         have e:a.put (some p) u = { tmps:=a.tmps.setIfInBounds p u,defers:=[] } := by rw[← hA.defers]; rfl
         rw[e] at this; exact this
        have hD1:vN 0 ρ1 W1 []:=⟨List.nodup_nil,fun _ h=>by cases h⟩
        have:=ih false assign [] _ _ _ _ WQ 0 (some l) 0 [] ρ1 _ W1 (fun h=>by cases h) (Nat.zero_le _) hM1 hA1 hD1
        refine wpIn_mono this fun e a' w' hp=>?_
        obtain⟨x,T2,M2,ρ2,a2,Ds2,rfl,rfl,hds,g,k1,k2,k3,k4⟩:=hp
        cases hds rfl
        cases x with
        | normal =>
          refine⟨T2,M2,ρ2,k1,fun W2' hM2=>?_⟩
          refine wpIn_mono (ih false body [] _ _ _ _ k4 0 (some l) 0 [] ρ2 _ W2' (fun h=>by cases h) (Nat.zero_le _) hM2 k2 ⟨List.nodup_nil,fun _ h=>by cases h⟩) fun e a3 w3 hp=>?_
          obtain⟨x,T3,M3,ρ3,a3,Ds3,rfl,rfl,_,_,q1,_,_,q4⟩:=hp
          cases x with
          | normal=>exact⟨rfl,M3,ρ3,q1,q4⟩
          | exit i=>exact q4.elim
          | ret=>exact q4.elim
        | exit i=>exact k4.elim
        | ret=>exact k4.elim
      ·exact h.elim
   | scope c1=>simp[nQ] at h
   | label l=>exact wpIn_label (fin .normal _ h)
   | goto=>simp[nQ] at h
   | refuse=>simp[nQ] at h
theorem Co {n:Nat} {fn:Func} {tmps:Array Value} {R:Ending→World→Prop} {M0 M:RM} {ρ0 ρ:Ren} {w0:World} (hlo:M0.lo≤w0.heap.size) (hres:∀ w',After P M0 ρ0 w0 M ρ w'→LeavesIn Fence.wide n P fn tmps R [] .returning w') :
  ∀ (Ds:List Nat) (w:World),vN w0.heap.size ρ w Ds→After P M0 ρ0 w0 M ρ w→LeavesInM Fence.wide n P fn tmps R (Ds.map zB) .returning w
 | [],w,_,hA=>hres w hA
 | D :: Ds,w,hD,hA=>by
   obtain⟨h1,h2,h3⟩:=hD.all D (List.mem_cons_self ..)
   refine⟨by simp,.inl ⟨D,_,rfl,run_takeDeferred h2,Co hlo hres Ds _ ⟨(List.nodup_cons.1 hD.nodup).2,fun D' hD'=>?_⟩ ⟨hA.step.putObj hlo h1 _,hA.rel.putObj _ h3 (by rw[hA.lo]; omega),hA.base,hA.next⟩⟩⟩
   obtain⟨g1,g2,g3⟩:=hD.all D' (List.mem_cons_of_mem _ hD')
   refine⟨g1, ?_,g3⟩
   have hne:D'≠D:=fun e=>(List.nodup_cons.1 hD.nodup).1 (by rw[e] at hD'; exact hD')
   rw[World.putObj_heap_other hne]
   exact g2
def NW (P:Program) (fn:Func) (c:Code) (args:List AV) (M:RM) (Q:aj) : Prop :=
 nQ P (args.length + (fn.ntmps - args.length)) (Dc fn.results.toList) 1000 true c [] 0 (Tree.ofList args 0 .leaf) M
  (fun e T M'=>match e with
   | .exit _=>False
   | _=>O0 P T M' fn.results.toList (O3 Q M'))
theorem F8 (hP:rG P) {f:FuncId} {fn:Func} {c:Code} {args:List AV} {M:RM} {Q:aj} (hfn:P.funcs[f]?=some fn) (hbody:fn.body=some c) (h:NW P fn c args M Q) : gy P f args M Q:=by
 refine⟨⟨fn,c,hfn,hbody⟩,fun ρ w us hargs hw=>?_⟩
 have hlen:=hargs.length
 have hA:bR ρ (args.length + (fn.ntmps - args.length)) (Tree.ofList args 0 .leaf) { tmps:=⟨us⟩++Array.replicate (fn.ntmps - (⟨us⟩ : Array Value).size) undef,defers:=[] } := by
  refine⟨by simp[hlen],fun t=>?_,rfl⟩
  rw[Tree.gY]
  by_cases ht:t<args.length
  ·rw[if_pos (by omega),Nat.sub_zero]
   obtain⟨u,hu,hv⟩:=hargs.get (n:=t) (x:=args[t]) (by simp[ht])
   rw[List.getElem?_eq_getElem ht]
   simp only[Option.getD_some]
   have:((⟨us⟩ : Array Value)++Array.replicate (fn.ntmps - (⟨us⟩ : Array Value).size) undef).getD t undef=u:=by
    rw[Array.getD_eq_getD_getElem?,Array.getElem?_append_left (by simp; omega)]
    simp[hu]
   rw[this]; exact hv
  ·rw[if_neg (by omega)]
   exact .top _
 refine(callsIn_wide (n:=0)).1 (callsIn_of_wp_marks hfn hbody trivial ?_)
 have:=Q7 hP 1000 true c [] 0 _ M _ h w.heap.size none 0 [] ρ _ w (fun _=>rfl) (Nat.le_refl _) hw hA ⟨List.nodup_nil,fun _ h=>by cases h⟩
 refine wpIn_mono this fun e a w' hp=>?_
 obtain⟨x,T',M',ρ',a,Ds,rfl,rfl,_,g,k1,k2,k3,k4⟩:=hp
 have key:(∀ w',bn P ρ' M' w'→∃ vs us,(fn.results.toList.mapM (mf a.tmps)).run P w'=.ok us w'∧aJ ρ' vs us∧O3 Q M' vs) →
   LeavesInM Fence.wide 0 P fn a.tmps (fun e w'=>∃ v' v M' ρ',e=.returned v'∧After P M ρ w M' ρ' w'∧af ρ' v v'∧Q v M') (Ds.map zB) .returning w':=by
  intro hr
  refine Co hw.Iz (fun w2 hA2=>?_) Ds w' g k1
  obtain⟨vs,us,h1,h2,h3⟩:=hr w2 hA2.rel
  have hres:(results fn a.tmps).run P w2=.ok (if h:(⟨us⟩ : Array Value).size=1 then(⟨us⟩ : Array Value)[0] else .tuple ⟨us⟩) w2:=by
   have e:results fn a.tmps=(fn.results.mapM (mf a.tmps) >>= fun vs=>pure (if h:vs.size=1 then vs[0] else .tuple vs)):=rfl
   rw[e,Array.mapM_eq_mapM_toList]
   simp only[Sem.run_bind,Sem.run_map,h1,Result.andThen_ok,Sem.run_pure]
  refine⟨_,hres, ?_⟩
  cases h2 with
  | nil=>exact⟨_,_,M',ρ',rfl,hA2,.tup _ _ .nil,h3⟩
  | cons x v xs vs2 hv htl =>
    cases htl with
    | nil=>exact⟨_,x,M',ρ',rfl,hA2,hv,h3⟩
    | cons y u ys us2 hu UE=>exact⟨_,_,M',ρ',rfl,hA2,.tup _ _ (.cons _ _ _ _ hv (.cons _ _ _ _ hu UE)),h3⟩
 cases x with
 | normal=>exact key fun w' hw'=>nY k2 hw' _ _ k4
 | ret=>exact key fun w' hw'=>nY k2 hw' _ _ k4
 | exit id=>exact k4.elim
def Di (P:Program) (fn:Func) (args:List AV) (M:RM) (Q:aj) : Prop :=
 match fn.body with
 | some c=>NW P fn c args M Q
 | none=>False
theorem Gv (hP:rG P) {f:FuncId} {fn:Func} {args:List AV} {M:RM} {Q:aj} (hfn:P.funcs[f]?=some fn) (h:Di P fn args M Q) : gy P f args M Q:=by
 unfold Di at h
 split at h
 ·rename_i c hc; exact F8 hP hfn hc h
 ·cases h
end
end Go.Ab
set_option maxRecDepth 100000
namespace Go.Ab.Bl
open Go Go.Ab
def nD (p1:au) (p2:Nat) (p3 p4 p5 p6 p7:au) (a0 a1:AV) (M0:RM) (Q:aj) : Prop:=p1 [] M0 fun v8 j=>kS v8 fun v9=>aA v9 ( Q (Bo false) j) ( bA a0 fun wa=>ae .gtr wa (N .i64 1000) fun wb=>aA wb ( Q (Bo true) j) ( eD j a0 fun wc=>GL p2 wc fun v6 vg=>aQ v6 vg j fun wd Y=>bN p2 1 [(N .u8 0)] [(0,1,(N .u8 9))] fun v7 vh=>aQ v7 vh Y fun we va=>appW p2 1 1 [(N .u8 0)] false wd we va fun U vc=>bA a0 fun wf=>iN (dz 1 U none (some wf) none) fun wg=>p3 [wg] vc fun m vd=>bz m 0 fun wh=>bz m 1 fun r=>bz m 2 fun s=>bz m 3 fun wi=>p4 [a0] vd fun V H=>ae .neq wi (N .i64 0) fun d=>aD d false (fun c=>c r H none) (fun c=>c .undef H none) fun W q xv=>aD d false (fun v2=>eD q W fun wj=>v2 wj q none) (fun c=>c .undef q none) fun X u xw=>aD d false (fun vi=>vi a0 u none) (fun c=>c .undef u none) fun wl v xx=>ay d false (fun vj=>p5 [wl] v fun wm Z=>vj wm Z) (fun c=>c .undef v) fun wn l=>BJ d false (fun vk=>eD l W fun wk=>(wk=X∧vk)) (fun c=>c) (aD d false (fun vl=>eD l wn fun wo=>vl wo l none) (fun c=>c .undef l none) fun wp w xy=>aD d false (fun vm=>iY .neq X wp fun wq=>vm wq w none) (fun c=>c .undef w none) fun wr x xz=>aY d (Bo true) wr fun i=>aD i false (fun vn=>vn wh x none) (fun c=>c .undef x none) fun ws y x0=>aD i false (fun vo=>vo r y none) (fun c=>c .undef y none) fun wt z x1=>ay i false (fun vp=>p6 [wt] z fun wu vb=>vp wu vb) (fun c=>c .undef z) fun wv A=>aD i false (fun vq=>iY .neq ws wv fun ww=>vq ww A none) (fun c=>c .undef A none) fun wx B x2=>aY i (Bo true) wx fun h=>aD h false (fun vr=>vr s B none) (fun c=>c .undef B none) fun wy C x3=>aD h false (fun vs=>bA wy fun wz=>vs wz C none) (fun c=>c .undef C none) fun w0 D x4=>aD h false (fun vt=>vt V D none) (fun c=>c .undef D none) fun w1 E x5=>aD h false (fun vu=>bA w1 fun w2=>vu w2 E none) (fun c=>c .undef E none) fun w3 F x6=>aD h false (fun vv=>ae .neq w0 w3 fun w4=>vv w4 F none) (fun c=>c .undef F none) fun w5 G x7=>aY h (Bo true) w5 fun g=>aD g false (fun vw=>vw U G none) (fun c=>c .undef G none) fun w6 o x8=>aD g false (fun vx=>eD o w6 fun w7=>vx w7 o none) (fun c=>c .undef o none) fun w8 I x9=>aD g false (fun vy=>vy a0 I none) (fun c=>c .undef I none) fun w9 p ya=>aD g false (fun vz=>eD p w9 fun xa=>vz xa p none) (fun c=>c .undef p none) fun xb L yb=>aD g false (fun v0=>iY .add xb (St [9]) fun xc=>v0 xc L none) (fun c=>c .undef L none) fun xd O yc=>aD g false (fun v1=>iY .neq w8 xd fun xe=>v1 xe O none) (fun c=>c .undef O none) fun xf P yd=>aY g (Bo true) xf fun xg=>aA xg ( Q (Bo false) P) ( bC (fun v5 n e=>bA s fun xh=>ae .lss (ah n 0) xh fun xi=>aA xi ( aZ s (ah n 0) 1 fun xk=>ag e xk fun xl=>eD e xl fun xm=>aZ V (ah n 0) 1 fun xn=>ag e xn fun xo=>eD e xo fun xp=>iY .neq xm xp fun xq=>aA xq ( Q (Bo false) e) ( ae .add (ah n 0) (N .i64 1) fun xj=>v5 [xj] e)) ( p7 [r] e fun t R=>ay t true (fun v3=>v3 a1 R) (fun c=>c .undef R) fun xr S=>ay t true (fun v4=>p7 [xr] S fun xs ve=>v4 xs ve) (fun c=>c .undef S) fun xt vf=>aY t xt (Bo false) fun xu=>Q xu vf)) [(N .i64 0)] P))))
def qY (p1 p2 p3 p4 p5 p6 p7 p8:au) (p9:Nat) (p10:au) (p11:Nat) (p12 p13 p14 p15:au) (M0:RM) (Q:aj) : Prop:=p1 [(N .i64 65),(N .u8 1)] M0 fun d1 wm=>p2 [d1] wm fun r wn=>bz r 0 fun e=>bz r 1 fun s=>bz r 2 fun t=>bz r 3 fun d2=>p3 [] wn fun d I=>ae .neq d2 (N .i64 0) fun G=>ay G false (fun c=>c d I) (fun c=>c .undef I) fun d3 vq=>ay G false (fun x4=>eZ false 1 d3 (.sc (.pointer none)) fun d4=>x4 d4 vq) (fun c=>c .undef vq) fun d5 v4=>aY G (Bo true) d5 fun u=>ay u false (fun ya=>ya t v4) (fun c=>c .undef v4) fun d6 v8=>ay u false (fun yh=>bA d6 fun d7=>yh d7 v8) (fun c=>c .undef v8) fun d8 L=>ay u false (fun w7=>ae .neq d8 (N .i64 2) fun d9=>w7 d9 L) (fun c=>c .undef L) fun e0 V=>aY u (Bo true) e0 fun j=>ay j false (fun xg=>xg t V) (fun c=>c .undef V) fun e1 vc=>ay j false (fun xn=>aZ e1 (N .i64 1) 1 fun e2=>xn e2 vc) (fun c=>c .undef vc) fun e3 z=>ay j false (fun xw=>ag z e3 fun e4=>xw e4 z) (fun c=>c .undef z) fun e5 vs=>ay j false (fun x1=>bA e5 fun e6=>x1 e6 vs) (fun c=>c .undef vs) fun e7 vt=>ay j false (fun x2=>ae .neq e7 (N .i64 1) fun e8=>x2 e8 vt) (fun c=>c .undef vt) fun e9 vu=>aY j (Bo true) e9 fun v=>ay v false (fun x3=>x3 s vu) (fun c=>c .undef vu) fun g0 vv=>ay v false (fun x5=>bA g0 fun g1=>x5 g1 vv) (fun c=>c .undef vv) fun g2 vw=>ay v false (fun x6=>ae .neq g2 (N .i64 65) fun g3=>x6 g3 vw) (fun c=>c .undef vw) fun g4 vx=>aY v (Bo true) g4 fun w=>ay w false (fun x7=>x7 e vx) (fun c=>c .undef vx) fun g5 vy=>ay w false (fun x8=>CY g5 fun g6=>x8 g6 vy) (fun c=>c .undef vy) fun g7 vz=>ay w false (fun x9=>ae .neq g7 (N .i64 64) fun g8=>x9 g8 vz) (fun c=>c .undef vz) fun g9 v0=>aY w (Bo true) g9 fun h0=>aA h0 ( Q (Bo false) v0) ( p4 [d,e] v0 fun wj ws=>p5 [d,s] ws fun h1 v1=>iY .neq h1 e fun h2=>aA h2 ( Q (Bo false) v1) ( p4 [d,e] v1 fun h3 v2=>aZ t (N .i64 0) 1 fun h4=>ag v2 h4 fun h5=>p5 [d,h5] v2 fun n7 v3=>aZ t (N .i64 1) 1 fun h6=>ag v3 h6 fun h7=>p5 [d,h7] v3 fun n8 wt=>p6 [d,e] wt fun wk wu=>bz wk 0 fun h8=>bz wk 1 fun h9=>p7 [d,e] wu fun wl wv=>bz wl 0 fun i0=>bz wl 1 fun i1=>p8 [s] wv fun H ww=>bz H 0 fun i2=>bz H 1 fun i3=>bz H 2 fun i4=>bN p9 5 [(N .u8 0)] [(0,1,(N .u8 111)),(1,1,(N .u8 116)),(2,1,(N .u8 104)),(3,1,(N .u8 101)),(4,1,(N .u8 114))] fun yo w2=>aQ yo w2 ww fun i5 wx=>OU i5 wx fun i6 wy=>p10 [i6] wy fun i7 wz=>bN p11 2 [(St [])] [(0,1,e),(1,1,i7)] fun yp w3=>aQ yp w3 wz fun i8 w0=>p12 [d,i8] w0 fun i9 w1=>p13 [d,(.sc (.slice none 0 0))] w1 fun yq v5=>bA wj fun yr=>ae .eql yr (N .i64 1) fun h=>aD h true (fun yb=>yb wj v5 none) (fun c=>c .undef v5 none) fun ys v6 j0=>aD h true (fun yc=>aZ ys (N .i64 0) 1 fun yt=>yc yt v6 none) (fun c=>c .undef v6 none) fun yu A m7=>aD h true (fun yd=>ag A yu fun yv=>yd yv A none) (fun c=>c .undef A none) fun yw v7 m8=>aD h true (fun ye=>ye e v7 none) (fun c=>c .undef v7 none) fun yx v9 m9=>aD h true (fun yf=>iY .eql yw yx fun yy=>yf yy v9 none) (fun c=>c .undef v9 none) fun yz wa n0=>aY h yz (Bo false) fun n=>aD n true (fun yg=>yg h3 wa none) (fun c=>c .undef wa none) fun y0 wb n1=>aD n true (fun yi=>bA y0 fun y1=>yi y1 wb none) (fun c=>c .undef wb none) fun y2 wc n2=>aD n true (fun yj=>ae .eql y2 (N .i64 2) fun y3=>yj y3 wc none) (fun c=>c .undef wc none) fun y4 wd n3=>aY n y4 (Bo false) fun C=>aD C true (fun yk=>yk h9 wd none) (fun c=>c .undef wd none) fun y5 we n4=>aD C true (fun yl=>ae .eql y5 (N .i64 0) fun y6=>yl y6 we none) (fun c=>c .undef we none) fun y7 wf n5=>aY C y7 (Bo false) fun g=>aD g true (fun ym=>ym h8 wf none) (fun c=>c .undef wf none) fun wg B n6=>aD g true (fun yn=>eD B wg fun y8=>yn y8 B none) (fun c=>c .undef B none) fun wh O j1=>ay g true (fun w4=>p1 [(N .i64 65),(N .u8 1)] O fun za wo=>w4 za wo) (fun c=>c .undef O) fun zb m=>BJ g true (fun w5=>eD m wg fun y9=>(y9=wh∧w5)) (fun c=>c) (aD g true (fun w6=>eD m zb fun zc=>w6 zc m none) (fun c=>c .undef m none) fun zd P j2=>aD g true (fun w8=>iY .eql wh zd fun ze=>w8 ze P none) (fun c=>c .undef P none) fun zf R j3=>aY g zf (Bo false) fun wi=>aD wi true (fun w9=>w9 i1 R none) (fun c=>c .undef R none) fun zg S j4=>aY wi zg (Bo false) fun i=>aD i true (fun xa=>xa i0 S none) (fun c=>c .undef S none) fun zh x j5=>aD i true (fun xb=>eD x zh fun zi=>xb zi x none) (fun c=>c .undef x none) fun zj U j6=>aD i true (fun xc=>xc s U none) (fun c=>c .undef U none) fun zk y j7=>aD i true (fun xd=>eD y zk fun zl=>xd zl y none) (fun c=>c .undef y none) fun zm W j8=>aD i true (fun xe=>iY .eql zj zm fun zn=>xe zn W none) (fun c=>c .undef W none) fun zo X j9=>aY i zo (Bo false) fun D=>aD D true (fun xf=>xf i4 X none) (fun c=>c .undef X none) fun zp Y l0=>aD D true (fun xh=>ae .eql zp (N .i64 0) fun zq=>xh zq Y none) (fun c=>c .undef Y none) fun zr Z l1=>aY D zr (Bo false) fun E=>aD E true (fun xi=>xi i2 Z none) (fun c=>c .undef Z none) fun zs va l2=>aD E true (fun xj=>ae .eql zs (N .i64 65) fun zt=>xj zt va none) (fun c=>c .undef va none) fun zu vb l3=>aY E zu (Bo false) fun o=>aD o true (fun xk=>xk i3 vb none) (fun c=>c .undef vb none) fun zv vd l4=>aD o true (fun xl=>bA zv fun zw=>xl zw vd none) (fun c=>c .undef vd none) fun zx ve l5=>aD o true (fun xm=>ae .eql zx (N .i64 2) fun zy=>xm zy ve none) (fun c=>c .undef ve none) fun zz vf l6=>aY o zz (Bo false) fun p=>aD p true (fun xo=>xo i9 vf none) (fun c=>c .undef vf none) fun z0 vg l7=>aD p true (fun xp=>bA z0 fun z1=>xp z1 vg none) (fun c=>c .undef vg none) fun z2 vh l8=>aD p true (fun xq=>ae .eql z2 (N .i64 1) fun z3=>xq z3 vh none) (fun c=>c .undef vh none) fun z4 vi l9=>aY p z4 (Bo false) fun F=>aD F true (fun xr=>xr yq vi none) (fun c=>c .undef vi none) fun z5 vj m0=>aD F true (fun xs=>ae .eql z5 (N .i64 3) fun z6=>xs z6 vj none) (fun c=>c .undef vj none) fun z7 vk m1=>aY F z7 (Bo false) fun l=>aD l true (fun xt=>xt d vk none) (fun c=>c .undef vk none) fun z8 vl m2=>ay l true (fun xu=>p14 [z8] vl fun z9 wp=>xu z9 wp) (fun c=>c .undef vl) fun c0 vm=>aD l true (fun xv=>bA c0 fun c1=>xv c1 vm none) (fun c=>c .undef vm none) fun c2 vn m3=>aD l true (fun xx=>ae .eql c2 (N .i64 0) fun c3=>xx c3 vn none) (fun c=>c .undef vn none) fun c4 vo m4=>aY l c4 (Bo false) fun q=>aD q true (fun xy=>xy d vo none) (fun c=>c .undef vo none) fun c5 vp m5=>ay q true (fun xz=>p15 [c5] vp fun c6 wq=>xz c6 wq) (fun c=>c .undef vp) fun c7 vr=>aD q true (fun x0=>ae .eql c7 (N .i64 0) fun c8=>x0 c8 vr none) (fun c=>c .undef vr none) fun c9 wr m6=>aY q c9 (Bo false) fun d0=>Q d0 wr)))
def qx (p1:au) (p2 p3:Nat) (p4 p5:au) (rc:(FuncId→Prop)) (p6:au) (p7 p8:Nat) (p9:au) (a0:AV) (M0:RM) (Q:aj) : Prop:=bA a0 fun H=>ae .gtr H (N .i64 4096) fun I=>aA I ( Q (.tup [(St []),(.sc (.slice none 0 0)),(.sc (.slice none 0 0)),(N .i64 2)]) M0) ( bA a0 fun L=>dL .u64 L fun O=>p1 [(.sc (.slice none 0 0)),O] M0 fun P r=>aQ (.row [(.sc (.slice none 0 0))] false p2 0) (fun c=>.ptr c 0) r fun d s=>aU s d P 1 fun t=>aQ (.row [(.sc (.slice none 0 0))] false p3 0) (fun c=>.ptr c 0) t fun e z=>p4 [a0] z fun R A=>p5 [R,(N .i64 64)] A fun S B=>BS rc S B (fun q j F=>ag j e fun m=>p4 [q] j fun V l=>ag l e fun U=>(U=m∧bN p2 1 [(.sc (.slice none 0 0))] [(0,1,V)] fun G E=>FI G E l fun W C c=>appW p2 1 24 [(.sc (.slice none 0 0))] false m W C fun X D=>aU D e X 1 fun u=>p6 [q] u fun Y v=>aQ (.row [(N .u8 0),(N .u8 0),(N .u8 0),(N .u8 0),(N .u8 0),(N .u8 0),(N .u8 0),(N .u8 0),(N .u8 0),(N .u8 0),(N .u8 0),(N .u8 0),(N .u8 0),(N .u8 0),(N .u8 0),(N .u8 0),(N .u8 0),(N .u8 0),(N .u8 0),(N .u8 0),(N .u8 0),(N .u8 0),(N .u8 0),(N .u8 0),(N .u8 0),(N .u8 0),(N .u8 0),(N .u8 0),(N .u8 0),(N .u8 0),(N .u8 0),(N .u8 0)] false p7 0) (fun c=>.ptr c 0) v fun p w=>aU w p Y 32 fun i=>ag i d fun Z=>iN (zF 32 1 p none none) fun va=>appW p8 1 1 [(N .u8 0)] false Z va i fun vb x=>aU x d vb 1 fun y=>F y)) (fun g=>ag g d fun vc=>ag g d fun n=>ag g e fun o=>p9 [vc] g fun vd h=>ag h d fun ve=>(ve=n∧ag h e fun vf=>(vf=o∧Q (.tup [vd,n,o,(N .i64 0)]) h))))
def mY (p1 p2 p3 p4 p5:au) (p6:Nat) (p7:au) (rc:(FuncId→Prop)) (p8:au) (p9:Nat) (a0:AV) (M0:RM) (Q:aj) : Prop:=p1 [a0] M0 fun e v=>p2 [e,(N .i64 4096)] v fun t w=>p3 [e] w fun S i=>ae .neq S (N .i64 0) fun d=>ay d false (fun c=>c e i) (fun c=>c .undef i) fun U n=>ay d false (fun I=>p4 [U] n fun V E=>I V E) (fun c=>c .undef n) fun W q=>ay d false (fun L=>L t q) (fun c=>c .undef q) fun X r=>ay d false (fun O=>p5 [X] r fun Y x=>O Y x) (fun c=>c .undef r) fun Z j=>ay d false (fun G=>ae .mul Z (N .i64 32) fun va=>G va j) (fun c=>c .undef j) fun vb l=>ay d false (fun H=>ae .neq W vb fun vc=>H vc l) (fun c=>c .undef l) fun vd m=>aY d (Bo true) vd fun ve=>aA ve ( Q (.tup [(N .i64 0),(.sc (.slice none 0 0)),(N .i64 14)]) m) ( aQ (.row [(.sc (.slice none 0 0))] false p6 0) (fun s=>.ptr s 0) m fun g y=>bA a0 fun vf=>p4 [e] y fun vg z=>ae .sub vf vg fun vh=>iN (dz 1 a0 (some vh) none none) fun vi=>p7 [vi,(N .i64 32)] z fun vj A=>BS rc vj A (fun vr h P=>ag h g fun u=>Mq 32 vr fun vl=>dK h vl 32 fun vm=>p8 [vm] h fun vn p=>ag p g fun vk=>(vk=u∧bN p9 1 [(St [])] [(0,1,vn)] fun R F=>FI R F p fun vo B s=>appW p9 1 16 [(St [])] false u vo B fun vp C=>aU C g vp 1 fun D=>P D)) (fun o=>ag o g fun vq=>Q (.tup [t,vq,(N .i64 0)]) o))
def wE (p1:Nat) (M0:RM) (Q:aj) : Prop:=aQ (.map [] 0) (fun e=>.map e) M0 fun i c=>jf [(.sc (.map none))] [(0,1,i)] fun j=>lL p1 j fun h g=>aQ h g c fun l d=>Q l d
def kQ (p1:Nat) (p2:au) (p3:Nat) (p4:au) (p5:Nat) (a0 a1:AV) (M0:RM) (Q:aj) : Prop:=lL p1 a0 fun s q=>aQ s q M0 fun g e=>ag e g fun t=>ek t fun u=>fe u 0 fun v=>ag e v fun w=>iC false [2] (.sc (.slice none 0 0)) true e w a1 fun m=>bz m 0 fun x=>bz m 1 fun y=>kS y fun z=>aA z ( Q (.tup [(.sc (.slice none 0 0)),(N .i64 4)]) e) ( p2 [x] e fun h j=>bz h 0 fun A=>bz h 1 fun i=>bz h 2 fun n=>ae .neq n (N .i64 0) fun B=>aA B ( Q (.tup [(.sc (.slice none 0 0)),n]) j) ( p4 [i,(.fn (.func p3) [] [g])] j fun C l=>aA C ( Q (.tup [(.sc (.slice none 0 0)),(N .i64 4)]) l) ( bA i fun D=>bC (fun r d c=>ae .lss (ah d 1) D fun E=>aA E ( aZ i (ah d 1) 1 fun F=>ag c F fun G=>ag c g fun H=>ek H fun I=>fe I 0 fun L=>ag c L fun O=>iC false [2] (.sc (.slice none 0 0)) false c O G fun o=>bA o fun P=>bA (ah d 0) fun R=>ae .sub A R fun S=>EC false (N .i64 64) S fun U=>ae .neq P U fun V=>aA V ( Q (.tup [(.sc (.slice none 0 0)),(N .i64 14)]) c) ( appW p5 1 1 [(N .u8 0)] false (ah d 0) o c fun W p=>ae .add (ah d 1) (N .i64 1) fun X=>r [W,X] p)) ( Q (.tup [(ah d 0),(N .i64 0)]) c)) [(.sc (.slice none 0 0)),(N .i64 0)] l)))
def pU (p1:Nat) (a0:AV) (M0:RM) (Q:aj) : Prop:=sK p1 24 [(.sc (.slice none 0 0))] (N .i64 0) (N .i64 0) fun r n=>aQ r n M0 fun C g=>bC (fun q c d=>bA (ah c 0) fun D=>ae .gtr D (N .i64 64) fun E=>aA E ( iN (dz 1 (ah c 0) none (some (N .i64 64)) none) fun u=>bN p1 1 [(.sc (.slice none 0 0))] [(0,1,u)] fun s o=>aQ s o d fun v i=>appW p1 1 24 [(.sc (.slice none 0 0))] false (ah c 1) v i fun w j=>iN (dz 1 (ah c 0) (some (N .i64 64)) none none) fun x=>q [x,w] j) ( fC (fun e=>bA (ah c 0) fun y=>ae .gtr y (N .i64 0) fun z=>aA z ( bN p1 1 [(.sc (.slice none 0 0))] [(0,1,(ah c 0))] fun t p=>aQ t p d fun A l=>appW p1 1 24 [(.sc (.slice none 0 0))] false (ah c 1) A l fun B m=>e [B] m) ( e [(ah c 1)] d)) (fun F h=>Q (ah F 0) h))) [a0,C] g
def nz (p1 p2 p3:au) (p4 p5:Nat) (a0:AV) (M0:RM) (Q:aj) : Prop:=bA a0 fun z=>dL .u64 z fun A=>p1 [A] M0 fun q h=>p2 [a0] h fun e i=>bC (fun p c d=>bA e fun r=>ae .lss (ah c 1) r fun s=>aA s ( aZ e (ah c 1) 1 fun u=>ag d u fun v=>p3 [v] d fun w j=>aQ (.row [(N .u8 0),(N .u8 0),(N .u8 0),(N .u8 0),(N .u8 0),(N .u8 0),(N .u8 0),(N .u8 0),(N .u8 0),(N .u8 0),(N .u8 0),(N .u8 0),(N .u8 0),(N .u8 0),(N .u8 0),(N .u8 0),(N .u8 0),(N .u8 0),(N .u8 0),(N .u8 0),(N .u8 0),(N .u8 0),(N .u8 0),(N .u8 0),(N .u8 0),(N .u8 0),(N .u8 0),(N .u8 0),(N .u8 0),(N .u8 0),(N .u8 0),(N .u8 0)] false p4 0) (fun o=>.ptr o 0) j fun g l=>aU l g w 32 fun m=>iN (zF 32 1 g none none) fun x=>appW p5 1 1 [(N .u8 0)] false (ah c 0) x m fun y n=>ae .add (ah c 1) (N .i64 1) fun t=>p [y,t] n) ( Q (ah c 0) d)) [q,(N .i64 0)] i
def ru (p1 p2 p3:au) (a0:AV) (M0:RM) (Q:aj) : Prop:=p1 [a0] M0 fun i y=>bz i 0 fun v=>bz i 1 fun w=>bz i 2 fun x=>p2 [a0] y fun j d=>bz j 0 fun R=>bz j 1 fun S=>bz j 2 fun U=>kS U fun V=>aA V ( ae .eql x (N .i64 14) fun l=>ay l true (fun c=>c v d) (fun c=>c .undef d) fun W m=>ay l true (fun G=>ae .eql W (N .i64 0) fun X=>G X m) (fun c=>c .undef m) fun Y s=>aY l Y (Bo false) fun e=>ay e true (fun O=>O w s) (fun c=>c .undef s) fun Z t=>ay e true (fun P=>bA Z fun va=>P va t) (fun c=>c .undef t) fun vb u=>ay e true (fun C=>ae .eql vb (N .i64 0) fun vc=>C vc u) (fun c=>c .undef u) fun vd z=>aY e vd (Bo false) fun ve=>Q ve z) ( ae .eql x (N .i64 0) fun g=>ay g true (fun D=>D v d) (fun c=>c .undef d) fun vf n=>ay g true (fun E=>E R n) (fun c=>c .undef n) fun vg o=>ay g true (fun F=>ae .eql vf vg fun vh=>F vh o) (fun c=>c .undef o) fun vi p=>aY g vi (Bo false) fun h=>ay h true (fun H=>H w p) (fun c=>c .undef p) fun vj q=>ay h true (fun I=>I S q) (fun c=>c .undef q) fun vk r=>ay h true (fun L=>p3 [vj,vk] r fun vl A=>L vl A) (fun c=>c .undef r) fun vm B=>aY h vm (Bo false) fun vn=>Q vn B)
def rf (p1:Nat) (a0 a1:AV) (M0:RM) (Q:aj) : Prop:=sK p1 1 [(N .u8 0)] a0 a0 fun l i=>aQ l i M0 fun e g=>bC (fun j c d=>ae .lss (ah c 0) a0 fun m=>aA m ( ae .mul (ah c 0) (N .i64 7) fun o=>dL .u8 o fun p=>ae .add a1 p fun q=>aZ e (ah c 0) 1 fun r=>aU d r q 1 fun h=>ae .add (ah c 0) (N .i64 1) fun n=>j [n] h) ( Q e d)) [(N .i64 0)] g
def lF (p1:au) (a0 a1:AV) (M0:RM) (Q:aj) : Prop:=aQ (.map [] 0) (fun C=>.map C) M0 fun g v=>bA a1 fun G=>bC (fun E n c=>ae .lss (ah n 0) G fun H=>aA H ( aZ a1 (ah n 0) 1 fun I=>ag c I fun j=>ek a0 fun L=>fe L 0 fun O=>ag c O fun P=>iC false [2] (.sc (.slice none 0 0)) false c P j fun R=>p1 [R] c fun l h=>bz l 0 fun vq=>bz l 1 fun s=>bz l 2 fun S=>iC false [2] (Bo false) false h g j fun m=>ay m false (fun e=>e S h) (fun e=>e .undef h) fun U q=>ay m false (fun D=>ae .eql U (N .i64 0) fun V=>D V q) (fun e=>e .undef q) fun W A=>aY m (Bo true) W fun X=>lT false [2] A g j X fun B=>bA s fun Y=>bC (fun F p i=>ae .lss (ah p 0) Y fun Z=>aA Z ( aZ s (ah p 0) 1 fun va=>ag i va fun vb=>lT false [2] i g vb (Bo true) fun w=>ae .add (ah p 0) (N .i64 1) fun vc=>F [vc] w) ( ae .add (ah n 0) (N .i64 1) fun vd=>E [vd] i)) [(N .i64 0)] B) ( ek a0 fun ve=>fe ve 0 fun vf=>ag c vf fun vg=>Da vg c fun t x=>bC (fun r o y=>Gn t y fun vh d=>bz vh 0 fun vi=>aA vi ( LD d t fun vj=>bz vj 0 fun u=>iC false [2] (Bo false) false d g u fun vk=>kS vk fun vl=>aA vl ( ek a0 fun vm=>fe vm 0 fun vn=>ag d vn fun vo=>Ic false [2] d vo u fun vr z=>ae .add (ah o 0) (N .i64 1) fun vp=>r [vp] z) ( r [(ah o 0)] d)) ( Q (ah o 0) d)) [(N .i64 0)] x)) [(N .i64 0)] v
def mi (p1 p2 p3:au) (a0 a1:AV) (M0:RM) (Q:aj) : Prop:=p1 [a1] M0 fun d j=>fC (fun e=>p2 [a0,d] j fun n c=>kS n fun o=>aA o ( ek a0 fun p=>fe p 0 fun h=>ag c h fun i=>p3 [a1] c fun r g=>ag g h fun q=>(q=i∧lT false [2] g i d r fun l=>e [] l)) ( e [] c)) (fun s m=>Q d m)
def jO (p1:Nat) (p2 p3:au) (a0 a1:AV) (M0:RM) (Q:aj) : Prop:=ek a0 fun l=>fe l 0 fun m=>ag M0 m fun n=>iC false [2] (.sc (.slice none 0 0)) true M0 n a1 fun d=>bz d 0 fun o=>bz d 1 fun p=>kS p fun q=>aA q ( bN p1 1 [(St [])] [(0,1,a1)] fun j i=>aQ j i M0 fun r e=>Q r e) ( p2 [o] M0 fun c g=>bz c 0 fun u=>bz c 1 fun s=>bz c 2 fun v=>p3 [a0,s] g fun t h=>Q t h)
def mo (p1:au) (a0 a1:AV) (M0:RM) (Q:aj) : Prop:=ek a0 fun e=>fe e 0 fun g=>ag M0 g fun h=>iC false [2] (.sc (.slice none 0 0)) true M0 h a1 fun c=>bz c 0 fun i=>bz c 1 fun j=>p1 [i] M0 fun l d=>Q (.tup [l,j]) d
def lG (p1 p2:au) (p3:Nat) (a0 a1:AV) (M0:RM) (Q:aj) : Prop:=p1 [a0,a1] M0 fun e c=>p2 [e,(.fn (.func p3) [] [])] c fun g d=>Q g d
def kR (p1 p2:au) (a0:AV) (M0:RM) (Q:aj) : Prop:=ek a0 fun e=>fe e 0 fun g=>ag M0 g fun h=>p1 [h] M0 fun i c=>p2 [i] c fun j d=>Q j d
def kN (a0:AV) (M0:RM) (Q:aj) : Prop:=ek a0 fun q=>fe q 0 fun r=>ag M0 r fun s=>Da s M0 fun d g=>bC (fun i e h=>Gn d h fun j c=>bz j 0 fun l=>aA l ( LD c d fun m=>bz m 1 fun n=>bA n fun o=>ae .add (ah e 0) o fun p=>i [p] c) ( Q (ah e 0) c)) [(N .i64 0)] g
def uk (p1 p2 p3 p4:Nat) (a0 a1:AV) (M0:RM) (Q:aj) : Prop:=lL p1 a0 fun l i=>aQ l i M0 fun n g=>lL p2 a1 fun m j=>aQ m j g fun d c=>fC (fun e=>ag c d fun o=>ae .lss o (N .i64 1) fun p=>aA p ( False) ( e [] c)) (fun q h=>Q (.fn (.func p4) [] [n,d]) h)
def uE (p1 p2:au) (a0:AV) (M0:RM) (Q:aj) : Prop:=p1 [a0] M0 fun e c=>p2 [e] c fun g d=>Q g d
def rF (a0:AV) (M0:RM) (Q:aj) : Prop:=ek a0 fun e=>fe e 1 fun g=>ag M0 g fun h=>aA h ( Q (N .i64 0) M0) ( ek a0 fun i=>fe i 0 fun j=>ag M0 j fun c=>bA c fun d=>Q d M0)
def qj (a0:AV) (M0:RM) (Q:aj) : Prop:=ae .add a0 (N .i64 64) fun c=>ae .sub c (N .i64 1) fun d=>ae .quo d (N .i64 64) fun e=>Q e M0
def jJ (p1:au) (a0 a1:AV) (M0:RM) (Q:aj) : Prop:=p1 [a0,a1] M0 fun d c=>ae .geq d (N .i64 0) fun e=>Q e c
def jL (p1:au) (a0 a1:AV) (M0:RM) (Q:aj) : Prop:=ag M0 a1 fun d=>p1 [d,a0] M0 fun e c=>kS e fun g=>Q g c
def mD (a0 a1:AV) (M0:RM) (Q:aj) : Prop:=ek a0 fun h=>fe h 0 fun d=>ag M0 d fun e=>iC false [2] (.sc (.slice none 0 0)) true M0 e a1 fun c=>bz c 0 fun i=>bz c 1 fun g=>Q g M0
def rD (p1:au) (p2:Nat) (p3:au) (a0:AV) (M0:RM) (Q:aj) : Prop:=p1 [a0,(N .i64 4096)] M0 fun g i=>bz g 0 fun t=>bz g 1 fun h=>bz g 2 fun O=>kS O fun d=>ay d false (fun c=>c h i) (fun c=>c .undef i) fun P j=>ay d false (fun A=>bA P fun R=>A R j) (fun c=>c .undef j) fun S q=>ay d false (fun E=>E t q) (fun c=>c .undef q) fun U r=>ay d false (fun F=>ae .add U (N .i64 64) fun V=>F V r) (fun c=>c .undef r) fun W s=>ay d false (fun G=>ae .sub W (N .i64 1) fun X=>G X s) (fun c=>c .undef s) fun Y l=>ay d false (fun B=>ae .quo Y (N .i64 64) fun Z=>B Z l) (fun c=>c .undef l) fun va m=>ay d false (fun C=>ae .mul (N .i64 32) va fun vb=>C vb m) (fun c=>c .undef m) fun vc n=>ay d false (fun D=>ae .neq S vc fun vd=>D vd n) (fun c=>c .undef n) fun ve o=>aY d (Bo true) ve fun vf=>aA vf ( Q (.tup [(N .i64 0),(.sc (.slice none 0 0)),(Bo false)]) o) ( sK p2 16 [(St [])] (N .i64 0) (N .i64 0) fun I y=>aQ I y o fun vg u=>bC (fun H e p=>bA h fun vh=>ae .lss (ah e 1) vh fun vi=>aA vi ( ae .add (ah e 1) (N .i64 32) fun vk=>iN (dz 1 h (some (ah e 1)) (some vk) none) fun vl=>p3 [vl] p fun vm v=>bN p2 1 [(St [])] [(0,1,vm)] fun L z=>aQ L z v fun vn w=>appW p2 1 16 [(St [])] false (ah e 0) vn w fun vo x=>ae .add (ah e 1) (N .i64 32) fun vj=>H [vo,vj] x) ( Q (.tup [t,(ah e 0),(Bo true)]) p)) [vg,(N .i64 0)] u)
def qX (a0 a1:AV) (M0:RM) (Q:aj) : Prop:=bA a0 fun q=>bA a1 fun r=>ae .neq q r fun g=>aA g ( Q (Bo false) M0) ( bC (fun e d c=>bA a0 fun h=>ae .lss (ah d 0) h fun i=>aA i ( aZ a0 (ah d 0) 1 fun l=>ag c l fun m=>aZ a1 (ah d 0) 1 fun n=>ag c n fun o=>iY .neq m o fun p=>aA p ( Q (Bo false) c) ( ae .add (ah d 0) (N .i64 1) fun j=>e [j] c)) ( Q (Bo true) c)) [(N .i64 0)] M0)
def nk (p1:Nat) (a0:AV) (M0:RM) (Q:aj) : Prop:=eZ false 2 a0 (.sc (.slice none 0 0)) fun h=>aA h ( Q (.sc (.slice none 0 0)) M0) ( bN p1 0 [(N .u8 0)] [] fun g e=>aQ g e M0 fun i c=>appW p1 1 1 [(N .u8 0)] false i a0 c fun j d=>Q j d)
def kX (p1 p2:au) (p3:Nat) (a0 a1:AV) (M0:RM) (Q:aj) : Prop:=bA a1 fun R=>bC (fun x d g=>ae .lss (ah d 1) R fun z=>aA z ( fC (fun i=>aZ a1 (ah d 1) 1 fun A=>ag g A fun h=>p1 [a0,h] g fun B j=>kS B fun e=>ay e true (fun c=>c (ah d 0) j) (fun c=>c .undef j) fun C l=>ay e true (fun u=>u h l) (fun c=>c .undef l) fun D n=>ay e true (fun v=>p2 [C,D] n fun E s=>v E s) (fun c=>c .undef n) fun F o=>ay e true (fun w=>kS F fun G=>w G o) (fun c=>c .undef o) fun H m=>aY e H (Bo false) fun I=>aA I ( bN p3 1 [(St [])] [(0,1,h)] fun y t=>aQ y t m fun L p=>appW p3 1 16 [(St [])] false (ah d 0) L p fun O q=>i [O] q) ( i [(ah d 0)] m)) (fun S r=>ae .add (ah d 1) (N .i64 1) fun P=>x [(ah S 0),P] r)) ( Q (ah d 0) g)) [(.sc (.slice none 0 0)),(N .i64 0)] M0
def kP (p1:au) (cv:(FuncId→au)) (a0 a1:AV) (M0:RM) (Q:aj) : Prop:=p1 [a0,a1] M0 fun e h=>ae .eql e (N .i64 (-1)) fun p=>aA p ( Q a0 h) ( ae .add e (N .i64 1) fun q=>bC (fun o c d=>bA a0 fun r=>ae .lss (ah c 1) r fun s=>aA s ( fC (fun g=>aZ a0 (ah c 1) 1 fun u=>ag d u fun j=>oZ cv a1 [j] d fun v i=>kS v fun w=>aA w ( aZ a0 (ah c 0) 1 fun x=>aU i x j 1 fun l=>ae .add (ah c 0) (N .i64 1) fun y=>g [y] l) ( g [(ah c 0)] i)) (fun B m=>ae .add (ah c 1) (N .i64 1) fun t=>o [(ah B 0),t] m)) ( iN (dz 1 a0 (some (ah c 0)) none none) fun z=>Lv [(St [])] z d fun C n=>iN (dz 1 a0 none (some (ah c 0)) none) fun A=>Q A n)) [e,q] h)
def ku (p1:au) (p2:Nat) (a0:AV) (M0:RM) (Q:aj) : Prop:=p1 [a0] M0 fun c d=>bz c 0 fun l=>bz c 1 fun m=>aQ (.row [(N .u8 0),(N .u8 0),(N .u8 0),(N .u8 0),(N .u8 0),(N .u8 0),(N .u8 0),(N .u8 0),(N .u8 0),(N .u8 0),(N .u8 0),(N .u8 0),(N .u8 0),(N .u8 0),(N .u8 0),(N .u8 0),(N .u8 0),(N .u8 0),(N .u8 0),(N .u8 0),(N .u8 0),(N .u8 0),(N .u8 0),(N .u8 0),(N .u8 0),(N .u8 0),(N .u8 0),(N .u8 0),(N .u8 0),(N .u8 0),(N .u8 0),(N .u8 0)] false p2 0) (fun h=>.ptr h 0) d fun j e=>aU e j l 32 fun g=>ae .neq m (N .i64 0) fun i=>Q i g
def lm (cv:(FuncId→au)) (a0 a1:AV) (M0:RM) (Q:aj) : Prop:=bA a0 fun m=>bC (fun g c d=>ae .lss (ah c 0) m fun n=>aA n ( aZ a0 (ah c 0) 1 fun h=>ag d h fun i=>oZ cv a1 [i] d fun j e=>aA j ( Q (ah c 0) e) ( ae .add (ah c 0) (N .i64 1) fun l=>g [l] e)) ( Q (N .i64 (-1)) d)) [(N .i64 0)] M0
def sZ (p1:au) (a0 a1:AV) (M0:RM) (Q:aj) : Prop:=p1 [a0] M0 fun e h=>bz e 0 fun p=>bz e 1 fun v=>bz e 2 fun w=>kS w fun g=>ay g false (fun c=>c a1 h) (fun c=>c .undef h) fun x i=>ay g false (fun q=>ae .lss x (N .i64 0) fun y=>q y i) (fun c=>c .undef i) fun z m=>aY g (Bo true) z fun d=>ay d false (fun s=>s p m) (fun c=>c .undef m) fun A n=>ay d false (fun t=>t a1 n) (fun c=>c .undef n) fun B o=>ay d false (fun u=>dL .u64 B fun C=>u C o) (fun c=>c .undef o) fun D j=>ay d false (fun r=>ae .gtr A D fun E=>r E j) (fun c=>c .undef j) fun F l=>aY d (Bo true) F fun G=>aA G ( Q (.tup [(N .i64 0),(.sc (.slice none 0 0)),(Bo false)]) l) ( dL .i64 p fun H=>Q (.tup [H,v,(Bo true)]) l)
def mq (p1:au) (a0 a1:AV) (M0:RM) (Q:aj) : Prop:=p1 [a0,a1] M0 fun d c=>ae .geq d (N .i64 0) fun e=>Q e c
def zQ (a0:AV) (M0:RM) (Q:aj) : Prop:=bC (fun x d l=>bA a0 fun y=>ae .lss (ah d 1) y fun h=>ay h true (fun c=>c (ah d 1) l) (fun c=>c .undef l) fun z m=>ay h true (fun s=>ae .lss z (N .i64 10) fun A=>s A m) (fun c=>c .undef m) fun B g=>aY h B (Bo false) fun C=>aA C ( aZ a0 (ah d 1) 1 fun E=>ag g E fun F=>ae .rem F (N .u8 128) fun G=>dL .u64 G fun p=>ae .eql (ah d 1) (N .i64 9) fun i=>ay i true (fun u=>u p g) (fun c=>c .undef g) fun H o=>ay i true (fun v=>ae .gtr H (N .u64 1) fun I=>v I o) (fun c=>c .undef o) fun L e=>aY i L (Bo false) fun O=>aA O ( Q (.tup [(N .u64 0),(.sc (.slice none 0 0)),(Bo false)]) e) ( ae .mul (N .i64 7) (ah d 1) fun P=>dL .u64 P fun R=>iG .shl p R fun S=>ae .add (ah d 0) S fun q=>aZ a0 (ah d 1) 1 fun U=>ag e U fun V=>ae .lss V (N .u8 128) fun W=>aA W ( ae .add (ah d 1) (N .i64 1) fun X=>iN (dz 1 a0 (some X) none none) fun Y=>aZ a0 (ah d 1) 1 fun Z=>ag e Z fun va=>ae .gtr va (N .u8 0) fun j=>aD j false (fun w=>w (ah d 1) e none) (fun c=>c .undef e none) fun vb n vf=>aD j false (fun t=>ae .eql vb (N .i64 0) fun vc=>t vc n none) (fun c=>c .undef n none) fun vd r vg=>aY j (Bo true) vd fun ve=>Q (.tup [q,Y,ve]) r) ( ae .add (ah d 1) (N .i64 1) fun D=>x [q,D] e))) ( Q (.tup [(N .u64 0),(.sc (.slice none 0 0)),(Bo false)]) g)) [(N .u64 0),(N .i64 0)] M0
def pY (a0 a1:AV) (M0:RM) (Q:aj) : Prop:=bA a0 fun l=>bC (fun e d c=>ae .lss (ah d 0) l fun m=>aA m ( aZ a0 (ah d 0) 1 fun g=>ag c g fun h=>iY .eql a1 h fun i=>aA i ( Q (ah d 0) c) ( ae .add (ah d 0) (N .i64 1) fun j=>e [j] c)) ( Q (N .i64 (-1)) c)) [(N .i64 0)] M0
end Go.Ab.Bl
set_option maxRecDepth 10000
namespace Go.Ab.Bl
open Go Go.Ab Go.Ab.aR
theorem Uu {M:RM} {c p:Bool} {f:aj→Prop} {G:AV→RM→Prop} (hf:c=false→∀ k:aj,k (Bo p) M→f k) (hG:G (Bo (c || p)) M) :
  ay (Bo c) false f (fun k=>k .undef M) (fun t M'=>aY (Bo c) (Bo true) t fun u=>G u M'):=by
 cases c with
 | true=>rw[gD]; dsimp only; rw[dF]; exact hG
 | false=>rw[bP]; exact hf rfl _ (by rw[fw]; exact hG)
theorem Zw {v:AV} (h:Bt v) : jh v:=by
 unfold Bt at h; unfold jh; split <;> simp_all
theorem Yo {v:AV} (h:jh v) : Bt v:=by
 unfold jh at h; unfold Bt; split <;> simp_all
def F5 (most:Nat) (bs:List UInt8) : Option (Nat × List UInt8):=match xC bs with
 | some (w,n)=>if most<w then none else some (w,bs.drop n)
 | none=>none
structure Rest (M:RM) (v v' : AV) (r:List UInt8) : Prop where
 sl:Sl BY M v' r
 cap:jh v'
 sub:∀ d∈ak v',d∈ak v
theorem orK {c p:Bool} {f:KR→Prop} {M:RM} {G:AV→RM→Prop} (hf:c=false→∀ k:KR,k (Bo p) M none→f k) (hG:G (Bo (c || p)) M) :
  aD (Bo c) false f (fun k=>k .undef M none) (fun t M' b=>aY (Bo c) (Bo true) t fun u=>G u M'):=by
 cases c with
 | true=>rw[RU]; dsimp only; rw[dF]; exact hG
 | false=>rw[qM]; refine hf rfl _ ?_; rw[fw]; exact hG
theorem WZ {v d i:Nat} (h:v<2 ^ (7 * i)) : v + d * 2 ^ (7 * i)=v ||| d * 2 ^ (7 * i):=by
 rw[Nat.or_comm,Nat.mul_comm,← Nat.two_pow_add_eq_or_of_lt h,Nat.add_comm]
theorem Xc {u d i:Nat} (hu:u<2 ^ (7 * i)) (hd:d<128) (hi:i<10) (h9:¬ (i=9∧d > 1)) : u + d * 2 ^ (7 * i)<2 ^ 64∧u + d * 2 ^ (7 * i)<2 ^ (7 * (i + 1)):=by
 have h1:u + d * 2 ^ (7 * i)<2 ^ (7 * (i + 1)):=by
  rw[show 7 * (i + 1)=7 * i + 7 by omega,Nat.pow_add]
  have:d * 2 ^ (7 * i)≤127 * 2 ^ (7 * i):=Nat.mul_le_mul_right _ (by omega)
  omega
 refine⟨?_,h1⟩
 by_cases h:i=9
 ·subst h
  have:d≤1:=by omega
  have:=Nat.mul_le_mul_right (2 ^ 63) this
  simp only[Nat.reduceMul,Nat.reducePow] at *
  omega
 ·exact Nat.lt_of_lt_of_le h1 (Nat.pow_le_pow_right (by decide) (by omega))
def Tk (c:au) : Prop:=∀ {M:RM} {v:AV} {bs:List UInt8} {Q:aj},Sl BY M v bs→jh v →
 (xC bs=none→∀ (x:Nat) v',Q (.tup [N .u64 (x:Int),v',Bo false]) M) →
 (∀ w n v',xC bs=some (w,n)→Rest M v v' (bs.drop n)→Q (.tup [N .u64 (w:Int),v',Bo true]) M)→c [v] M Q
theorem Tg:Tk fun args M Q=>∃ a0,args=[a0]∧zQ a0 M Q:=by
 intro M v bs Q hs hc hN hS
 refine⟨_,rfl, ?_⟩
 unfold zQ
 simp only[ni,yV,uh,uz]
 refine aM (fun m ys M3=>∃ (i u:Nat),m=10 - i∧ys=[N .u64 (u:Int),N .i64 (i:Int)]∧i≤bs.length∧i≤10∧u<2 ^ (7 * i)∧M3=M∧xC bs=pE i u ((bs.take 10).drop i)) _
  ⟨0,0,rfl,rfl,Nat.zero_le _,Nat.zero_le _,by decide,rfl,rfl⟩ ?_
 rintro next m ys M3 hnext ⟨i,u,rfl,rfl,hi,hi10,hu,rfl,hset⟩
 dsimp only[ah]
 rw[aK.len hs,gN]
 refine andM (p:=decide (i<10)) (fun _ K hK=>?_) ?_
 ·rw[gN,show decide ((i:Int)<10)=decide (i<10) by simp; omega]
  exact hK
 refine aS (fun hlt=>?_) (fun hge=>?_)
 ·have hlt:i<bs.length∧i<10:=by simpa using hlt
  obtain⟨b1,o1,_,_,hidx,hcell⟩:=Sl.Om (E:=BY) hs (i:Int) hlt.1
  have hx1:i<(bs.take 10).length:=by rw[List.length_take]; omega
  rw[List.drop_eq_getElem_cons hx1,pE,List.getElem_take] at hset
  rw[hidx,fJ]
  refine⟨_,hcell _ rfl, ?_⟩
  generalize hx:bs[i]=x at *
  have hx256:=Dj x
  rw[nH]
  refine⟨by decide, ?_⟩
  rw[show((x.toNat:Int)).tmod 128=((x.toNat % 128:Nat) : Int) from rfl,bT,wrap_u64,Nat.mod_eq_of_lt (by omega:x.toNat % 128<18446744073709551616),bK]
  refine andM (p:=decide (x.toNat % 128 > 1)) (fun _ K hK=>?_) ?_
  ·rw[gu,show decide (((x.toNat % 128:Nat) : Int) > 1)=decide (x.toNat % 128 > 1) by simp; omega]
   exact hK
  refine aS (fun hbad=>?_) (fun hgood=>?_)
  ·have hbad:i=9∧x.toNat % 128 > 1:=by
    simp only[Bool.and_eq_true,beq_iff_eq,decide_eq_true_eq] at hbad
    omega
   refine hN ?_ 0 _
   rw[hset]
   split
   ·rw[List.drop_eq_nil_of_le (by rw[List.length_take]; omega),pE]
   ·rw[if_pos (.inr ⟨hbad.1,by omega⟩)]
  ·have hgood:¬ (i=9∧x.toNat % 128 > 1):=by
    simp only[Bool.and_eq_false_iff,beq_eq_false_iff_ne,decide_eq_false_iff_not] at hgood
    omega
   obtain⟨b64,bnx⟩:=Xc hu (by omega:x.toNat % 128<128) hlt.2 hgood
   rw[Nat.mod_eq_of_lt (by omega:x.toNat % 128 * 2 ^ (7 * i)<2 ^ 64),← WZ hu,Nat.mod_eq_of_lt b64] at hset
   rw[fo,show(7:Int) * (i:Int)=((7 * i:Nat) : Int) by omega,aL (by omega) (by omega),bT,wrap_u64,Nat.mod_eq_of_lt (by omega:7 * i<18446744073709551616),jd]
   refine⟨by omega, ?_⟩
   rw[LZ rfl _ _ (by show 7 * i≤64; omega)]
   simp only[qw]
   rw[Nat.mod_eq_of_lt (by omega:x.toNat % 128 * 2 ^ (7 * i)<2 ^ 64),bi,show(u:Int) + ((x.toNat % 128 * 2 ^ (7 * i) : Nat) : Int)=((u + x.toNat % 128 * 2 ^ (7 * i) : Nat) : Int) by omega,wrap_u64,Nat.mod_eq_of_lt (by omega:u + x.toNat % 128 * 2 ^ (7 * i)<18446744073709551616)]
   generalize u + x.toNat % 128 * 2 ^ (7 * i)=w at *
   rw[hidx,fJ]
   refine⟨_,hcell _ rfl, ?_⟩
   rw[gN]
   refine aS (fun hsm=>?_) (fun hbig=>?_)
   ·have hsm:x.toNat<128:=by
     have:(x.toNat:Int)<128:=of_decide_eq_true hsm
     omega
    rw[if_neg (by omega)] at hset
    rw[bi,lH (by omega)]
    obtain⟨v',g1,g2,g3,g4⟩:=LC (k:=i + 1) rfl hs hc (by omega)
    rw[g1,jS,hidx,fJ]
    refine⟨_,hcell _ rfl, ?_⟩
    rw[gu]
    refine orK (p:=decide (i=0)) (fun _ K hK=>?_) ?_
    ·rw[bK,show((i:Int) == 0)=decide (i=0) by rw[Bool.eq_iff_iff]; simp]
     exact hK
    by_cases hz:x.toNat=0∧i > 0
    ·rw[show(decide ((x.toNat:Int) > 0) || decide (i=0))=false by simp; omega]
     refine hN ?_ _ _
     rw[hset,if_pos (.inl hz)]
    ·rw[show(decide ((x.toNat:Int) > 0) || decide (i=0))=true by simp; omega]
     exact hS w (i + 1) v' (by rw[hset,if_neg (by omega)]) ⟨g2,g3,g4⟩
   ·have hbig:x.toNat ≥ 128:=by
     have:¬ (x.toNat:Int)<128:=of_decide_eq_false hbig
     omega
    rw[if_pos hbig] at hset
    rw[bi,lH (by omega)]
    exact hnext _ _ _ (by omega) ⟨i + 1,w,rfl,rfl,by omega,by omega,bnx,rfl,hset⟩
 ·refine hN ?_ 0 _
  have hge:¬ (i<bs.length∧i<10):=by
   intro h
   simp[h.1,h.2] at hge
  rw[hset,List.drop_eq_nil_of_le (by rw[List.length_take]; omega),pE]
def IP (c:au) : Prop:=∀ {M:RM} {v:AV} {bs:List UInt8} {most:Nat} {Q:aj},Sl BY M v bs→jh v→most<4294967296 →
 (F5 most bs=none→Q (.tup [N .i64 0,bQ,Bo false]) M) →
 (∀ w r v',F5 most bs=some (w,r)→Rest M v v' r→Q (.tup [N .i64 (w:Int),v',Bo true]) M)→c [v,N .i64 (most:Int)] M Q
theorem Nu {cg:au} (hg:Tk cg) : IP fun args M Q=>∃ a0 a1,args=[a0,a1]∧sZ cg a0 a1 M Q:=by
 intro M v bs most Q hs hc hm hN hS
 refine⟨_,_,rfl, ?_⟩
 unfold sZ
 simp only[ni,yV,uh,uz]
 unfold F5 at hN hS
 refine hg hs hc (fun h0 x v'=>?_) (fun w n v' h1 h2=>?_)
 ·rw[h0] at hN
  rw[bZ,dG,iI,eU,Bool.not_false]
  simp only[gD,lK,dN,bP,dF,fw,gF]
  exact hN rfl
 ·rw[h1] at hN hS
  dsimp only at hN hS
  rw[bZ,dG,iI,eU,Bool.not_true]
  refine Uu (p:=false) (fun _ K hK=>?_) ?_
  ·rw[gN,show decide ((most:Int)<0)=false by simp]
   exact hK
  refine Uu (p:=decide (most<w)) (fun _ K hK=>?_) ?_
  ·rw[bT,wrap_u64,Nat.mod_eq_of_lt (by omega:most<18446744073709551616),gu,show decide ((w:Int) > (most:Int))=decide (most<w) by simp]
   exact hK
  rw[Bool.or_false,Bool.false_or]
  refine aS (fun hgt=>?_) (fun hle=>?_)
  ·rw[if_pos (of_decide_eq_true hgt)] at hN
   exact hN rfl
  ·have hle:¬ most<w:=of_decide_eq_false hle
   rw[if_neg hle] at hS
   rw[bT,aL (by omega) (by omega)]
   exact hS w _ v' rfl h2
end Go.Ab.Bl
namespace Go.Ab.Bl
open Go Go.Ab Go.Ab.aR Go.Ab.Sha
def u6:oV Str where
 size:=1
 rel M cs b S:=∃ v,cs=[v]∧Bs M v b∧∀ x∈ak v,S x
 len h:=by obtain⟨v,rfl,_⟩:=h; rfl
 one h:=by obtain⟨v,rfl,h,_⟩:=h; simp[aK.one h.sl]
 mono h hs:=by obtain⟨v,rfl,h,k⟩:=h; exact⟨v,rfl,h,fun x hx=>hs x (k x hx)⟩
 lt h:=by obtain⟨v,rfl,h,k⟩:=h; exact⟨v,rfl,h,fun x hx=>⟨k x hx,h.lt x hx⟩⟩
 keep h hk hb:=by obtain⟨v,rfl,h,k⟩:=h; exact⟨v,rfl,h.keep hk (fun x hx hm=>hb x hm (k x hx)),k⟩
def cO (n:Nat) (b:Str) : Nat:=(b.length + n - 1) / n
def bq (n:Nat) (b:Str) : List Str:=(List.range (cO n b)).map fun k=>(b.drop (k * n)).take n
theorem dI (n:Nat) (b:Str) : (bq n b).length=cO n b:=by simp[bq]
theorem G7 {n k:Nat} {b:Str} (h:k<(bq n b).length) : (bq n b)[k]=(b.drop (k * n)).take n:=by simp[bq]
theorem kI {n k:Nat} {b:Str} (h:k<cO n b) : (bq n b).take (k + 1)=(bq n b).take k++[(b.drop (k * n)).take n]:=by
 rw[List.take_succ_eq_append_getElem (by rw[dI]; exact h),G7]
theorem fU {n k:Nat} {b:Str} (hn:0<n) : k<cO n b↔k * n<b.length:=by
 unfold cO
 rw[← Nat.succ_le_iff,Nat.le_div_iff_mul_le hn,Nat.succ_mul]
 omega
theorem Vv {M:RM} {v:AV} {b:Str} (h:Bs M v b) : Head v b.length:=by
 obtain⟨hs,hc⟩:=h
 unfold Sl at hs
 generalize hn:b.length=n at *
 generalize BY.row b=cs at *
 cases hs with
 | nil=>exact .nil
 | emp b0=>exact .emp b0
 | slc b0 o _ cap cs hb hl =>
   cases cap with
   | ex c=>exact .ex _ _ _ _ hc
   | op e=>have:e=1:=hc; subst this; exact .op _ _ _
theorem Sb {M:RM} {v:AV} {b:Str} (h:Bs M v b) (hb:0<b.length) : ∃ c o cap,v=.slc c o b.length cap∧c<M.next∧M.loads c o b.length=some (BY.row b):=by
 obtain⟨c,o,cap,rfl,h1,h2⟩:=aK.pos h.sl hb
 exact⟨c,o,cap,rfl,h1,by rw[show b.length=b.length * 1 by omega]; exact h2⟩
theorem VI {M:RM} {v:AV} {b:Str} (h:Bs M v b) {i n:Nat} (hi:i + n≤b.length) (hn:0<n) : Bs M (De v i n) ((b.drop i).take n)∧∀ x∈ak (De v i n),x∈ak v:=by
 obtain⟨c,o,cap,rfl,h1,h2⟩:=Sb h (by omega)
 have hlen:((b.drop i).take n).length=n:=by simp; omega
 refine⟨⟨?_,Nat.le_refl _⟩,fun x hx=>hx⟩
 have h3:=yK (n:=b.length) (by rw[Nat.mul_one]; exact h2) (l:=i) (u:=i + n) (by omega) hi
 rw[Nat.mul_one,Nat.mul_one,show i + n - i=n by omega] at h3
 unfold Sl; rw[hlen]
 exact .slc _ _ _ _ _ h1 (by rw[show n * BY.size=n from Nat.mul_one n]; exact h3)
theorem Tw {M:RM} {w:AV} {d:Str} {n:Nat} {K:AV→Prop} (h:Bs M w d) (hd:d.length=n) (hn:0<n) (hK:K (.agg (BY.row d))) : Mq n w fun t=>dK M t n K:=by
 obtain⟨c,o,cap,rfl,h1,h2⟩:=Sb h (by omega)
 refine⟨c,o,_,cap,rfl,by omega,c,o,_,rfl, ?_,hK⟩
 rw[← hd]; exact h2
theorem Eg {C:FuncId→Prop} {gf b2 b3 n T2 T3:Nat} {M:RM} {v:AV} {b:Str} {round:AV→RM→(RM→Prop)→Prop} {fin:RM→Prop} (hC:C gf) (hn:0<n) (hn1:n<1000000) (hl:b.length<100000000000) (hv:Bs M v b)
  (I:Nat→RM→Prop) (h0:I 0 M) (hI:∀ k M',I k M'→M'.heap b2=some (.row [v] false T2 0)∧M'.heap b3=some (.row [N .i64 (n:Int)] false T3 0)∧Bs M' v b)
  (hr:∀ k M' w,k<cO n b→I k M'→Bs M' w ((b.drop (k * n)).take n)→(∀ x∈ak w,x∈ak v)→round w M' (fun M''=>I (k + 1) M''))
  (hf:∀ M',I (cO n b) M'→fin M') : BS C (.fn (.func gf) [] [.ptr b2 0,.ptr b3 0]) M round fin:=by
 refine⟨gf,b2,0,b3,0,v,b.length,n,fun k M'=>k≤cO n b∧I k M',rfl,hC,hn,by omega,by omega,Vv hv,⟨Nat.zero_le _,h0⟩, ?_, ?_, ?_⟩
 ·rintro k M' ⟨_,h⟩
  obtain⟨h2,h3,_⟩:=hI k M' h
  exact⟨fZ.2 (by rw[RM.FJ h2]; rfl),fZ.2 (by rw[RM.FJ h3]; rfl)⟩
 ·rintro k M' hk ⟨_,h⟩
  have hkn:=(fU hn).2 hk
  have hp:=VI (hI k M' h).2.2 (i:=k * n) (n:=min n (b.length - k * n)) (by omega) (by omega)
  have e:(b.drop (k * n)).take (min n (b.length - k * n))=(b.drop (k * n)).take n:=by
   rw[← List.length_drop,List.take_eq_take_iff]; simp
  rw[e] at hp
  have:=hr k M' _ hkn h hp.1 hp.2
  have e2:(fun M''=>k + 1≤cO n b∧I (k + 1) M'')=fun M''=>I (k + 1) M'':=by funext M''; simp; intro _; omega
  rw[e2]; exact this
 ·rintro k M' hk ⟨hle,h⟩
  have:¬ k<cO n b:=fun h=>by have:=(fU hn).1 h; omega
  have:k=cO n b:=by omega
  subst this
  exact hf M' h
def Gx (gf T2 T3:Nat) (c:au) : Prop:=∀ {M:RM} {v:AV} {b:Str} {n:Nat} {Q:aj},Bs M v b→0<n→n<1000000 →
 (∀ M',aa [] M M'→M'.heap M.next=some (.row [v] false T2 0)→M'.heap (M.next + 1)=some (.row [N .i64 (n:Int)] false T3 0)→M'.next=M.next + 2→Q (.fn (.func gf) [] [.ptr M.next 0,.ptr (M.next + 1) 0]) M')→c [v,N .i64 (n:Int)] M Q
theorem OA {gf T2 T3 TS:Nat} : Gx gf T2 T3 fun args M Q=>∃ a0 a1,args=[a0,a1]∧uk T2 T3 TS gf a0 a1 M Q:=by
 intro M v b n Q hv hn hn1 hQ
 refine⟨_,_,rfl, ?_⟩
 unfold uk
 refine⟨by rw[aK.cells hv.sl]; simp[aK.one hv.sl],by rw[aK.cells hv.sl]; simp, ?_⟩
 rw[aK.cells hv.sl]
 dsimp only
 rw[aN]
 refine⟨rfl,Nat.le_refl 1, ?_⟩
 dsimp only
 rw[aN]
 have k1:aa [] M (M.push (.row [v] false T2 0)):=(aa.refl _ _).push _
 have n1:(M.push (.row [v] false T2 0)).heap M.next=some (.row [v] false T2 0):=RM.bI _
 have x1:(M.push (.row [v] false T2 0)).next=M.next + 1:=rfl
 show fC _ _
 generalize M.push (.row [v] false T2 0)=M1 at *
 have n2:(M1.push (.row [N .i64 (n:Int)] false T3 0)).heap M1.next=some (.row [N .i64 (n:Int)] false T3 0):=RM.bI _
 have k2:aa [] M1 (M1.push (.row [N .i64 (n:Int)] false T3 0)):=(aa.refl _ _).push _
 have n3:=k2.az n1 (by omega) (by simp)
 have x2:(M1.push (.row [N .i64 (n:Int)] false T3 0)).next=M.next + 2:=by rw[dO,x1]
 rw[show(N .i64 (n:Int)).cells=[N .i64 (n:Int)] from rfl]
 unfold fC
 generalize M1.push (.row [N .i64 (n:Int)] false T3 0)=M2 at *
 dsimp only
 rw[aH n2 rfl,gN,show decide ((n:Int)<1)=false by simp; omega,fM,x1]
 rw[x1] at n2
 exact hQ M2 (k1.trans k2) n3 n2 x2
theorem Nl {n:Nat} (hn:n≤100000) {M:RM} {Q:aj} (hQ:Q (N .i64 (((n + 64 - 1) / 64:Nat) : Int)) M) : qj (N .i64 (n:Int)) M Q:=by
 unfold qj
 rw[eT 64 (by omega) (by omega) (by rfl),vU 1 (by omega) (by omega) (by rfl),pK]
 refine⟨by decide, ?_⟩
 have e:((n + 64 - 1:Nat) : Int).tdiv 64=(((n + 64 - 1) / 64:Nat) : Int):=rfl
 rw[e,aL (by omega) (by omega)]
 exact hQ
def ND (c:au) : Prop:=∀ {M:RM} {n:Nat} {Q:aj},n≤100000→Q (N .i64 (((n + 64 - 1) / 64:Nat) : Int)) M→c [N .i64 (n:Int)] M Q
def O6 (T:Nat) (c:au) : Prop:=∀ {M:RM} {r:Nat} {S:Nat→Prop} {bs:List UInt8} {f:Bool} {Q:aj},Aw T S M r bs f→Q (N .i64 (if f then 0 else(bs.length:Int))) M→c [.ptr r 0] M Q
theorem Rk {T:Nat} : O6 T fun args M Q=>∃ a0,args=[a0]∧rF a0 M Q:=by
 intro M r S bs f Q h hQ
 refine⟨_,rfl, ?_⟩
 unfold rF
 obtain⟨v,hr,hs,hc,hS⟩:=h.row
 rw[bF,iW,Nat.zero_add,aH hr rfl]
 cases f with
 | true=>rw[gF]; exact hQ
 | false=>rw[fM,bF,wC,aH hr rfl,aK.len hs]; exact hQ
theorem VY {cs ch:au} (hs:Cr cs) (hh:J8 ch) : uZ fun args M Q=>∃ a0,args=[a0]∧uE cs ch a0 M Q:=by
 intro M v b Q hv hl hQ
 refine⟨_,rfl, ?_⟩
 unfold uE
 refine hs hv hl fun M1 k1=>hh (pO b) fun M2 k2=>hQ M2 (k1.trans k2)
theorem Nk {T:Nat} : Sha.jP T fun args M Q=>∃ a0,args=[a0]∧nk T a0 M Q:=by
 intro M v s Q hv hl hQ
 exact He hv hl hQ
def kw (m:Str) : Option (Nat × List Str):=match F5 4096 m with
 | none=>none
 | some (n,r)=>if r.length=32 * ((n + 64 - 1) / 64) then some (n,(bq 32 r).map kg) else none
theorem PX (m:Str) : (F5 4096 m=none∧∃ r,iR 4096 m false=(0,r,true))∨∃ n r,F5 4096 m=some (n,r)∧iR 4096 m false=(n,r,false)∧n≤4096∧r.length≤m.length∧m.drop (m.length - r.length)=r:=by
 unfold F5 iR
 cases h:xC m with
 | none=>exact .inl ⟨rfl,m,rfl⟩
 | some p =>
   obtain⟨w,n⟩:=p
   have hb:=NS h
   by_cases hw:4096<w
   ·refine .inl ⟨by simp[hw],m,by simp[hw]⟩
   ·refine .inr ⟨w,m.drop n,by simp[hw],by simp[hw],by omega,by simp, ?_⟩
    rw[List.length_drop,show m.length - (m.length - n)=n by omega]
def tC (TS:Nat) (c:au) : Prop:=∀ {M:RM} {v:AV} {m:Str} {Q:aj},Bs M v m→m.length≤140737488355328 →
 (∀ M',aa [] M M'→kw m=none→Q (.tup [N .i64 0,bQ,N .i64 14]) M') →
 (∀ n l lv M',aa [] M M'→kw m=some (n,l)→Ow dU M' M.next TS lv l→Q (.tup [N .i64 (n:Int),lv,N .i64 0]) M')→c [v] M Q
theorem Qp {TR T2 T3 gf TSS TS:Nat} {cr ci ce cl cc ck ch:au} {rc:FuncId→Prop} (hr:Gs TR cr) (hi:UF TR ci) (he:Ui TR ce) (hl:O6 TR cl) (hc:ND cc) (hk:Gx gf T2 T3 ck) (hrc:rc gf) (hh:J8 ch) :
  tC TS fun args M Q=>∃ a0,args=[a0]∧mY cr ci ce cl cc TSS ck rc ch TS a0 M Q:=by
 intro M v m Q hv hml hN hS
 refine⟨_,rfl, ?_⟩
 unfold mY
 simp only[ni,yV,uh,uz]
 refine hr hv.sl (by omega) fun r M1 rd1 hr1 k1=>?_
 refine hi rd1 (by decide) fun M2 rd2 k2 nx2=>?_
 have k12:aa [] M M2:=Ai k1 k2 hr1
 refine he rd2 ?_
 rcases PX m with⟨hsm,rr,hri⟩ | ⟨n,rr,hsm,hri,hn,hrl,hdr⟩
 ·rw[hri] at rd2 ⊢
  dsimp only
  rw[if_pos rfl,cB,show((14:Int) != 0)=true by decide]
  simp only[gD]
  rw[dF,gF]
  exact hN M2 k12 (by unfold kw; rw[hsm])
 ·rw[hri] at rd2 ⊢
  dsimp only at rd2 ⊢
  rw[if_neg (by decide),cB,show((0:Int) != 0)=false by decide]
  simp only[bP]
  refine hl rd2 ?_
  rw[if_neg (by decide)]
  refine hc (by omega) ?_
  rw[fo,show(((n + 64 - 1) / 64:Nat) : Int) * 32=((32 * ((n + 64 - 1) / 64) : Nat) : Int) by omega,aL (by omega) (by omega),cB]
  rw[fw]
  by_cases hlen:rr.length=32 * ((n + 64 - 1) / 64)
  ·rw[show(((rr.length:Nat) : Int) != ((32 * ((n + 64 - 1) / 64) : Nat) : Int))=false by simp; omega,fM,aN]
   have n3:(M2.push (.row [.sc (.slice none 0 0)] false TSS 0)).heap M2.next=some (.row [bQ] false TSS 0):=RM.bI _
   have k3:aa [] M2 (M2.push (.row [.sc (.slice none 0 0)] false TSS 0)):=(aa.refl _ _).push _
   have x3:(M2.push (.row [.sc (.slice none 0 0)] false TSS 0)).next=M2.next + 1:=rfl
   show bA _ _
   generalize M2.push (.row [.sc (.slice none 0 0)] false TSS 0)=M3 at *
   have rd3:=rd2.keep k3 (by simp) (by simp)
   have k13:=k12.trans k3
   have hv3:=hv.keep k13 (by simp)
   rw[hv3.len]
   refine hl rd3 ?_
   rw[if_neg (by decide),gq,show(m.length:Int) - (rr.length:Int)=((m.length - rr.length:Nat) : Int) by omega,aL (by omega) (by omega)]
   refine hv3.sub (l:=m.length - rr.length) (u:=m.length) (qc _ _ _) (LQ _) (by omega) (Nat.le_refl _) fun w hw hwb=>?_
   have e0:(m.drop (m.length - rr.length)).take (m.length - (m.length - rr.length))=rr:=by
    rw[hdr,List.take_of_length_le (by omega)]
   rw[e0] at hw
   refine hk (n:=32) hw (by decide) (by decide) fun M4 k4 n4 n5 x4=>?_
   have hn4:=k13.next
   have hbw:∀ x∈ak w,x<M.next:=fun x hx=>hv.lt x (hwb x hx)
   have Uz:=k12.next
   have hn3:=k3.next
   refine Eg (n:=32) (T2:=T2) (T3:=T3) hrc (by decide) (by decide) (by omega) (hw.keep k4 (by simp)) (fun k M'=>∃ lv,aa [] M M'∧M2.next<M'.next∧M3.next + 1<M'.next∧M'.heap M2.next=some (.row [lv] false TSS 0)∧M'.heap M3.next=some (.row [w] false T2 0)∧M'.heap (M3.next + 1)=some (.row [N .i64 ((32:Nat) : Int)] false T3 0)∧Ow dU M' M.next TS lv (((bq 32 rr).take k).map kg) ∧
    (∀ x∈ak lv,x≠M2.next∧x≠M3.next∧x≠M3.next + 1)∧Bs M' w rr)
    ⟨bQ,k13.trans k4,by omega,by omega,k4.az n3 (by omega) (by simp),n4,n5,.nil,by simp[ak],hw.keep k4 (by simp)⟩ ?_ ?_ ?_
   ·rintro k M' ⟨lv,q1,q2,q3,q4,q5,q6,q7,q8,q9⟩
    exact⟨q5,q6,q9⟩
   ·rintro k M5 w5 hk5 ⟨lv,q1,q2,q3,q4,q5,q6,q7,q8,q9⟩ hw5 hb5
    have hkl:=(fU (n:=32) (b:=rr) (by decide)).1 hk5
    have hd:((rr.drop (k * 32)).take 32).length=32:=by rw[List.length_take,List.length_drop]; omega
    rw[aH q4 rfl]
    refine Tw hw5 hd (by decide) ?_
    refine hh hd fun M6 k6=>?_
    have p4:=k6.az q4 q2 (by simp)
    rw[aH p4 rfl]
    refine⟨rfl, ?_⟩
    rw[iq (x:=St (kg ((rr.drop (k * 32)).take 32))) (size:=1) rfl rfl rfl,yA]
    have hn6:=k6.next
    have hll:(((bq 32 rr).take k).map kg).length≤1000000000:=by
     rw[List.length_map,List.length_take]
     have:(bq 32 rr).length≤1000000000:=by rw[dI]; unfold cO; omega
     omega
    refine iw (E:=dU) (a:=kg ((rr.drop (k * 32)).take 32)) (Own.keep q7 k6 (by simp)) (by have:=q1.next; omega) (by decide) (by omega) (by omega) fun v7 M7 o7 k7 hn7 hv7=>?_
    have p5:M2.next ∉ ak lv:=fun h=>(q8 _ h).1 rfl
    have r4:=k7.az p4 (by omega) p5
    rw[gB [v7] r4 (by simp) (Own.cells o7) (Own.one o7) rfl]
    have k8:aa [M2.next] M7 (M7.put M2.next (.row [v7] false TSS 0)):=(aa.refl _ _).put _ (.inr (by simp))
    have kA:aa (M2.next :: ak lv) M5 (M7.put M2.next (.row [v7] false TSS 0)):=((k6.mono (by simp)).trans (k7.mono (fun x hx=>List.mem_cons_of_mem _ hx))).trans (k8.mono (by simp))
    have hblk:∀ x∈ak v7,x≠M2.next∧x≠M3.next∧x≠M3.next + 1:=by
     intro x hx
     rcases hv7 with rfl | hv7
     ·exact q8 x hx
     ·have:=hv7 x hx; omega
    have hlv:∀ x∈M2.next :: ak lv,M.next≤x∨x∈([] : List Nat):=by
     intro x hx
     rcases List.mem_cons.1 hx with rfl | hx
     ·exact .inl Uz
     ·exact .inl (Own.blk q7 x hx).1
    refine⟨v7,q1.eP kA hlv,by rw[Ag]; omega,by rw[Ag]; omega,aG _, ?_, ?_, ?_,hblk, ?_⟩
    ·exact kA.az q5 (by omega) (by
      intro h
      rcases List.mem_cons.1 h with h | h
      ·omega
      ·exact(q8 _ h).2.1 rfl)
    ·exact kA.az q6 (by omega) (by
      intro h
      rcases List.mem_cons.1 h with h | h
      ·omega
      ·exact(q8 _ h).2.2 rfl)
    ·rw[kI hk5,List.map_append]
     exact Own.keep o7 k8 (fun x hx hm=>by simp at hm; exact(hblk x hx).1 hm)
    ·refine q9.keep kA fun x hx hm=>?_
     have:=hbw x hx
     rcases List.mem_cons.1 hm with h | h
     ·omega
     ·have:=(Own.blk q7 x h).1; omega
   ·rintro M5 ⟨lv,q1,q2,q3,q4,q5,q6,q7,q8,q9⟩
    rw[aH q4 rfl]
    rw[← dI,List.take_length] at q7
    exact hS n _ lv M5 q1 (by unfold kw; rw[hsm]; dsimp only; rw[if_pos hlen]) q7
  ·rw[show(((rr.length:Nat) : Int) != ((32 * ((n + 64 - 1) / 64) : Nat) : Int))=true by simp; omega,gF]
   exact hN M2 k12 (by unfold kw; rw[hsm]; dsimp only; rw[if_neg hlen])
def AJ (b:Str) : Str:=fA b.length++(bq 64 b).flatMap rA
theorem yJ (l:List Str) : (l.flatMap rA).length=32 * l.length:=by
 induction l with
 | nil=>rfl
 | cons x l ih=>rw[List.flatMap_cons,List.length_append,pO,ih,List.length_cons]; omega
theorem aaK {T:Nat} {M:RM} {x z:AV} {K:AV→RM→Prop} (hc:x.cells=[x]) (h1:oneCell x=true) (hK:∀ M',aa [] M M'→M'.heap M.next=some (.row [x] false T 0)→M.next<M'.next→K (.ptr M.next 0) M') :
  aQ (.row [z] false T 0) (fun b=>.ptr b 0) M fun t M1=>aU M1 t x 1 fun M2=>K t M2:=by
 simp only[aN]
 have n1:(M.push (.row [z] false T 0)).heap M.next=some (.row [z] false T 0):=RM.bI _
 rw[gB [x] n1 (by simp) hc h1 rfl]
 exact hK _ (((aa.refl _ _).push _).new _ (Nat.le_refl _)) (aG _) (by simp[RM.push,RM.put])
theorem ZJ {T:Nat} {M:RM} {z:AV} {K:AV→RM→Prop} {l:List AV} (hl:l=[z]) (hK:∀ M',aa [] M M'→M'.heap M.next=some (.row [z] false T 0)→M.next<M'.next→K (.ptr M.next 0) M') :
  aQ (.row l false T 0) (fun b=>.ptr b 0) M fun t M1=>K t M1:=by
 subst hl
 simp only[aN]
 exact hK _ ((aa.refl _ _).push _) (RM.bI _) (by simp[RM.push])
def Qi (T8 TB:Nat) (c:au) : Prop:=∀ {M:RM} {v:AV} {b:Str} {Q:aj},Bs M v b→b.length≤1000000000 →
 (4096<b.length→Q (.tup [St [],bQ,bQ,N .i64 2]) M) →
 (∀ mv lv M' (S:Nat→Prop),b.length≤4096→aa [] M M'→Ow BY M' M.next T8 mv (AJ b)→gU u6 M' M.next TB lv (bq 64 b) S→(∀ x,S x→M.next≤x∧x<M'.next∧x ∉ ak mv∧x ∉ ak lv)→Q (.tup [St (dS (AJ b)),mv,lv,N .i64 0]) M')→c [v] M Q
theorem Uc {T8 TB TU8 T32 T2 T3 gf:Nat} {cu cl ck cs cn:au} {rc:FuncId→Prop} (hu:OY TU8 cu) (hcl:Sha.jP TU8 cl) (hk:Gx gf T2 T3 ck) (hrc:rc gf) (hs:Cr cs) (hn:uZ cn) :
  Qi TU8 T8 fun args M Q=>∃ a0,args=[a0]∧qx cu T8 TB cl ck rc cs T32 TU8 cn a0 M Q:=by
 intro M v b Q hv hbl hE hS
 refine⟨_,rfl, ?_⟩
 unfold qx
 rw[hv.len,gu]
 refine aS (fun hgt=>?_) fun hle=>?_
 ·exact hE (by have:(b.length:Int) > 4096:=of_decide_eq_true hgt; omega)
 have hle:b.length≤4096:=by have:¬ (b.length:Int) > 4096:=of_decide_eq_false hle; omega
 rw[hv.len,bT,bL (by omega) (by omega)]
 refine hu (a0:=bQ) (cs:=[]) (n:=0) (v:=b.length) .nil rfl (by omega) (by omega) fun mv M1 o1 k1=>?_
 rw[List.nil_append,Nat.zero_add] at o1
 have o1:Ow BY M1 M.next TU8 mv (fA b.length):=by
  unfold Ow; rw[show BY.row (fA b.length)=dJ (fA b.length) from kG _]; exact o1
 have hul:(fA b.length).length≤10:=Aa (by omega)
 refine aaK (Own.cells o1) (Own.one o1) fun M2 k2 n2 x2=>?_
 refine ZJ (by rfl) fun M3 k3 n3 x3=>?_
 have hn1:=k1.next
 have hn2:=k2.next
 have hn3:=k3.next
 have k13:=(k1.trans k2).trans k3
 have hv3:=hv.keep k13 (by simp)
 refine hcl hv3.sl (by omega) fun c M4 oc k4=>?_
 have hn4:=k4.next
 have hcb:Bs M4 c b:=Bs.own oc
 have hcB:=fun x hx=>(Own.blk oc x hx)
 refine hk (n:=64) hcb (by decide) (by decide) fun M5 k5 n5 n6 x5=>?_
 have hmb:∀ x∈ak mv,M.next≤x∧x<M1.next:=fun x hx=>Own.blk o1 x hx
 have k25:=(k2.trans k3).trans (k4.trans k5)
 have i2:=(k3.trans (k4.trans k5)).az n2 x2 (by simp)
 have i3:=(k4.trans k5).az n3 x3 (by simp)
 have Yf:∀ k,((bq 64 b).take k).length≤64:=fun k=>by
  rw[List.length_take,dI]; unfold cO; omega
 refine Eg (n:=64) (T2:=T2) (T3:=T3) hrc (by decide) (by decide) (by omega) (hcb.keep k5 (by simp)) (fun k M'=>∃ mv lv S,aa [] M M'∧M5.next≤M'.next∧M'.heap M1.next=some (.row [mv] false T8 0)∧M'.heap M2.next=some (.row [lv] false TB 0) ∧
   M'.heap M4.next=some (.row [c] false T2 0)∧M'.heap (M4.next + 1)=some (.row [N .i64 ((64:Nat) : Int)] false T3 0)∧Bs M' c b ∧
   Ow BY M' M.next TU8 mv (fA b.length++((bq 64 b).take k).flatMap rA)∧gU u6 M' M.next T8 lv ((bq 64 b).take k) S ∧
   (∀ x∈ak mv,x<M1.next∨M5.next≤x)∧(∀ x∈ak lv,M5.next≤x)∧(∀ x,S x→M5.next≤x∧x<M'.next∧x ∉ ak mv∧x ∉ ak lv)∧(∀ x∈ak mv,x ∉ ak lv))
   ⟨mv,bQ,fun _=>False,k13.trans (k4.trans k5),Nat.le_refl _,i2,i3,n5,n6,hcb.keep k5 (by simp),by simpa using Own.keep o1 k25 (by simp),.nil,fun x hx=>.inl (hmb x hx).2,by simp[ak],fun x h=>h.elim,by simp[ak]⟩ ?_ ?_ ?_
 ·rintro k M' ⟨mv,lv,S,q1,q2,q3,q4,q5,q6,q7,_⟩
  exact⟨q5,q6,q7⟩
 ·rintro k M6 w hk6 ⟨mv,lv,S,q1,q2,q3,q4,q5,q6,q7,q8,q9,q10,q11,q12,q13⟩ hw hwb
  have hkl:=(fU (n:=64) (b:=b) (by decide)).1 hk6
  have hdl:((b.drop (k * 64)).take 64).length≤64:=by rw[List.length_take]; omega
  have hct:=Yf k
  rw[aH q4 rfl]
  refine hcl hw.sl (by omega) fun d M7 od k7=>?_
  have hn7:=k7.next
  have j4:=k7.az q4 (by omega) (by simp)
  rw[aH j4 rfl]
  refine⟨rfl, ?_⟩
  rw[iq (x:=d) (size:=1) (by rw[Own.cells od]; rfl) (by rw[Own.cells od]; simp[Own.one od]) rfl,Own.cells od,yA]
  have hS1:∀ x,(S x∨x∈ak d)→M5.next≤x∧x<M7.next:=by
   rintro x (h | h)
   ·have:=q12 x h; omega
   ·have:=Own.blk od x h; omega
  have LF:∀ x∈ak lv,¬ (S x∨x∈ak d):=by
   rintro x hx (h | h)
   ·exact(q12 x h).2.2.2 hx
   ·have:=Own.blk od x h
    have:=q9.blk x hx
    omega
  have q9' : gU u6 M7 M.next T8 lv ((bq 64 b).take k) (fun x=>S x∨x∈ak d):=(q9.keep k7 (by simp) (by simp)).mono (fun x h=>.inl h)
  refine gU.app (R:=u6) (a:=(b.drop (k * 64)).take 64) q9' ⟨d,rfl,Bs.own od,fun x hx=>.inr hx⟩ (by have:=q1.next; omega) (Nat.le_refl 1) LF (fun x hx=>(hS1 x hx).2) (by omega) (by omega) fun lv8 M8 o8 k8 hn8 hl8 hd8=>?_
  have j5:M2.next ∉ ak lv:=fun h=>by have:=q11 _ h; omega
  have m4:=k8.az j4 (by omega) j5
  rw[gB [lv8] m4 (by simp) o8.cells o8.one rfl]
  have k9:aa [M2.next] M8 (M8.put M2.next (.row [lv8] false TB 0)):=(aa.refl _ _).put _ (.inr (by simp))
  have m9:(M8.put M2.next (.row [lv8] false TB 0)).heap M2.next=some (.row [lv8] false TB 0):=aG _
  have x9:(M8.put M2.next (.row [lv8] false TB 0)).next=M8.next:=rfl
  show cs _ (M8.put M2.next (.row [lv8] false TB 0)) _
  generalize M8.put M2.next (.row [lv8] false TB 0)=M9 at *
  have k69:aa (M2.next :: ak lv) M6 M9:=((k7.mono (by simp)).trans (k8.mono (fun x hx=>List.mem_cons_of_mem _ hx))).trans (k9.mono (by simp))
  have hcw:∀ x∈ak w,x ∉ M2.next :: ak lv:=fun x hx hm=>by
   have h1:=hcB x (hwb x hx)
   rcases List.mem_cons.1 hm with h | h
   ·omega
   ·have:=q11 x h; omega
  refine hs (hw.keep k69 hcw) (by omega) fun M10 k10=>?_
  have hsl:=pO ((b.drop (k * 64)).take 64)
  refine Dm (K:=fun t Lt=>_) (z:=BY.row (List.replicate 32 0)) 32 (by rw[eY,List.length_replicate]) (by rw[eY,hsl]) (BY.bX _) fun M11 k11 n11 x11=>?_
  have Zr:=k10.next
  have aaZ:=k11.next
  have Sk:=k10.trans k11
  have Tn:aa (M2.next :: ak lv) M6 M11:=k69.trans (Sk.mono (by simp))
  have p3:=Tn.az q3 (by omega) (fun hm=>by
   rcases List.mem_cons.1 hm with h | h
   ·omega
   ·have:=q11 _ h; omega)
  rw[aH p3 rfl,Fx (by omega),jS]
  have hA:=Bs.arr n11 x11
  rw[hsl] at hA
  have hmv:∀ x∈ak mv,x ∉ M2.next :: ak lv:=fun x hx hm=>by
   rcases List.mem_cons.1 hm with h | h
   ·have:=q10 x hx; omega
   ·exact q13 x hx h
  have Pv:∀ x∈ak mv,M.next≤x∧x<M6.next:=fun x hx=>Own.blk q8 x hx
  have hfl:=yJ ((bq 64 b).take k)
  refine pI (E:=BY) (Own.keep q8 Tn hmv) (by have:=q1.next; omega) (by decide) hA.sl (by rw[List.length_append,hfl,hsl]; omega) (by rw[List.length_append,hfl,hsl]; omega) fun BR M12 o12 k12 Uz yQ=>?_
  have p3':=k12.az p3 (by omega) (fun h=>by
   have:=q10 _ h; omega)
  rw[gB [BR] p3' (by simp) (Own.cells o12) (Own.one o12) rfl]
  have PU:aa [M1.next] M12 (M12.put M1.next (.row [BR] false T8 0)):=(aa.refl _ _).put _ (.inr (by simp))
  have m13:(M12.put M1.next (.row [BR] false T8 0)).heap M1.next=some (.row [BR] false T8 0):=aG _
  have x13:(M12.put M1.next (.row [BR] false T8 0)).next=M12.next:=rfl
  generalize M12.put M1.next (.row [BR] false T8 0)=M13 at *
  have ZU:=o8.blk
  have hS8:∀ x,(S x∨x∈ak d)→x ∉ ak mv:=by
   rintro x (h | h) hm
   ·exact(q12 x h).2.2.1 hm
   ·have:=Own.blk od x h; have:=Pv x hm; omega
  have Xw:∀ x∈ak lv8,M5.next≤x:=by
   intro x hx
   rcases hl8 with rfl | hl8
   ·exact q11 x hx
   ·have:=hl8 x hx; omega
  have X5:∀ x∈ak lv8,x ∉ ak mv:=by
   intro x hx hm
   rcases hl8 with rfl | hl8
   ·exact q13 x hm hx
   ·have:=hl8 x hx; have:=Pv x hm; omega
  have Xk:∀ x∈ak BR,x<M1.next∨M5.next≤x:=by
   intro x hx
   rcases yQ with rfl | yQ
   ·exact q10 x hx
   ·have:=yQ x hx; omega
  have kT:aa (M2.next :: M1.next :: ak mv) M8 M13:=((k9.mono (by simp)).trans (Sk.mono (by simp))).trans ((k12.mono (fun x hx=>List.mem_cons_of_mem _ (List.mem_cons_of_mem _ hx))).trans (PU.mono (by simp)))
  have kA:aa (M2.next :: M1.next :: (ak lv++ak mv)) M6 M13:=(Tn.mono (fun x hx=>by
    rcases List.mem_cons.1 hx with rfl | hx
    ·exact List.mem_cons_self ..
    ·exact List.mem_cons_of_mem _ (List.mem_cons_of_mem _ (List.mem_append_left _ hx)))).trans ((k12.mono (fun x hx=>List.mem_cons_of_mem _ (List.mem_cons_of_mem _ (List.mem_append_right _ hx)))).trans (PU.mono (by simp)))
  have out:∀ x,M3.next≤x→x<M5.next→x ∉ M2.next :: M1.next :: (ak lv++ak mv):=by
   intro x h1 h2 hm
   rcases List.mem_cons.1 hm with h | hm
   ·omega
   rcases List.mem_cons.1 hm with h | hm
   ·omega
   rcases List.mem_append.1 hm with h | h
   ·have:=q11 x h; omega
   ·have:=q10 x h; omega
  refine⟨BR,lv8,fun x=>S x∨x∈ak d,q1.eP kA ?_,by omega,m13, ?_,kA.az q5 (by omega) (out _ (by omega) (by omega)),kA.az q6 (by omega) (out _ (by omega) (by omega)),q7.keep kA (fun x hx=>out x (hcB x hx).1 (by have:=hcB x hx; omega)), ?_, ?_,Xk,Xw, ?_, ?_⟩
  ·intro x hm
   rcases List.mem_cons.1 hm with h | hm
   ·exact .inl (by omega)
   rcases List.mem_cons.1 hm with h | hm
   ·exact .inl (by omega)
   rcases List.mem_append.1 hm with h | h
   ·exact .inl (by have:=q11 x h; omega)
   ·exact .inl (Pv x h).1
  ·refine(k12.mono (cs:=M1.next :: ak mv) (fun x hx=>List.mem_cons_of_mem _ hx)).trans (PU.mono (by simp)) |>.az (Sk.az m9 (by omega) (by simp)) (by omega) (fun hm=>?_)
   rcases List.mem_cons.1 hm with h | h
   ·omega
   ·have:=q10 _ h; omega
  ·rw[kI hk6,List.flatMap_append,← List.append_assoc,List.flatMap_cons,List.flatMap_nil,List.append_nil]
   refine Own.keep o12 PU (fun x hx hm=>?_)
   simp at hm
   have:=Xk x hx; omega
  ·rw[kI hk6]
   refine o8.keep kT (fun x hx hs=>?_) (fun x hx hm=>?_)
   ·have:=hS1 x hs
    rcases List.mem_cons.1 hx with h | hx
    ·omega
    rcases List.mem_cons.1 hx with h | hx
    ·omega
    ·exact hS8 x hs hx
   ·have:=Xw x hx
    rcases List.mem_cons.1 hm with h | hm
    ·omega
    rcases List.mem_cons.1 hm with h | hm
    ·omega
    ·exact X5 x hx hm
  ·intro x hx
   have:=hS1 x hx
   refine⟨this.1,by omega,fun hm=>?_,fun hm=>hd8 x hm hx⟩
   rcases yQ with rfl | yQ
   ·exact hS8 x hx hm
   ·have:=yQ x hm; omega
  ·intro x hx hm
   have:=ZU x hm
   rcases yQ with rfl | yQ
   ·exact X5 x hm hx
   ·have:=yQ x hx; omega
 ·rintro M6 ⟨mv,lv,S,q1,q2,q3,q4,q5,q6,q7,q8,q9,q10,q11,q12,q13⟩
  rw[← dI,List.take_length] at q8 q9
  rw[aH q3 rfl,aH q3 rfl,aH q4 rfl]
  have hml:(AJ b).length≤100000:=by
   unfold AJ
   rw[List.length_append,yJ,dI]; unfold cO; omega
  refine hn (Bs.own q8) (by show(AJ b).length≤_; omega) fun M7 k7=>?_
  rw[aH (k7.az q3 (by omega) (by simp)) rfl]
  refine⟨rfl, ?_⟩
  rw[aH (k7.az q4 (by omega) (by simp)) rfl]
  refine⟨rfl,hS mv lv M7 S hle (q1.trans k7) (Own.keep q8 k7 (by simp)) (q9.keep k7 (by simp) (by simp)) fun x hx=>?_⟩
  have h12:=q12 x hx
  have:=k7.next
  exact⟨by omega,by omega,h12.2.2.1,h12.2.2.2⟩
def sH (TB:Nat) (c:au) : Prop:=∀ {M:RM} {v:AV} {b:Str} {Q:aj},Bs M v b→b.length≤1000000000 →
 (∀ lv M',aa [] M M'→gU u6 M' M.next TB lv (bq 64 b) (fun x=>x∈ak v)→Q lv M')→c [v] M Q
theorem IK {TB:Nat} : sH TB fun args M Q=>∃ a0,args=[a0]∧pU TB a0 M Q:=by
 intro M v b Q hv hbl hQ
 refine⟨_,rfl, ?_⟩
 unfold pU
 refine Sha.Dt ?_
 show aQ _ _ _ _
 rw[aN]
 have k0:aa [] M (M.push (.row [] false TB 0)):=(aa.refl _ _).push _
 have EX:=hv.lt
 have o0:gU u6 (M.push (.row [] false TB 0)) M.next TB (.slc M.next 0 0 (.ex 0)) [] (fun x=>x∈ak v):=⟨[],Own.lit M (Nat.le_refl _),.nil⟩
 refine aM (fun m ys M3=>∃ (k:Nat) (pv lv:AV),m=b.length - k * 64∧ys=[pv,lv]∧aa [] M M3∧Bs M3 pv (b.drop (k * 64))∧(∀ x∈ak pv,x∈ak v)∧gU u6 M3 M.next TB lv ((bq 64 b).take k) (fun x=>x∈ak v)∧k * 64≤b.length∧(0<k→k * 64<b.length)) _
  ⟨0,v,_,rfl,rfl,k0,by simpa using hv.keep k0 (by simp),fun x h=>h,by simpa using o0,by omega,fun h=>by omega⟩ ?_
 rintro next m ys M3 hnext ⟨k,pv,lv,rfl,rfl,k3,hp,hpb,o3,hk1,hk2⟩
 simp only[aI,dH]
 have hdl:(b.drop (k * 64)).length=b.length - k * 64:=List.length_drop ..
 rw[hp.len,show(64:Int)=((64:Nat) : Int) from rfl,Si]
 have hn3:=k3.next
 have LF:∀ x∈ak lv,¬ x∈ak v:=fun x hx h=>by have:=(o3.blk x hx).1; have:=EX x h; omega
 have htl:((bq 64 b).take k).length≤100000000:=by rw[List.length_take,dI]; unfold cO; omega
 refine aS (fun hc=>?_) fun hc=>?_
 ·have hc:(b.drop (k * 64)).length > 64:=of_decide_eq_true hc
  refine hp.sub (l:=0) (u:=64) (LQ _) (qc _ _ _) (by omega) (by omega) fun w hw hwb=>?_
  rw[List.drop_zero,Nat.sub_zero] at hw
  rw[iq (x:=w) (size:=1) (by rw[aK.cells hw.sl]; rfl) (by rw[aK.cells hw.sl]; simp[aK.one hw.sl]) rfl,aK.cells hw.sl,aN]
  refine gU.app (R:=u6) (a:=(b.drop (k * 64)).take 64) o3 ⟨w,rfl,hw,fun x hx=>hpb x (hwb x hx)⟩ hn3 (Nat.le_refl 1) LF (fun x hx=>by have:=EX x hx; omega) (by omega) (by omega) fun lv4 M4 o4 k4 hn4 hl4 hd4=>?_
  have k4' : aa [] M M4:=aa.own k3 k4 (fun x hx=>(o3.blk x hx).1)
  have hp4:=hp.keep k4 (fun x hx hm=>LF x hm (hpb x hx))
  refine hp4.sub (l:=64) (u:=(b.drop (k * 64)).length) (qc _ _ _) (LQ _) (by omega) (Nat.le_refl _) fun w2 hw2 ZK=>?_
  rw[List.take_of_length_le (by rw[List.length_drop]; omega),List.drop_drop,show k * 64 + 64=(k + 1) * 64 by omega] at hw2
  refine hnext _ _ _ (by omega) ⟨k + 1,w2,lv4,rfl,rfl,k4',hw2,fun x hx=>hpb x (ZK x hx), ?_,by omega,fun _=>by omega⟩
  rw[kI ((fU (by decide)).2 (by omega))]
  exact o4
 ·have hc:¬ (b.drop (k * 64)).length > 64:=of_decide_eq_false hc
  unfold fC
  dsimp only
  rw[hp.len,show(0:Int)=((0:Nat) : Int) from rfl,Si]
  simp only[aI]
  refine aS (fun hd=>?_) fun hd=>?_
  ·have hd:(b.drop (k * 64)).length > 0:=of_decide_eq_true hd
   rw[iq (x:=pv) (size:=1) (by rw[aK.cells hp.sl]; rfl) (by rw[aK.cells hp.sl]; simp[aK.one hp.sl]) rfl,aK.cells hp.sl,aN]
   refine gU.app (R:=u6) (a:=b.drop (k * 64)) o3 ⟨pv,rfl,hp,hpb⟩ hn3 (Nat.le_refl 1) LF (fun x hx=>by have:=EX x hx; omega) (by omega) (by omega) fun lv4 M4 o4 k4 hn4 hl4 hd4=>?_
   refine hQ lv4 M4 (aa.own k3 k4 (fun x hx=>(o3.blk x hx).1)) ?_
   have hk:k<cO 64 b:=(fU (by decide)).2 (by omega)
   have hk' : k + 1=cO 64 b:=by
    have:¬ k + 1<cO 64 b:=fun h=>by have:=(fU (by decide)).1 h; omega
    omega
   have:=kI hk
   rw[hk',← dI,List.take_length] at this
   rw[this,List.take_of_length_le (l:=b.drop (k * 64)) (by omega)]
   exact o4
  ·have hd:¬ (b.drop (k * 64)).length > 0:=of_decide_eq_false hd
   have hk' : ¬ k<cO 64 b:=fun h=>by have:=(fU (by decide)).1 h; omega
   rw[List.take_of_length_le (by rw[dI]; omega)] at o3
   exact hQ lv M3 k3 o3
structure Nw (n0:Nat) (M:RM) (v:AV) (b:Str) : Prop where
 bs:Bs M v b
 new:∀ x∈ak v,n0≤x
theorem WI {T base:Nat} {M:RM} {v:AV} {b:Str} (h:vB T M base v b) : Nw base M v b:=by
 refine⟨⟨h.sl, ?_⟩, ?_⟩
 ·rcases h with h | ⟨c,rfl,_⟩
  ·exact NT h
  ·exact Nat.le_refl _
 ·rcases h with h | ⟨c,rfl,h1,_⟩
  ·exact fun x hx=>(Own.blk h x hx).1
  ·simpa [ak] using h1
theorem Wh {T base:Nat} {M:RM} {v u:AV} {L L' : List UInt8} {zs:List AV} {K:aj} (h:vB T M base v L) (hb:base≤M.next) (hu:Sl BY M u L') (hl:L.length + L'.length≤1000000000) (h0:0<L'.length)
  (hK:∀ v' M',vB T M' base v' (L++L')→aa (ak v) M M'→(∀ d∈ak v,base≤d)→(v'=v∨∀ d∈ak v',M.next≤d)→K v' M') : appW T 1 1 zs false v u M K:=by
 have hcs:BY.row L'=dJ L':=kG L'
 have hu' : aK M 1 u (dJ L') L'.length:=by rw[← hcs]; exact hu
 rcases h with h | ⟨b,rfl,h1,h2,h3⟩
 ·refine sO h hb (Nat.le_refl _) (hu'.mE _) (by simp) (lY _) (by omega) (by omega) ?_
  intro v' M' o k _ q
  refine hK v' M' (.inl ?_) k (fun d hd=>(h.blk d hd).1) q
  rw[mV,List.length_append]; exact o
 ·refine⟨L'.length,dJ L',hu'.mE _,by omega,by omega, ?_⟩
  have hld:M.loads b 0 (L.length * 1)=some (dJ L):=by
   rw[RM.ig h3 (by simp),Nat.mul_one,List.drop_zero,List.take_of_length_le (by simp)]
  refine⟨.slc M.next 0 (L.length + L'.length) (.op 1),M.push (.row (dJ L++dJ L') true T 0), ?_,hK _ _ (.inl ?_) ((aa.refl _ _).push _) (by simp[ak]; exact h1) (.inr (by simp[ak]))⟩
  ·have hone:(dJ L++dJ L').all oneCell=true:=by rw[List.all_append,lY,lY]; rfl
   simp only[rE,if_neg (show ¬ L'.length=0 by omega),if_neg (show ¬ L.length + L'.length≤L.length by omega),hld]
   rw[if_pos ⟨by omega,by omega,hone⟩]
  ·rw[List.length_append,mV]
   exact .op _ _ _ hb (by simp[RM.push]) (RM.bI _) (by simp)
def uf (c:au) : Prop:=∀ {M:RM} {v:AV} {b:Str} {Q:aj},Bs M v b→b.length≤100000 →
 (∀ mv M',aa [] M M'→Nw M.next M' mv (AJ b)→Q mv M')→c [v] M Q
def KT (T:Nat) (c:au) : Prop:=∀ v,v<2 ^ 64→zK T v c
theorem EZ {T8 TB T32:Nat} {cu cc cs:au} (hu:KT T8 cu) (hc:sH TB cc) (hs:Cr cs) : uf fun args M Q=>∃ a0,args=[a0]∧nz cu cc cs T32 T8 a0 M Q:=by
 intro M v b Q hv hbl hQ
 refine⟨_,rfl, ?_⟩
 unfold nz
 rw[hv.len,bT,bL (by omega) (by omega)]
 refine hu b.length (by omega) fun mv M1 o1 k1=>?_
 refine hc (hv.keep k1 (by simp)) (by omega) fun lv M2 k2 o2=>?_
 have hul:(fA b.length).length≤10:=Aa (by omega)
 have EX:=hv.lt
 have hn1:=k1.next
 have hn2:=k2.next
 have hcl:(bq 64 b).length≤10000:=by rw[dI]; unfold cO; omega
 refine aM (fun m ys M3=>∃ (i:Nat) (mv:AV),m=(bq 64 b).length - i∧ys=[mv,N .i64 (i:Int)]∧i≤(bq 64 b).length∧aa [] M M3∧M2.next≤M3.next∧vB T8 M3 M.next mv (fA b.length++((bq 64 b).take i).flatMap rA)∧gU u6 M3 M1.next TB lv (bq 64 b) (fun x=>x∈ak v)∧(∀ x∈ak mv,x<M1.next∨M2.next≤x)) _
  ⟨0,mv,rfl,rfl,Nat.zero_le _,k1.trans k2,Nat.le_refl _,by simpa using o1.keep k2,o2,fun x hx=>.inl (by
   have:=aK.lt o1.sl x hx; omega)⟩ ?_
 rintro next m ys M3 hnext ⟨i,mv,rfl,rfl,hi,k3,hn3,o3,p3,hmb⟩
 simp only[aI,dH]
 rw[p3.len,jQ]
 have hsd:jI u6 M3 lv (bq 64 b) (fun x=>x∈ak v∨M1.next≤x):=(p3.mono (fun x h=>.inl h)).Q9 (fun x h _=>.inr h)
 refine aS (fun hlt=>?_) fun hge=>?_
 ·have hlt:i<(bq 64 b).length:=of_decide_eq_true hlt
  obtain⟨c,o,cs',hcn,hcb,hidx,hld,w,rfl,hw,hwb⟩:=hsd.at (i:=i) 1 (i:Int) hlt
  rw[hidx,fJ]
  refine⟨w,fZ.1 hld, ?_⟩
  refine hs hw (by rw[G7 hlt,List.length_take]; omega) fun M4 k4=>?_
  have hsl:=pO ((bq 64 b)[i])
  refine Dm (K:=fun t Lt=>_) (z:=BY.row (List.replicate 32 0)) 32 (by rw[eY,List.length_replicate]) (by rw[eY,hsl]) (BY.bX _) fun M5 k5 n5 x5=>?_
  rw[Fx (by omega),jS]
  have hA:=Bs.arr n5 x5
  rw[hsl] at hA
  have k45:=k4.trans k5
  have hn45:=k45.next
  have hfl:=yJ ((bq 64 b).take i)
  have htl:((bq 64 b).take i).length≤10000:=by rw[List.length_take]; omega
  refine Wh (o3.keep k45) (by omega) hA.sl (by rw[List.length_append,hfl,hsl]; omega) (by rw[hsl]; decide) fun mv6 M6 o6 k6 hb6 hv6=>?_
  rw[show(1:Int)=((1:Nat) : Int) from rfl,addN (by omega)]
  have hn6:=k6.next
  have k36:aa (ak mv) M3 M6:=(k45.mono (by simp)).trans k6
  refine hnext _ _ _ (by omega) ⟨i + 1,mv6,rfl,rfl,hlt,k3.eP k36 (fun x hx=>.inl (hb6 x hx)),by omega, ?_, ?_, ?_⟩
  ·rw[List.take_succ_eq_append_getElem hlt,List.flatMap_append,← List.append_assoc]
   simpa using o6
  ·refine p3.keep k36 (fun x hx h=>?_) (fun x hx hm=>?_)
   ·have:=hb6 x hx; have:=EX x h; omega
   ·have:=p3.blk x hx
    have:=hmb x hm
    have:=o2.blk x hx
    omega
  ·intro x hx
   rcases hv6 with rfl | hv6
   ·exact hmb x hx
   ·have:=hv6 x hx; omega
 ·have:i=(bq 64 b).length:=by have:¬ i<(bq 64 b).length:=of_decide_eq_false hge; omega
  subst this
  rw[List.take_length] at o3
  exact hQ mv M3 k3 (WI o3)
def BL (TS:Nat) (c:au) : Prop:=∀ {M:RM} {v:AV} {m:Str} {Q:aj},Bs M v m→m.length≤140737488355328 →
 (kw m=none→Q (.tup [N .i64 0,bQ,Bo false]) M) →
 (∀ n l lv M',aa [] M M'→kw m=some (n,l)→Ow dU M' M.next TS lv l→Q (.tup [N .i64 (n:Int),lv,Bo true]) M')→c [v] M Q
theorem JM {TS:Nat} {cs ch:au} (hs:IP cs) (hh:JY ch) : BL TS fun args M Q=>∃ a0,args=[a0]∧rD cs TS ch a0 M Q:=by
 intro M v m Q hv hml hN hS
 refine⟨_,rfl, ?_⟩
 unfold rD
 simp only[ni,yV,uh,uz]
 refine hs (most:=4096) hv.sl (Zw hv.cap) (by decide) (fun h0=>?_) (fun n r v' h1 h2=>?_)
 ·rw[bZ,dG,iI,eU,Bool.not_false]
  simp only[gD]
  rw[dF,gF]
  exact hN (by unfold kw; rw[h0])
 ·rw[bZ,dG,iI,eU,Bool.not_true]
  simp only[bP]
  have hn:n≤4096∧r.length≤m.length:=by
   unfold F5 at h1
   split at h1
   ·rename_i w k hb
    split at h1
    ·cases h1
    ·cases h1; exact⟨by omega,by simp⟩
   ·cases h1
  have hr:Bs M v' r:=⟨h2.sl,Yo h2.cap⟩
  rw[hr.len,eT 64 (by omega) (by omega) (by rfl),vU 1 (by omega) (by omega) (by rfl),pK]
  refine⟨by decide, ?_⟩
  have e:((n + 64 - 1:Nat) : Int).tdiv 64=(((n + 64 - 1) / 64:Nat) : Int):=rfl
  rw[e,aL (by omega) (by omega),fo,show(32:Int) * (((n + 64 - 1) / 64:Nat) : Int)=((32 * ((n + 64 - 1) / 64) : Nat) : Int) by omega,aL (by omega) (by omega),cB,fw]
  by_cases hlen:r.length=32 * ((n + 64 - 1) / 64)
  ·rw[show(((r.length:Nat) : Int) != ((32 * ((n + 64 - 1) / 64) : Nat) : Int))=false by simp; omega,fM]
   refine Sha.Dt ?_
   show aQ _ _ _ _
   rw[aN]
   have k0:aa [] M (M.push (.row [] false TS 0)):=(aa.refl _ _).push _
   have o0:Ow dU (M.push (.row [] false TS 0)) M.next TS (.slc M.next 0 0 (.ex 0)) []:=Ow.lit dU M
   refine aM (fun mm ys M3=>∃ (k:Nat) (lv:AV),mm=r.length - k * 32∧ys=[lv,N .i64 ((k * 32:Nat) : Int)]∧aa [] M M3∧Ow dU M3 M.next TS lv (((bq 32 r).take k).map kg)∧k * 32≤r.length) _
    ⟨0,_,rfl,rfl,k0,by simpa using o0,by omega⟩ ?_
   rintro next mm ys M3 hnext ⟨k,lv,rfl,rfl,k3,o3,hk⟩
   simp only[aI,dH]
   have hr3:=hr.keep k3 (by simp)
   have hn3:=k3.next
   rw[hr3.len,jQ]
   refine aS (fun hc=>?_) fun hc=>?_
   ·have hc:k * 32<r.length:=of_decide_eq_true hc
    have hk2:k * 32 + 32≤r.length:=by omega
    rw[eT 32 (by omega) (by omega) (by rfl)]
    refine hr3.sub (l:=k * 32) (u:=k * 32 + 32) (qc _ _ _) (qc _ _ _) (by omega) hk2 fun w hw hwb=>?_
    rw[show k * 32 + 32 - k * 32=32 by omega] at hw
    refine hh hw (by rw[List.length_take]; omega) fun M4 k4=>?_
    rw[iq (x:=St (kg ((r.drop (k * 32)).take 32))) (size:=1) rfl rfl rfl,aN]
    have hll:(((bq 32 r).take k).map kg).length≤1000000000:=by
     rw[List.length_map,List.length_take]
     have:(bq 32 r).length≤1000000000:=by rw[dI]; unfold cO; omega
     omega
    have hn4:=k4.next
    refine iw (E:=dU) (a:=kg ((r.drop (k * 32)).take 32)) (Own.keep o3 k4 (by simp)) (by omega) (by decide) (by omega) (by omega) fun v5 M5 o5 k5 hn5 hv5=>?_
    rw[eT 32 (by omega) (by omega) (by rfl),show k * 32 + 32=(k + 1) * 32 by omega]
    refine hnext _ _ _ (by omega) ⟨k + 1,v5,rfl,rfl,aa.own (k3.trans k4) k5 (fun x hx=>(Own.blk o3 x hx).1), ?_,by omega⟩
    rw[kI ((fU (by decide)).2 hc),List.map_append]
    exact o5
   ·have hc:¬ k * 32<r.length:=of_decide_eq_false hc
    have hk' : ¬ k<cO 32 r:=fun h=>by have:=(fU (by decide)).1 h; omega
    rw[List.take_of_length_le (by rw[dI]; omega)] at o3
    exact hS n _ lv M3 k3 (by unfold kw; rw[h1]; dsimp only; rw[if_pos hlen]) o3
  ·rw[show(((r.length:Nat) : Int) != ((32 * ((n + 64 - 1) / 64) : Nat) : Int))=true by simp; omega,gF]
   exact hN (by unfold kw; rw[h1]; dsimp only; rw[if_neg hlen])
def KG (c:au) : Prop:=∀ {M:RM} {v w:AV} {x y:List Str} {Q:aj},Sl dU M v x→Sl dU M w y→x.length≤1000000000→y.length≤1000000000→Q (Bo (decide (x=y))) M→c [v,w] M Q
theorem oI {M:RM} {v:AV} {x:List Str} {i:Nat} {K:AV→Prop} (h:Sl dU M v x) (hi:i<x.length) (hK:K (St x[i])) : aZ v (N .i64 (i:Int)) 1 fun t=>ag M t K:=by
 obtain⟨b,o,_,_,hidx,hld⟩:=Sl.at h 1 (i:Int) hi
 rw[hidx,fJ]
 exact⟨_,fZ.1 hld,hK⟩
theorem Pf:KG fun args M Q=>∃ a0 a1,args=[a0,a1]∧qX a0 a1 M Q:=by
 intro M v w x y Q hx hy hxl hyl hQ
 refine⟨_,_,rfl, ?_⟩
 unfold qX
 rw[aK.len hx,aK.len hy,cB]
 by_cases hl:x.length=y.length
 ·rw[show(((x.length:Nat) : Int) != ((y.length:Nat) : Int))=false by simp[hl],fM]
  refine aM (fun m ys M3=>∃ i:Nat,m=x.length - i∧ys=[N .i64 (i:Int)]∧i≤x.length∧M3=M∧x.take i=y.take i) _ ⟨0,rfl,rfl,Nat.zero_le _,rfl,rfl⟩ ?_
  rintro next m ys M3 hnext ⟨i,rfl,rfl,hi,rfl,he⟩
  simp only[aI,dH]
  rw[aK.len hx,jQ]
  refine aS (fun hc=>?_) fun hc=>?_
  ·have hc:i<x.length:=of_decide_eq_true hc
   refine oI hx hc (oI hy (by omega) ?_)
   rw[pz]
   by_cases hq:x[i]=y[i]'(by omega)
   ·rw[show(x[i] != y[i]'(by omega))=false by simp[hq],fM,show(1:Int)=((1:Nat) : Int) from rfl,addN (by omega)]
    refine hnext _ _ _ (by omega) ⟨i + 1,rfl,rfl,hc,rfl, ?_⟩
    rw[List.take_succ_eq_append_getElem hc,List.take_succ_eq_append_getElem (by omega),he,hq]
   ·rw[show(x[i] != y[i]'(by omega))=true by simp[hq],gF]
    rw[show decide (x=y)=false by simp; intro h; subst h; exact hq rfl] at hQ
    exact hQ
  ·have hc:¬ i<x.length:=of_decide_eq_false hc
   rw[List.take_of_length_le (by omega),List.take_of_length_le (by omega)] at he
   rw[he,decide_eq_true rfl] at hQ
   exact hQ
 ·rw[show(((x.length:Nat) : Int) != ((y.length:Nat) : Int))=true by simp; omega,gF]
  rw[show decide (x=y)=false by simp; intro h; subst h; exact hl rfl] at hQ
  exact hQ
def HV (c:au) : Prop:=∀ {M:RM} {v:AV} {m:Str} {Q:aj},Bs M v m→m.length≤140737488355328→(∀ M',aa [] M M'→Q (Bo true) M')→c [v] M Q
theorem Oi {m:Str} {n:Nat} {l:List Str} (h:kw m=some (n,l)) : l.length≤1000000000∧n≤4096:=by
 unfold kw at h
 split at h
 ·cases h
 ·rename_i n' r h1
  have hn:n'≤4096:=by
   unfold F5 at h1
   split at h1
   ·split at h1
    ·cases h1
    ·cases h1; omega
   ·cases h1
  split at h
  ·rename_i hl
   cases h
   rw[List.length_map,dI]; unfold cO
   omega
  ·cases h
theorem MQ {TS:Nat} {c1 c2 ct:au} (h1:tC TS c1) (h2:BL TS c2) (ht:KG ct) : HV fun args M Q=>∃ a0,args=[a0]∧ru c1 c2 ct a0 M Q:=by
 intro M v m Q hv hml hQ
 refine⟨_,rfl, ?_⟩
 unfold ru
 simp only[ni,yV,uh,uz]
 refine h1 hv hml (fun M1 k1 hn=>?_) (fun n l lv M1 k1 hn o1=>?_)
 ·rw[bZ,dG,iI]
  refine h2 (hv.keep k1 (by simp)) hml (fun _=>?_) (fun n l lv M2 k2 hn'=>by rw[hn] at hn'; cases hn')
  rw[bZ,dG,iI,eU,Bool.not_false,gF,bK,show((14:Int) == 14)=true by decide]
  simp only[dN]
  rw[bK,show((0:Int) == 0)=true by decide,dF]
  simp only[dN]
  rw[aK.len (M:=M1) (cs:=[]) (size:=1) .nil,bK,dF]
  exact hQ M1 k1
 ·rw[bZ,dG,iI]
  refine h2 (hv.keep k1 (by simp)) hml (fun hn'=>by rw[hn] at hn'; cases hn') (fun n' l' lv' M2 k2 hn' o2=>?_)
  rw[hn] at hn'
  cases hn'
  have hb:=Oi hn
  rw[bZ,dG,iI,eU,Bool.not_true,fM,bK,show((0:Int) == 0)=true by decide]
  simp only[dN]
  rw[bK,show(((n:Nat) : Int) == (n:Int))=true by simp,dF]
  simp only[dN]
  refine ht (aK.keep (Own.kY o1) k2 (by simp)) (Own.kY o2) hb.1 hb.1 ?_
  rw[dF,decide_eq_true rfl]
  exact hQ M2 (k1.trans k2)
abbrev eF:=Str × AV × Nat
def eQ (t:eF) : AV × AV × Nat:=(St t.1,t.2.1,t.2.2)
theorem sP (s:Str) : ∀ (T:List eF) (i:Nat),((∀ t∈T,t.1≠s)∧jv false [2] [St s] (T.map eQ) i=some none) ∨
  ∃ j t,T[j]?=some t∧t.1=s∧jv false [2] [St s] (T.map eQ) i=some (some (i + j,t.2.1))
 | [],i=>.inl ⟨by simp,rfl⟩
 | t :: T,i=>by
   simp only[List.map_cons,eQ,jv,eG]
   rw[if_pos (by rfl),Ha]
   by_cases hs:s=t.1
   ·rw[if_pos hs,Gp]
    exact .inr ⟨0,t,rfl,hs.symm,rfl⟩
   ·rw[if_neg hs]
    rcases sP s T (i + 1) with⟨h1,h2⟩ | ⟨j,t',h1,h2,h3⟩
    ·refine .inl ⟨fun x hx=>?_,h2⟩
     rcases List.mem_cons.1 hx with rfl | hx
     ·exact fun e=>hs e.symm
     ·exact h1 x hx
    ·exact .inr ⟨j + 1,t',h1,h2,by rw[h3,show i + 1 + j=i + (j + 1) by omega]⟩
structure Wf (cl:Nat) (T:List eF) : Prop where
 nodup:(T.map (·.1)).Nodup
 up:T.Pairwise fun a b=>a.2.2<b.2.2
 lt:∀ t∈T,t.2.2<cl
theorem Wf.nil {cl:Nat} : Wf cl []:=⟨.nil,.nil,by simp⟩
theorem Wf.snoc {cl:Nat} {T:List eF} (h:Wf cl T) {s:Str} {v:AV} (hs:∀ t∈T,t.1≠s) : Wf (cl + 1) (T++[(s,v,cl)]):=by
 refine⟨?_, ?_, ?_⟩
 ·rw[List.map_append,List.nodup_append]
  refine⟨h.nodup,by simp, ?_⟩
  intro a ha b hb e
  obtain⟨t,ht,rfl⟩:=List.mem_map.1 ha
  simp at hb
  exact hs t ht (by rw[e,hb])
 ·rw[List.pairwise_append]
  refine⟨h.up,by simp,fun a ha b hb=>?_⟩
  simp at hb; subst hb
  exact h.lt a ha
 ·intro t ht
  rcases List.mem_append.1 ht with ht | ht
  ·have:=h.lt t ht; omega
  ·simp at ht; subst ht; exact Nat.lt_succ_self _
theorem Wf.filter {cl:Nat} {T:List eF} (h:Wf cl T) (p:eF→Bool) : Wf cl (T.filter p) :=
 ⟨h.nodup.sublist (List.Sublist.map _ (List.filter_sublist ..)),h.up.sublist (List.filter_sublist ..),fun t ht=>h.lt t ((List.mem_filter.1 ht).1)⟩
theorem Wf.same {cl:Nat} {T:List eF} (h:Wf cl T) {t t' : eF} (ht:t∈T) (ht' : t'∈T) (e:t.1=t'.1) : t=t':=by
 obtain⟨i,hi,rfl⟩:=List.getElem_of_mem ht
 obtain⟨j,hj,rfl⟩:=List.getElem_of_mem ht'
 have h1:(T.map (·.1))[i]'(by simpa using hi)=(T.map (·.1))[j]'(by simpa using hj):=by simpa using e
 have:=(List.getElem_inj h.nodup).1 h1
 subst this; rfl
structure oN (TS:Nat) (M:RM) (sb:Nat) (T:List eF) (f:Str→Option Str) (W:Nat→Prop) : Prop where
 lt:∀ x,W x→x<M.next
 own:W sb
 map:∃ mb cl,W mb∧mb≠sb∧M.heap sb=some (.row [.map mb] false TS 0)∧M.heap mb=some (.map (T.map eQ) cl)∧Wf cl T∧(∀ t∈T,∀ x∈ak t.2.1,x≠mb∧x≠sb)
 val:∀ t∈T,∃ b,f t.1=some b∧Bs M t.2.1 b∧b.length≤1000000∧∀ x∈ak t.2.1,W x
 dom:∀ s b,f s=some b→∃ t∈T,t.1=s
 nm:∀ t∈T,t.1.length=64
def mh (TS:Nat) (M:RM) (sb:Nat) (f:Str→Option Str) (W:Nat→Prop) (n:Nat) : Prop:=∃ T,oN TS M sb T f W∧T.length≤n
section
variable {TS sb:Nat} {M M' : RM} {T:List eF} {f:Str→Option Str} {W:Nat→Prop} {ks:List Nat}
theorem oN.keep (h:oN TS M sb T f W) (hk:aa ks M M') (hd:∀ x∈ks,¬ W x) : oN TS M' sb T f W where
 lt x hx:=Nat.lt_of_lt_of_le (h.lt x hx) hk.next
 own:=h.own
 map:=by
  obtain⟨mb,cl,h1,h2,h3,h4,h5,h6⟩:=h.map
  exact⟨mb,cl,h1,h2,hk.az h3 (h.lt _ h.own) (fun hm=>hd _ hm h.own),hk.az h4 (h.lt _ h1) (fun hm=>hd _ hm h1),h5,h6⟩
 val t ht:=by
  obtain⟨b,h1,h2,h3,h4⟩:=h.val t ht
  exact⟨b,h1,h2.keep hk (fun x hx hm=>hd x hm (h4 x hx)),h3,h4⟩
 dom:=h.dom
 nm:=h.nm
theorem mh.keep {n:Nat} (h:mh TS M sb f W n) (hk:aa ks M M') (hd:∀ x∈ks,¬ W x) : mh TS M' sb f W n:=let ⟨T,h,hn⟩:=h; ⟨T,h.keep hk hd,hn⟩
theorem oN.absent (h:oN TS M sb T f W) {s:Str} (hs:∀ t∈T,t.1≠s) : f s=none:=by
 cases he:f s with
 | none=>rfl
 | some b=>obtain⟨t,ht,e⟩:=h.dom s b he; exact absurd e (hs t ht)
theorem oN.look (h:oN TS M sb T f W) {s:Str} {ok:Bool} {K:AV→Prop} (h1:f s=none→K (gI bQ false ok)) (h2:∀ v b,f s=some b→Bs M v b→b.length≤1000000→(∀ x∈ak v,W x)→K (gI v true ok)) :
  ek (.ptr sb 0) fun t=>fe t 0 fun a=>ag M a fun m=>iC false [2] (.sc (.slice none 0 0)) ok M m (St s) K:=by
 obtain⟨mb,cl,g1,g2,g3,g4,g5,g6⟩:=h.map
 rw[bF,iW,Nat.zero_add,aH g3 rfl]
 rcases sP s T 0 with⟨a1,a2⟩ | ⟨j,t,a1,a2,a3⟩
 ·exact⟨mb,_,cl,[St s],none,rfl,g4,rfl,rfl,a2,h1 (h.absent a1)⟩
 ·have ht:t∈T:=List.mem_of_getElem? a1
  obtain⟨b,q1,q2,q3,q4⟩:=h.val t ht
  rw[a2] at q1
  exact⟨mb,_,cl,[St s],_,rfl,g4,rfl,rfl,a3,h2 _ b q1 q2 q3 q4⟩
end
def CZ (TS:Nat) (c:au) : Prop:=∀ {M:RM} {Q:aj},(∀ sb M' W,aa [] M M'→mh TS M' sb (fun _=>none) W 0→(∀ x,W x→M.next≤x)→Q (.ptr sb 0) M')→c [] M Q
theorem EJ {TS:Nat} : CZ TS fun args M Q=>args=[]∧wE TS M Q:=by
 intro M Q hQ
 refine⟨rfl, ?_⟩
 unfold wE
 rw[aN,jm]
 refine⟨[.map M.next],by simp[lc,known,AV.cells,oneCell], ?_⟩
 refine⟨rfl,Nat.le_refl 1, ?_⟩
 dsimp only
 rw[aN]
 have k1:aa [] M (M.push (.map [] 0)):=(aa.refl _ _).push _
 have n1:(M.push (.map [] 0)).heap M.next=some (.map [] 0):=RM.bI _
 have x1:(M.push (.map [] 0)).next=M.next + 1:=rfl
 generalize M.push (.map [] 0)=M1 at *
 have k2:aa [] M1 (M1.push (.row (AV.agg [AV.map M.next]).cells false TS 0)):=(aa.refl _ _).push _
 have n2:(M1.push (.row (AV.agg [AV.map M.next]).cells false TS 0)).heap M1.next=some (.row [.map M.next] false TS 0):=RM.bI _
 have x2:(M1.push (.row (AV.agg [AV.map M.next]).cells false TS 0)).next=M1.next + 1:=rfl
 generalize M1.push (.row (AV.agg [AV.map M.next]).cells false TS 0)=M2 at *
 refine hQ M1.next M2 (fun x=>x=M.next∨x=M1.next) (k1.trans k2) ⟨[],⟨fun x hx=>by rcases hx with rfl | rfl <;> omega,.inr rfl,⟨M.next,0,.inl rfl,by omega,n2,k2.az n1 (by omega) (by simp),.nil,by simp⟩,by simp,fun s b h=>(by cases h),by simp⟩,Nat.le_refl _⟩ (fun x hx=>by rcases hx with rfl | rfl <;> omega)
def LK (TS:Nat) (c:au) : Prop:=∀ {M:RM} {sb:Nat} {f:Str→Option Str} {W:Nat→Prop} {n:Nat} {s:Str} {Q:aj},mh TS M sb f W n→Q (Bo (f s).isSome) M→c [.ptr sb 0,St s] M Q
theorem UB {TS:Nat} : LK TS fun args M Q=>∃ a0 a1,args=[a0,a1]∧mD a0 a1 M Q:=by
 rintro M sb f W n s Q ⟨T,h,hTn⟩ hQ
 refine⟨_,_,rfl, ?_⟩
 unfold mD
 refine h.look (fun h0=>?_) fun v b h0 _ _ _=>?_
 ·simp only[gI,if_true]
  rw[bZ,dG]; rw[h0] at hQ; exact hQ
 ·simp only[gI,if_true]
  rw[bZ,dG]; rw[h0] at hQ; exact hQ
def Ox (TS TU:Nat) (c:au) : Prop:=∀ {M:RM} {sb:Nat} {f:Str→Option Str} {W:Nat→Prop} {n:Nat} {s:Str} {Q:aj},mh TS M sb f W n →
 (f s=none→Q (.tup [bQ,Bo false]) M)→(∀ v b M',f s=some b→b.length≤1000000→aa [] M M'→Ow BY M' M.next TU v b→Q (.tup [v,Bo true]) M')→c [.ptr sb 0,St s] M Q
def IB (c:au) : Prop:=∀ {M:RM} {Q:aj},Q bQ M→c [bQ] M Q
theorem Mv {T:Nat} : IB fun args M Q=>∃ a0,args=[a0]∧nk T a0 M Q:=by
 intro M Q hQ
 refine⟨_,rfl, ?_⟩
 unfold nk
 rcases aK.uV (M:=M) (size:=1) (cs:=[]) (n:=0) (v:=bQ) .nil false with⟨_,he⟩ | ⟨hne,he⟩
 ·rw[he,show(!false)=true from rfl,gF]; exact hQ
 ·exact absurd rfl hne
theorem QJ {TS TU:Nat} {cc:au} (hc:Sha.jP TU cc) (hc0:IB cc) : Ox TS TU fun args M Q=>∃ a0 a1,args=[a0,a1]∧mo cc a0 a1 M Q:=by
 rintro M sb f W n s Q ⟨T,h,hTn⟩ h1 h2
 refine⟨_,_,rfl, ?_⟩
 unfold mo
 refine h.look (fun h0=>?_) fun v b h0 hb hl hw=>?_
 ·simp only[gI,if_true]
  rw[bZ,dG]
  exact hc0 (h1 h0)
 ·simp only[gI,if_true]
  rw[bZ,dG]
  exact hc hb.sl (by omega) fun v' M' o k=>h2 v' b M' h0 hl k o
def rC (f:Str→Option Str) (b:Str) : Str→Option Str:=fun s=>if s=dS b∧f (dS b)=none then some b else f s
def Sj (TS:Nat) (c:au) : Prop:=∀ {M:RM} {sb:Nat} {f:Str→Option Str} {W:Nat→Prop} {n:Nat} {v:AV} {b:Str} {Q:aj},mh TS M sb f W n→Bs M v b→b.length≤1000000 →
 (∀ M' W' ks,mh TS M' sb (rC f b) W' (n + 1)→aa ks M M'→(∀ x∈ks,W x)→(∀ x,W' x→W x∨M.next≤x)→(∀ x,W x→W' x)→Q (St (dS b)) M')→c [.ptr sb 0,v] M Q
theorem Ur {TS TU:Nat} {cn ch cc:au} (hn:uZ cn) (hh:LK TS ch) (hc:Sha.jP TU cc) : Sj TS fun args M Q=>∃ a0 a1,args=[a0,a1]∧mi cn ch cc a0 a1 M Q:=by
 rintro M sb f W n v b Q ⟨T,h,hTn⟩ hv hl hQ
 refine⟨_,_,rfl, ?_⟩
 unfold mi
 refine hn hv (by omega) fun M1 k1=>?_
 have h1:=h.keep k1 (by simp)
 unfold fC
 refine hh ⟨T,h1,hTn⟩ ?_
 rw[eU]
 cases hf:f (dS b) with
 | some b0 =>
   rw[show(!(some b0).isSome)=false from rfl,fM]
   have e:rC f b=f:=by funext s; unfold rC; rw[hf]; simp
   exact hQ M1 W [] ⟨T,by rw[e]; exact h1,by omega⟩ k1 (by simp) (fun x hx=>.inl hx) fun x hx=>hx
 | none =>
   rw[show(!(none:Option Str).isSome)=true from rfl,gF]
   obtain⟨mb,cl,g1,g2,g3,g4,g5,g6⟩:=h1.map
   rw[bF,iW,Nat.zero_add,aH g3 rfl]
   refine hc (hv.keep k1 (by simp)).sl (by omega) fun w M2 o2 k2=>?_
   have h2:=h1.keep k2 (by simp)
   obtain⟨mb',cl',g1',g2',g3',g4',g5',g6'⟩:=h2.map
   have p3:=k2.az g3 (h1.lt _ h1.own) (by simp)
   have p4:=k2.az g4 (h1.lt _ g1) (by simp)
   rw[aH p3 rfl]
   refine⟨rfl, ?_⟩
   have hno:∀ t∈T,t.1≠dS b:=fun t ht e=>by
    obtain⟨b1,q1,_⟩:=h1.val t ht
    rw[e,hf] at q1; cases q1
   rcases sP (dS b) T 0 with⟨a1,a2⟩ | ⟨j,t,a1,a2,a3⟩
   ·refine⟨mb,_,cl,[St (dS b)],none,rfl,p4,rfl,rfl,a2, ?_⟩
    have k3:aa [mb] M2 (M2.put mb (zR (T.map eQ) cl (St (dS b)) w none)):=(aa.refl _ _).put _ (.inr (by simp))
    have n3:(M2.put mb (zR (T.map eQ) cl (St (dS b)) w none)).heap mb=some (.map ((T++[(dS b,w,cl)]).map eQ) (cl + 1)):=by
     rw[aG]; simp[zR,eQ]
    have x3:(M2.put mb (zR (T.map eQ) cl (St (dS b)) w none)).next=M2.next:=rfl
    show Q _ (M2.put mb (zR (T.map eQ) cl (St (dS b)) w none))
    generalize M2.put mb (zR (T.map eQ) cl (St (dS b)) w none)=M3 at *
    have hwb:∀ x∈ak w,M1.next≤x∧x<M2.next:=fun x hx=>Own.blk o2 x hx
    have hn1:=k1.next
    have hn2:=k2.next
    refine hQ M3 (fun x=>W x∨x∈ak w) [mb] ⟨T++[(dS b,w,cl)], ?_,by simp; omega⟩ ((k1.trans k2).mono (by simp) |>.trans k3) (by simpa using g1) (fun x hx=>hx.elim .inl fun h=>.inr (by have:=hwb x h; omega)) fun x hx=>.inl hx
    refine⟨fun x hx=>?_,.inl h.own,⟨mb,cl + 1,.inl g1,g2,k3.az p3 (by have:=h1.lt _ h1.own; omega) (by simpa using g2.symm),n3,g5.snoc a1,fun t ht x hx=>?_⟩,fun t ht=>?_,fun s b' hs=>?_,fun t ht=>?_⟩
    ·rcases hx with hx | hx
     ·have:=h.lt x hx; omega
     ·have:=hwb x hx; omega
    ·rcases List.mem_append.1 ht with ht | ht
     ·exact g6 t ht x hx
     ·simp at ht; subst ht
      have:=hwb x hx
      have:=h1.lt _ g1
      have:=h1.lt _ h1.own
      omega
    ·rcases List.mem_append.1 ht with ht | ht
     ·obtain⟨b1,q1,q2,q3,q4⟩:=h2.val t ht
      refine⟨b1, ?_,q2.keep k3 (fun x hx hm=>by simp at hm; subst hm; exact(g6 t ht _ hx).1 rfl),q3,fun x hx=>.inl (q4 x hx)⟩
      unfold rC; rw[if_neg (fun hc=>hno t ht hc.1)]; exact q1
     ·simp at ht; subst ht
      refine⟨b,by unfold rC; rw[if_pos ⟨rfl,hf⟩],(Bs.own o2).keep k3 (fun x hx hm=>?_),hl,fun x hx=>.inr hx⟩
      simp at hm
      have:=hwb x hx; have:=h1.lt _ g1; omega
    ·unfold rC at hs
     by_cases hc:s=dS b∧f (dS b)=none
     ·exact⟨_,List.mem_append_right _ (List.mem_singleton.2 rfl),hc.1.symm⟩
     ·rw[if_neg hc] at hs
      obtain⟨t,ht,e⟩:=h2.dom s b' hs
      exact⟨t,List.mem_append_left _ ht,e⟩
    ·rcases List.mem_append.1 ht with ht | ht
     ·exact h.nm t ht
     ·simp at ht; subst ht; exact Cy b
   ·exact absurd a2 (hno t (List.mem_of_getElem? a1))
end Go.Ab.Bl
namespace Go.Ab.Dk
open Go Go.Ab
def vL (f:(List AV→RM→Prop)→Prop) (g:List AV→RM→Prop) : Prop:=f g
theorem gz (f:(List AV→RM→Prop)→Prop) (g:List AV→RM→Prop) : fC f g=vL f g:=rfl
theorem fV {H:(List AV→RM→Prop)→Prop} {G:List AV→RM→Prop} (P:List AV→RM→Prop) (hT:∀ xs M,P xs M→G xs M)
  (hH:∀ J:List AV→RM→Prop,(∀ xs M,P xs M→J xs M)→H J) : vL H G:=hH G hT
section
variable {i j:Nat} {K:AV→Prop}
theorem addN (h:i + j<4611686018427387904) : ae .add (N .i64 (i:Int)) (N .i64 (j:Int)) K=K (N .i64 ((i + j:Nat) : Int)):=by
 rw[bi,aL (by omega) (by omega),Int.natCast_add]
theorem O1 (h:j≤i) (hb:i<4611686018427387904) : ae .sub (N .i64 (i:Int)) (N .i64 (j:Int)) K=K (N .i64 ((i - j:Nat) : Int)):=by
 rw[gq,aL (by omega) (by omega),show(i:Int) - (j:Int)=((i - j:Nat) : Int) by omega]
theorem jQ:ae .lss (N .i64 (i:Int)) (N .i64 (j:Int)) K=K (Bo (decide (i<j))):=by rw[gN,show decide ((i:Int)<(j:Int))=decide (i<j) by simp]
end
section
variable {M:RM} {c p:Bool} {f:aj→Prop} {P:RM→Prop} {G:AV→RM→Prop}
end
abbrev Nm:=List UInt8
abbrev Dir:=List (Nm × Nat)
def KJ:Dir→Nm→Option Nat
 | [],_=>none
 | e :: l,n=>if n=e.1 then some e.2 else KJ l n
def TY:Dir→Nm→Dir
 | [],_=>[]
 | e :: l,n=>if n=e.1 then l else e :: TY l n
def UC:Dir→Nm→Nat→Dir
 | [],n,f=>[(n,f)]
 | e :: l,n,f=>if n=e.1 then(n,f) :: l else e :: UC l n f
abbrev UI:=Nm × Option Nat × Nm
abbrev Ec:=List UInt8 × Nat
structure KD where
 files:List Ec
 dir:Dir
 Zt:Dir
 chg:List UI
 YB:Int
 app:Int
 syn:Int deriving DecidableEq
inductive Tag where
 | disk | names | safe | chg | file (i:Nat) | bytes (i:Nat) deriving DecidableEq
abbrev ja:=Nat→Option Tag
def upd (own:ja) (b:Nat) (t:Tag) : ja:=fun c=>if c=b then some t else own c
theorem LP {own:ja} {b:Nat} {t:Tag} : upd own b t b=some t:=by simp[upd]
theorem upd_ne {own:ja} {b c:Nat} {t:Tag} (h:c≠b) : upd own b t c=own c:=by simp[upd,h]
def jA (fbs:List Nat) (cl:Nat) : Nat→List (AV × AV × Nat)→Dir→Prop
 | _,[],[]=>True
 | lo,e :: es,d :: ds=>e.1=St d.1∧(∃ b,fbs[d.2]?=some b∧e.2.1=.ptr b 0)∧lo≤e.2.2∧e.2.2<cl∧jA fbs cl (e.2.2 + 1) es ds
 | _,_,_=>False
variable {fbs gbs:List Nat} {cl lo:Nat} {es:List (AV × AV × Nat)} {d:Dir}
theorem jA.len:∀ {es:List (AV × AV × Nat)} {d:Dir} {lo:Nat},jA fbs cl lo es d→es.length=d.length
 | [],[],_,_=>rfl
 | _ :: es,_ :: d,_,h=>by simp only[List.length_cons]; rw[h.2.2.2.2.len]
theorem jA.grow (hg:∀ i b:Nat,fbs[i]?=some b→gbs[i]?=some b) {cl' : Nat} (hc:cl≤cl') : ∀ {es:List (AV × AV × Nat)} {d:Dir} {lo lo' : Nat},lo'≤lo→jA fbs cl lo es d→jA gbs cl' lo' es d
 | [],[],_,_,_,_=>trivial
 | _ :: es,_ :: d,_,_,hl,⟨h1,⟨b,h2,h3⟩,h4,h5,h6⟩=>⟨h1,⟨b,hg _ _ h2,h3⟩,Nat.le_trans hl h4,Nat.lt_of_lt_of_le h5 hc,h6.grow hg hc (Nat.le_refl _)⟩
theorem Jc (s:Nm) : ∀ {es:List (AV × AV × Nat)} {d:Dir} {lo:Nat} (i:Nat),jA fbs cl lo es d →
  (jv false [2] [St s] es i=some none∧KJ d s=none) ∨
  ∃ j f b,jv false [2] [St s] es i=some (some (i + j,.ptr b 0))∧KJ d s=some f∧fbs[f]?=some b∧jA fbs cl lo (es.eraseIdx j) (TY d s) ∧
    ∀ g c,fbs[g]?=some c→jA fbs cl lo (BM (St s) (.ptr c 0) es j) (UC d s g)
 | [],[],_,i,_=>.inl ⟨rfl,rfl⟩
 | (k,v,n) :: es,(s',f) :: d,lo,i,⟨h1,⟨b,h2,h3⟩,h4,h5,h6⟩=>by
   simp only at h1 h2 h3 h4 h5 h6
   subst h1 h3
   simp only[jv,eG,KJ,TY,UC]
   rw[if_pos (by rfl),Ha]
   by_cases hs:s=s'
   ·subst hs
    simp only[if_true,Gp]
    refine .inr ⟨0,f,b,rfl,rfl,h2, ?_, ?_⟩
    ·exact h6.grow (fun _ _ h=>h) (Nat.le_refl _) (by omega)
    ·intro g c hg
     exact⟨rfl,⟨c,hg,rfl⟩,h4,h5,h6⟩
   ·simp only[if_neg hs]
    rcases Jc s (i + 1) h6 with⟨a1,a2⟩ | ⟨j,f',b',a1,a2,a3,a4,a5⟩
    ·exact .inl ⟨a1,a2⟩
    ·refine .inr ⟨j + 1,f',b', ?_,a2,a3, ?_, ?_⟩
     ·rw[a1]; congr 3; omega
     ·exact⟨rfl,⟨b,h2,rfl⟩,h4,h5,a4⟩
     ·intro g c hg
      exact⟨rfl,⟨b,h2,rfl⟩,h4,h5,a5 g c hg⟩
structure MapAt (own:ja) (M:RM) (fbs:List Nat) (m:Nat) (d:Dir) (t:Tag) : Prop where
 tg:own m=some t
 lt:m<M.next
 heap:∃ es cl,M.heap m=some (.map es cl)∧jA fbs cl 0 es d
inductive FB (M:RM) (TU:Nat) : AV→List UInt8→Prop
 | nil:FB M TU bQ []
 | op (b:Nat) (xs:List UInt8) : b<M.next→M.heap b=some (.row (BY.row xs) true TU 0)→FB M TU (.slc b 0 xs.length (.op 1)) xs
 | ex (b o n:Nat) (xs:List UInt8) : b<M.next→M.loads b o n=some (BY.row xs)→xs.length=n→FB M TU (.slc b o n (.ex n)) xs
structure qC (TF TU:Nat) (own:ja) (M:RM) (fbs:List Nat) (i b:Nat) (v:AV) (f:Ec) : Prop where
 at_:fbs[i]?=some b
 lt:b<M.next
 tg:own b=some (.file i)
 heap:M.heap b=some (.row [v,N .i64 (f.2:Int)] false TF 0)
 fb:FB M TU v f.1
 le:f.2≤f.1.length
 blk:∀ c∈ak v,own c=some (.bytes i)
structure sN (TF TU:Nat) (own:ja) (M:RM) (fbs:List Nat) (fs:List Ec) : Prop where
 len:fbs.length=fs.length
 file:∀ i f,fs[i]?=some f→∃ b v,qC TF TU own M fbs i b v f
def CHG:Enc (Nm × Option Nat × Nm):=⟨3,fun c=>[St c.1,(match c.2.1 with | some b=>.ptr b 0 | none=>.sc (.pointer none)),St c.2.2],fun _=>rfl,fun c=>by obtain⟨a,_ | b,g⟩:=c <;> rfl⟩
def chB (fbs:List Nat) (c:UI) : Nm × Option Nat × Nm:=(c.1,c.2.1.bind (fbs[·]?),c.2.2)
structure Dl (TC:Nat) (own:ja) (M:RM) (fbs:List Nat) (v:AV) (cs:List UI) : Prop where
 ow:Ow CHG M 0 TC v (cs.map (chB fbs))
 blk:∀ b∈ak v,own b=some .chg
 wf:∀ c∈cs,∀ f,c.2.1=some f→f<fbs.length
variable {own own' : ja} {M M' : RM} {bs:List Nat} {m:Nat} {t:Tag}
theorem MapAt.step (h:MapAt own M fbs m d t) (hk:aa bs M M') (hb:∀ b∈bs,own b≠some t) (ho:∀ b,own b=some t→own' b=some t) : MapAt own' M' fbs m d t :=
 ⟨ho _ h.tg,Nat.lt_of_lt_of_le h.lt hk.next,let ⟨es,cl,h1,h2⟩:=h.heap; ⟨es,cl,hk.az h1 h.lt (fun hm=>hb _ hm h.tg),h2⟩⟩
theorem FB.keep {TU:Nat} {v:AV} {xs:List UInt8} (h:FB M TU v xs) (hk:aa bs M M') (hb:∀ b∈ak v,b ∉ bs) : FB M' TU v xs:=by
 cases h with
 | nil=>exact .nil
 | op b xs hl hh=>exact .op b xs (Nat.lt_of_lt_of_le hl hk.next) (hk.az hh hl (hb b (by simp[ak])))
 | ex b o n xs hl hh h2=>exact .ex b o n xs (Nat.lt_of_lt_of_le hl hk.next) ((hk.loads hl (hb b (by simp[ak]))).trans hh) h2
theorem FB.sl {TU:Nat} {v:AV} {xs:List UInt8} (h:FB M TU v xs) : Sl BY M v xs:=by
 cases h with
 | nil=>exact .nil
 | op b xs hl hh=>exact Rw.sl ⟨hh,hl⟩
 | ex b o n xs hl hh h2 =>
   subst h2
   refine .slc _ _ _ _ _ hl ?_
   show M.loads b o (xs.length * 1)=_
   rw[Nat.mul_one,hh]
theorem FB.one {TU:Nat} {v:AV} {xs:List UInt8} (h:FB M TU v xs) : oneCell v=true∧v.cells=[v]∧known v=true:=by
 cases h <;> exact⟨rfl,rfl,rfl⟩
section
variable {TF TU i b:Nat} {v:AV} {f:Ec} {fs:List Ec}
theorem qC.step (h:qC TF TU own M fbs i b v f) (hk:aa bs M M') (hb:∀ b∈bs,own b≠some (.file i)∧own b≠some (.bytes i)) (ho:∀ b,own b=some (.file i)∨own b=some (.bytes i)→own' b=own b) : qC TF TU own' M' fbs i b v f :=
 ⟨h.at_,Nat.lt_of_lt_of_le h.lt hk.next,by rw[ho _ (.inl h.tg),h.tg],hk.az h.heap h.lt (fun hm=>(hb _ hm).1 h.tg),h.fb.keep hk (fun c hc hm=>(hb _ hm).2 (h.blk c hc)),h.le,
  fun c hc=>by rw[ho _ (.inr (h.blk c hc)),h.blk c hc]⟩
theorem sN.step (h:sN TF TU own M fbs fs) (hk:aa bs M M') (hb:∀ b∈bs,∀ i,own b≠some (.file i)∧own b≠some (.bytes i)) (ho:∀ b i,own b=some (.file i)∨own b=some (.bytes i)→own' b=own b) : sN TF TU own' M' fbs fs :=
 ⟨h.len,fun i f hf=>let ⟨b,v,h1⟩:=h.file i f hf; ⟨b,v,h1.step hk (fun b hm=>hb b hm i) (fun b=>ho b i)⟩⟩
theorem sN.at (h:sN TF TU own M fbs fs) {i b:Nat} (hb:fbs[i]?=some b) : ∃ f v,fs[i]?=some f∧qC TF TU own M fbs i b v f:=by
 have hi:i<fs.length:=by rw[← h.len]; exact(List.getElem?_eq_some_iff.1 hb).1
 obtain⟨b',v,h1⟩:=h.file i fs[i] (List.getElem?_eq_getElem hi)
 have:b'=b:=by have:=h1.at_; rw[hb] at this; cases this; rfl
 subst this
 exact⟨_,v,List.getElem?_eq_getElem hi,h1⟩
end
section
variable {TC:Nat} {v:AV} {cs:List UI}
theorem Dl.step (h:Dl TC own M fbs v cs) (hk:aa bs M M') (hb:∀ b∈bs,own b≠some .chg) (ho:∀ b,own b=some .chg→own' b=some .chg) : Dl TC own' M' fbs v cs :=
 ⟨Own.keep h.ow hk (fun b hm hm2=>hb b hm2 (h.blk b hm)),fun b hm=>ho b (h.blk b hm),h.wf⟩
theorem Dl.nil:Dl TC own M fbs bQ []:=⟨.nil,by simp[ak],by simp⟩
end
structure Ho (TD TF TU TC:Nat) (own:ja) (M:RM) (db:Nat) (s:KD) (fbs:List Nat) (nm sm:Nat) (cv:AV) : Prop where
 lt:∀ b,own b≠none→b<M.next
 od:own db=some .disk
 row:M.heap db=some (.row [N .i64 s.YB,.map nm,.map sm,cv,N .i64 s.app,N .i64 s.syn] false TD 0)
 names:MapAt own M fbs nm s.dir .names
 safe:MapAt own M fbs sm s.Zt .safe
 chg:Dl TC own M fbs cv s.chg
 files:sN TF TU own M fbs s.files
def QV (TD TF TU TC:Nat) (own:ja) (M:RM) (db:Nat) (s:KD) : Prop:=∃ fbs nm sm cv,Ho TD TF TU TC own M db s fbs nm sm cv
def Tr (own:ja) (M:RM) (own' : ja) (M' : RM) : Prop:=∃ bs,aa bs M M'∧(∀ b∈bs,own b≠none)∧∀ b,b<M.next→own b=none→own' b=none
theorem Tr.refl (own:ja) (M:RM) : Tr own M own M:=⟨[],aa.refl _ _,by simp,fun _ _ h=>h⟩
theorem Tr.keep (hk:aa [] M M') : Tr own M own M':=⟨[],hk,by simp,fun _ _ h=>h⟩
theorem Tr.next (h:Tr own M own' M') : M.next≤M'.next:=let ⟨_,h1,_⟩:=h; h1.next
theorem Tr.base (h:Tr own M own' M') : M'.base=M.base:=let ⟨_,h1,_⟩:=h; h1.base
section
variable {TD TF TU TC db:Nat} {s:KD} {nm sm:Nat} {cv:AV}
theorem Ho.keep (h:Ho TD TF TU TC own M db s fbs nm sm cv) (hk:aa [] M M') : Ho TD TF TU TC own M' db s fbs nm sm cv :=
 ⟨fun b hb=>Nat.lt_of_lt_of_le (h.lt b hb) hk.next,h.od,hk.az h.row (h.lt _ (by rw[h.od]; simp)) (by simp),h.names.step hk (by simp) (fun _ h=>h),h.safe.step hk (by simp) (fun _ h=>h),
  h.chg.step hk (by simp) (fun _ h=>h),h.files.step hk (by simp) (fun _ _ _=>rfl)⟩
end
end Go.Ab.Dk
set_option maxRecDepth 100000
namespace Go.Ab.Dk
open Go Go.Ab
def AQ (p1:Nat) (a0:AV) (M0:RM) (Q:aj) : Prop:=ae .lss a0 (N .i64 0) fun l=>aA l ( Q (.tup [(.sc (.pointer none)),(N .i64 1)]) M0) ( aQ (.map [] 0) (fun c=>.map c) M0 fun m d=>aQ (.map [] 0) (fun c=>.map c) d fun n e=>jf [(N .i64 0),(.sc (.map none)),(.sc (.map none)),(.sc (.slice none 0 0)),(N .i64 0),(N .i64 0)] [(0,1,a0),(1,1,m),(2,1,n)] fun o=>lL p1 o fun i h=>aQ i h e fun j g=>Q (.tup [j,(N .i64 0)]) g)
def pu (p1:au) (a0 a1:AV) (M0:RM) (Q:aj) : Prop:=ek a0 fun m=>fe m 1 fun n=>ag M0 n fun e=>iC false [2] (.sc (.pointer none)) false M0 e a1 fun c=>eZ false 1 c (.sc (.pointer none)) fun g=>aA g ( Q (.tup [(.sc (.slice none 0 0)),(N .i64 4)]) M0) ( ek c fun h=>fe h 0 fun i=>ag M0 i fun j=>p1 [j] M0 fun l d=>Q (.tup [l,(N .i64 0)]) d)
def bM (p1 p2:Nat) (a0:AV) (M0:RM) (Q:aj) : Prop:=lL p1 a0 fun e d=>aQ e d M0 fun g c=>Q (.fn (.func p2) [] [g]) c
set_option maxRecDepth 10000
abbrev Ut:AV:=.sc (.pointer none)
section
variable {fbs gbs:List Nat} {own own' : ja} {M M' : RM} {bs:List Nat} {m:Nat} {d:Dir} {t:Tag} {s:Nm}
theorem PY (h:MapAt own M fbs m d t) {K:AV→Prop} (h1:KJ d s=none→K Ut) (h2:∀ f b,KJ d s=some f→fbs[f]?=some b→K (.ptr b 0)) : iC false [2] Ut false M (.map m) (St s) K:=by
 obtain⟨es,cl,hh,he⟩:=h.heap
 rcases Jc s 0 he with⟨a1,a2⟩ | ⟨j,f,b,a1,a2,a3,a4,a5⟩
 ·exact⟨m,es,cl,[St s],none,rfl,hh,rfl,rfl,a1,h1 a2⟩
 ·exact⟨m,es,cl,[St s],_,rfl,hh,rfl,rfl,a1,h2 f b a2 a3⟩
end
def tot (fs:List Ec) : Dir→Nat
 | []=>0
 | e :: d=>(fs[e.2]?.getD ([],0)).1.length + tot fs d
def Pm (s:KD) (f:Nat) : Ec:=s.files[f]?.getD ([],0)
def P6 (s:KD) (n:Nm) : List UInt8 × Int :=
 match KJ s.dir n with
 | none=>([],4)
 | some f=>((Pm s f).1,0)
def fw (p:List Int) (i n:Nat) : Nat:=match p[i]? with
 | none=>0
 | some x=>if x<0 then 0 else x.toNat % n
section
variable {TD TF TU TC:Nat}
theorem qC.put {own:ja} {M:RM} {fbs:List Nat} {i b:Nat} {v:AV} {f:Ec} (h:qC TF TU own M fbs i b v f) (n:Nat) (hn:n≤f.1.length) :
  qC TF TU own (M.put b (.row [v,N .i64 (n:Int)] false TF 0)) fbs i b v (f.1,n):=by
 have hk:aa [b] M (M.put b (.row [v,N .i64 (n:Int)] false TF 0)):=(aa.refl _ _).put _ (.inr (by simp))
 refine⟨h.at_,h.lt,h.tg,aG _,h.fb.keep hk (fun c hc hm=>?_),hn,h.blk⟩
 rw[List.mem_singleton] at hm
 have:=h.blk c hc
 rw[hm,h.tg] at this; cases this
def VN (TU:Nat) (c:au) : Prop:=Go.Ab.aR.jP TU 1 1 c
def Gs (TD TF TU TC:Nat) (c:au) : Prop:=∀ {own:ja} {M:RM} {db:Nat} {s:KD} {n:Nm} {Q:aj},QV TD TF TU TC own M db s→(∀ f∈s.files,f.1.length≤140737488355328) →
 (∀ v M',aa [] M M'→Ow BY M' M.next TU v (P6 s n).1→Q (.tup [v,N .i64 (P6 s n).2]) M')→c [.ptr db 0,St n] M Q
theorem Jd {ck:au} (hc:VN TU ck) : Gs TD TF TU TC fun args M Q=>∃ a0 a1,args=[a0,a1]∧pu ck a0 a1 M Q:=by
 intro own M db s n Q hd hlen hQ
 obtain⟨fbs,nm,sm,cv,hd⟩:=hd
 refine⟨_,_,rfl, ?_⟩
 unfold pu
 rw[bF,iW,aH (i:=0 + 1) hd.row rfl]
 unfold P6 at hQ
 refine PY hd.names (fun hn=>?_) (fun f b hf hb=>?_)
 ·rw[hn] at hQ
  rw[uX,Bool.not_false,gF]
  exact hQ _ M (aa.refl _ _) .nil
 ·rw[hf] at hQ
  dsimp only at hQ
  rw[xL,fM]
  obtain⟨fl,v,hfl,hat⟩:=hd.files.at hb
  have hff:Pm s f=fl:=by unfold Pm; rw[hfl]; rfl
  rw[hff] at hQ
  have:=hlen fl (List.mem_of_getElem? hfl)
  rw[bF,iW,aH (i:=0 + 0) hat.heap rfl]
  refine hc hat.fb.sl (BY.bX _) (by omega) this fun v' M' o k=>?_
  exact hQ v' M' k o
end
section
variable {TD TF TU TC:Nat}
def XL (n:Int) : KD:=⟨[],[],[],[],n,0,0⟩
def CZ (TD TF TU TC:Nat) (c:au) : Prop:=∀ {M:RM} {n:Int} {Q:aj},(n<0→Q (.tup [Ut,N .i64 1]) M) →
 (¬ n<0→∀ own M' db,QV TD TF TU TC own M' db (XL n)→(∀ b,b<M.next→own b=none)→aa [] M M'→Q (.tup [.ptr db 0,N .i64 0]) M')→c [N .i64 n] M Q
theorem EJ:CZ TD TF TU TC fun args M Q=>∃ a0,args=[a0]∧AQ TD a0 M Q:=by
 intro M n Q h1 h2
 refine⟨_,rfl, ?_⟩
 unfold AQ
 rw[gN]
 refine aS (fun hc=>h1 (of_decide_eq_true hc)) (fun hc=>?_)
 rw[aN,aN,jm]
 refine⟨_,rfl, ?_⟩
 rw[lI rfl (by show 1≤6; decide),aN]
 have k1:aa [] M (((M.push (.map [] 0)).push (.map [] 0)).push (.row [N .i64 n,.map M.next,.map (M.next + 1),bQ,N .i64 0,N .i64 0] false TD 0)):=(((aa.refl _ _).push _).push _).push _
 refine h2 (of_decide_eq_false hc) (upd (upd (upd (fun _=>none) M.next .names) (M.next + 1) .safe) (M.next + 2) .disk) _ _ ?_ ?_ k1
 ·have e1:(((M.push (.map [] 0)).push (.map [] 0)).push (.row [N .i64 n,.map M.next,.map (M.next + 1),bQ,N .i64 0,N .i64 0] false TD 0)).heap M.next=some (.map [] 0) :=
   tJ (tJ (RM.bI _) (by rw[dO]; omega)) (by rw[dO,dO]; omega)
  have e2:(((M.push (.map [] 0)).push (.map [] 0)).push (.row [N .i64 n,.map M.next,.map (M.next + 1),bQ,N .i64 0,N .i64 0] false TD 0)).heap (M.next + 1)=some (.map [] 0) :=
   tJ (RM.bI _) (by rw[dO,dO]; omega)
  have o1:(upd (upd (upd (fun _=>none) M.next .names) (M.next + 1) .safe) (M.next + 2) .disk) M.next=some .names:=by
   rw[upd_ne (by omega),upd_ne (by omega),LP]
  have o2:(upd (upd (upd (fun _=>none) M.next .names) (M.next + 1) .safe) (M.next + 2) .disk) (M.next + 1)=some .safe:=by
   rw[upd_ne (by omega),LP]
  refine⟨[],M.next,M.next + 1,bQ,fun b hb=>?_,LP,RM.bI _,⟨o1,by rw[dO,dO,dO]; omega,[],0,e1,trivial⟩,⟨o2,by rw[dO,dO,dO]; omega,[],0,e2,trivial⟩,.nil,⟨rfl,fun i f h=>by simp[XL] at h⟩⟩
  simp only[upd] at hb
  rw[dO,dO,dO]
  split at hb
  ·omega
  ·split at hb
   ·omega
   ·split at hb
    ·omega
    ·simp at hb
 ·intro b hb
  rw[upd_ne (by omega),upd_ne (by omega),upd_ne (by omega)]
def fQ (fs:List Ec) (seen:List Nat) : List (AV × AV × Nat)→Dir→Nat
 | e :: es,d :: ds=>(if e.2.2∈seen then(fs[d.2]?.getD ([],0)).1.length else 0) + fQ fs seen es ds
 | _,_=>0
def jC (seen:List Nat) : List (AV × AV × Nat)→Nat
 | []=>0
 | e :: es=>(if e.2.2∈seen then 0 else 1) + jC seen es
section
variable {fbs:List Nat} {cl:Nat} {fs:List Ec}
theorem Dy (seen:List Nat) : ∀ {es:List (AV × AV × Nat)} {d:Dir} {lo:Nat},jA fbs cl lo es d→fQ fs seen es d≤tot fs d
 | [],[],_,_=>Nat.le_refl _
 | e :: es,_ :: d,_,⟨_,_,_,_,h⟩=>by
   have:=Dy seen h
   simp only[fQ,tot]; split <;> omega
theorem yM (seen:List Nat) : ∀ {es:List (AV × AV × Nat)} {d:Dir} {lo:Nat},jA fbs cl lo es d→(∀ e∈es,e.2.2∈seen)→fQ fs seen es d=tot fs d
 | [],[],_,_,_=>rfl
 | e :: es,_ :: d,_,⟨_,_,_,_,h⟩,ha=>by
   have:=yM seen h (fun e he=>ha e (List.mem_cons_of_mem _ he))
   simp only[fQ,tot,if_pos (ha e (List.mem_cons_self ..)),this]
theorem zC:∀ {es:List (AV × AV × Nat)} {d:Dir},fQ fs [] es d=0
 | [],_=>by cases ‹Dir› <;> rfl
 | e :: es,[]=>rfl
 | e :: es,d :: ds=>by simp[fQ,zC (es:=es)]
theorem xJ (seen:List Nat) (k:Nat) : ∀ {es:List (AV × AV × Nat)} {d:Dir} {lo:Nat},jA fbs cl lo es d→k<lo→fQ fs (seen++[k]) es d=fQ fs seen es d∧jC (seen++[k]) es=jC seen es
 | [],[],_,_,_=>⟨rfl,rfl⟩
 | e :: es,_ :: d,lo,⟨_,_,h1,_,h⟩,hk=>by
   obtain⟨a1,a2⟩:=xJ seen k h (by omega)
   have:(e.2.2∈seen++[k])=(e.2.2∈seen):=by
    simp only[List.mem_append,List.mem_singleton,eq_iff_iff]
    exact⟨fun h=>h.resolve_right (by omega),.inl⟩
   simp only[fQ,jC,a1,a2,this,and_self]
theorem qd (seen:List Nat) : ∀ {es:List (AV × AV × Nat)} {d:Dir} {lo:Nat},jA fbs cl lo es d→∀ n∈es,n.2.2 ∉ seen →
  ∃ (f b:Nat),fbs[f]?=some b∧n.2.1=.ptr b 0∧es.find? (fun e=>e.2.2 == n.2.2)=some n∧lo≤n.2.2∧n.2.2<cl∧fQ fs (seen++[n.2.2]) es d=fQ fs seen es d + (fs[f]?.getD ([],0)).1.length∧jC (seen++[n.2.2]) es<jC seen es
 | [],[],_,_,n,hn,_=>by cases hn
 | e :: es,x :: d,lo,⟨h0,⟨b,h1,h2⟩,h3,h4,h⟩,n,hn,hs=>by
   rcases List.mem_cons.1 hn with rfl | hn
   ·obtain⟨a1,a2⟩:=xJ (fs:=fs) seen n.2.2 h (by omega)
    refine⟨x.2,b,h1,h2,by simp,h3,h4, ?_, ?_⟩
    ·simp only[fQ,a1,List.mem_append,List.mem_singleton,or_true,if_true,if_neg hs]; omega
    ·simp only[jC,a2,List.mem_append,List.mem_singleton,or_true,if_true,if_neg hs]; omega
   ·obtain⟨f,b',q1,q2,q3,q4,q5,q6,q7⟩:=qd seen h n hn hs
    have hne:e.2.2≠n.2.2:=by omega
    have:(e.2.2∈seen++[n.2.2])=(e.2.2∈seen):=by
     simp only[List.mem_append,List.mem_singleton,eq_iff_iff]
     exact⟨fun h=>h.resolve_right hne,.inl⟩
    refine⟨f,b',q1,q2, ?_,by omega,q5, ?_, ?_⟩
    ·rw[List.find?_cons_of_neg (by simpa using hne)]; exact q3
    ·simp only[fQ,q6,this]; omega
    ·simp only[jC,this]; omega
end
end
def mF:Nm→Nm→Bool
 | [],_=>true
 | _ :: _,[]=>false
 | a :: x,b :: y=>decide (a.toNat<b.toNat) || (decide (a.toNat=b.toNat) && mF x y)
def EB (x:Nm) : List Nm→List Nm
 | []=>[x]
 | y :: l=>if mF x y then x :: y :: l else y :: EB x l
def lX:List Nm→List Nm
 | []=>[]
 | x :: l=>EB x (lX l)
theorem Ct (x:Nm) : ∀ l,(EB x l).Perm (x :: l)
 | []=>.refl _
 | y :: l=>by
   unfold EB
   split
   ·exact .refl _
   ·exact((Ct x l).cons y).trans (.swap _ _ _)
theorem rZ:∀ l,(lX l).Perm l
 | []=>.refl _
 | x :: l=>(Ct x _).trans ((rZ l).cons x)
def MH (d:Dir) : List Nm:=d.map (·.1)
section
variable {M:RM} {TU:Nat}
end
def Yl (d:Dir) : Prop:=(MH d).Nodup∧∀ n∈MH d,n.length≤64
section
variable {TD TF TU TC:Nat}
end
theorem xN:∀ x y:Nm,mF x y=decide (x≤y)
 | [],y=>by simp[mF]
 | a :: x,[]=>by simp[mF]
 | a :: x,b :: y=>by
   rw[mF,xN x y,Bool.eq_iff_iff]
   simp only[Bool.or_eq_true,Bool.and_eq_true,decide_eq_true_eq,List.cons_le_cons_iff]
   rw[UInt8.lt_iff_toNat_lt,← UInt8.toNat_inj]
theorem Jw (x y:Nm) : (mF x y || mF y x)=true:=by
 rw[xN,xN,Bool.or_eq_true,decide_eq_true_eq,decide_eq_true_eq]
 exact Std.Total.total x y
theorem Jv (x y z:Nm) (h1:mF x y=true) (h2:mF y z=true) : mF x z=true:=by
 rw[xN,decide_eq_true_eq] at *
 exact List.le_trans h1 h2
theorem Su (x y:Nm) (h1:mF x y=true) (h2:mF y x=true) : x=y:=by
 rw[xN,decide_eq_true_eq] at *
 exact List.le_antisymm h1 h2
theorem Et (x:Nm) : ∀ {l:List Nm},l.Pairwise (fun a b=>mF a b=true)→(EB x l).Pairwise (fun a b=>mF a b=true)
 | [],_=>by simp[EB]
 | y :: l,h=>by
   unfold EB
   split
   ·rename_i hxy
    refine List.pairwise_cons.2 ⟨fun z hz=>?_,h⟩
    rcases List.mem_cons.1 hz with rfl | hz
    ·exact hxy
    ·exact Jv _ _ _ hxy ((List.pairwise_cons.1 h).1 z hz)
   ·rename_i hxy
    have hyx:mF y x=true:=by have:=Jw x y; simp only[Bool.not_eq_true] at hxy; rw[hxy] at this; simpa using this
    refine List.pairwise_cons.2 ⟨fun z hz=>?_,Et x (List.pairwise_cons.1 h).2⟩
    rcases List.mem_cons.1 ((Ct x l).mem_iff.1 hz) with rfl | hz
    ·exact hyx
    ·exact(List.pairwise_cons.1 h).1 z hz
theorem Cq:∀ l:List Nm,(lX l).Pairwise (fun a b=>mF a b=true)
 | []=>.nil
 | x :: l=>Et x (Cq l)
theorem Ee {ss l:List Nm} (h:ss.Perm l) : ss.mergeSort (fun x y=>decide (x≤y))=lX l:=by
 have e:(fun x y:Nm=>decide (x≤y))=mF:=by funext x y; rw[xN]
 rw[e]
 refine List.Perm.eq_of_pairwise (le:=fun a b=>mF a b=true) (fun a b _ _ h1 h2=>Su a b h1 h2) ?_ (Cq l) ((List.mergeSort_perm _ _).trans (h.trans (rZ l).symm))
 exact List.pairwise_mergeSort Jv Jw ss
def H8 (TS TM g:Nat) (c:au) : Prop:=∀ {own:ja} {M:RM} {fbs:List Nat} {m b:Nat} {d:Dir} {t:Tag} {Q:aj},MapAt own M fbs m d t→M.heap b=some (.row [.map m] false TM 0)→b<M.next→d.length≤4000000000→Yl d →
 (∀ v M',Ow dU M' M.next TS v (lX (MH d))→aa [] M M'→Q v M')→c [.fn (.func g) [] [.ptr b 0]] M Q
def Pb (TM g:Nat) (c:au) : Prop:=∀ {M:RM} {m:Nat} {Q:aj},Q (.fn (.func g) [] [.ptr M.next 0]) (M.push (.row [.map m] false TM 0))→c [.map m] M Q
section
variable {TD TF TU TC:Nat}
end
end Go.Ab.Dk
namespace Go.Ab.Bl
open Go Go.Ab Go.Ab.aR Go.Ab.Sha
open Go.Ab.Dk (lX mF)
def iT (T:List eF) : List Str:=T.map (·.1)
def H8 (TS TM g:Nat) (c:au) : Prop:=∀ {M:RM} {m b cl:Nat} {T:List eF} {Q:aj},M.heap m=some (.map (T.map eQ) cl)→Wf cl T→(∀ t∈T,t.1.length=64)→M.heap b=some (.row [.map m] false TM 0)→b<M.next→T.length≤1000000 →
 (∀ v M',Ow dU M' M.next TS v (lX (iT T))→aa [] M M'→Q v M')→c [.fn (.func g) [] [.ptr b 0]] M Q
def Pb (TM g:Nat) (c:au) : Prop:=∀ {M:RM} {m:Nat} {Q:aj},Q (.fn (.func g) [] [.ptr M.next 0]) (M.push (.row [.map m] false TM 0))→c [.map m] M Q
def CJ (TSt TS:Nat) (c:au) : Prop:=∀ {M:RM} {sb n:Nat} {f:Str→Option Str} {W:Nat→Prop} {Q:aj},mh TSt M sb f W n→n≤1000000 →
 (∀ T v M',oN TSt M sb T f W→T.length≤n→Ow dU M' M.next TS v (lX (iT T))→aa [] M M'→Q v M')→c [.ptr sb 0] M Q
theorem JR {TSt TS TM g:Nat} {ck cs:au} (hk:Pb TM g ck) (hs:H8 TS TM g cs) : CJ TSt TS fun args M Q=>∃ a0,args=[a0]∧kR ck cs a0 M Q:=by
 rintro M sb n f W Q ⟨T,h,hT⟩ hn hQ
 refine⟨_,rfl, ?_⟩
 unfold kR
 obtain⟨mb,cl,g1,g2,g3,g4,g5,g6⟩:=h.map
 rw[bF,iW,Nat.zero_add,aH g3 rfl]
 refine hk ?_
 have k1:aa [] M (M.push (.row [.map mb] false TM 0)):=(aa.refl _ _).push _
 have n1:(M.push (.row [.map mb] false TM 0)).heap M.next=some (.row [.map mb] false TM 0):=RM.bI _
 have x1:(M.push (.row [.map mb] false TM 0)).next=M.next + 1:=rfl
 generalize M.push (.row [.map mb] false TM 0)=M1 at *
 refine hs (k1.az g4 (h.lt _ g1) (by simp)) g5 h.nm n1 (by omega) (by omega) fun v M2 o2 k2=>?_
 exact hQ T v M2 h hT (Own.mono o2 (by omega)) (k1.trans k2)
def fQ (g:eF→Nat) (seen:List Nat) : List eF→Nat
 | []=>0
 | t :: T=>(if t.2.2∈seen then g t else 0) + fQ g seen T
def jC (seen:List Nat) : List eF→Nat
 | []=>0
 | t :: T=>(if t.2.2∈seen then 0 else 1) + jC seen T
def yS (g:eF→Nat) (T:List eF) : Nat:=(T.map g).sum
section
variable {g:eF→Nat} {seen:List Nat}
theorem zC:∀ {T:List eF},fQ g [] T=0
 | []=>rfl
 | t :: T=>by simp[fQ,zC (T:=T)]
theorem Dy:∀ {T:List eF},fQ g seen T≤yS g T
 | []=>Nat.le_refl _
 | t :: T=>by
   have:=Dy (T:=T)
   unfold yS at *
   simp only[fQ,List.map_cons,List.sum_cons]; split <;> omega
theorem yM:∀ {T:List eF},(∀ t∈T,t.2.2∈seen)→fQ g seen T=yS g T
 | [],_=>rfl
 | t :: T,h=>by
   have:=yM (T:=T) (fun x hx=>h x (List.mem_cons_of_mem _ hx))
   unfold yS at *
   simp only[fQ,List.map_cons,List.sum_cons,if_pos (h t (List.mem_cons_self ..)),this]
theorem xJ {k:Nat} : ∀ {T:List eF},(∀ t∈T,t.2.2≠k)→fQ g (seen++[k]) T=fQ g seen T∧jC (seen++[k]) T=jC seen T
 | [],_=>⟨rfl,rfl⟩
 | t :: T,h=>by
   obtain⟨a1,a2⟩:=xJ (T:=T) (fun x hx=>h x (List.mem_cons_of_mem _ hx))
   have:(t.2.2∈seen++[k])=(t.2.2∈seen):=by
    simp only[List.mem_append,List.mem_singleton,eq_iff_iff]
    exact⟨fun hm=>hm.resolve_right (h t (List.mem_cons_self ..)),.inl⟩
   simp only[fQ,jC,a1,a2,this,and_self]
theorem qd:∀ {T:List eF},T.Pairwise (fun a b=>a.2.2<b.2.2)→∀ n∈T,n.2.2 ∉ seen →
  (T.map eQ).find? (fun e=>e.2.2 == n.2.2)=some (eQ n)∧fQ g (seen++[n.2.2]) T=fQ g seen T + g n∧jC (seen++[n.2.2]) T<jC seen T
 | [],_,n,hn,_=>by cases hn
 | t :: T,h,n,hn,hs=>by
   rw[List.pairwise_cons] at h
   rcases List.mem_cons.1 hn with rfl | hn
   ·obtain⟨a1,a2⟩:=xJ (g:=g) (seen:=seen) (k:=n.2.2) (T:=T) (fun x hx e=>by have:=h.1 x hx; omega)
    refine⟨by simp[eQ], ?_, ?_⟩
    ·simp only[fQ,a1,List.mem_append,List.mem_singleton,or_true,if_true,if_neg hs]; omega
    ·simp only[jC,a2,List.mem_append,List.mem_singleton,or_true,if_true,if_neg hs]; omega
   ·obtain⟨q3,q6,q7⟩:=qd h.2 n hn hs
    have hne:t.2.2≠n.2.2:=by have:=h.1 n hn; omega
    have:(t.2.2∈seen++[n.2.2])=(t.2.2∈seen):=by
     simp only[List.mem_append,List.mem_singleton,eq_iff_iff]
     exact⟨fun h=>h.resolve_right hne,.inl⟩
    refine⟨?_, ?_, ?_⟩
    ·rw[List.map_cons,List.find?_cons_of_neg (by simpa [eQ] using hne)]; exact q3
    ·simp only[fQ,q6,this]; omega
    ·simp only[jC,this]; omega
end
def wK (f:Str→Option Str) (t:eF) : Nat:=((f t.1).getD []).length
def Cz (TSt:Nat) (c:au) : Prop:=∀ {M:RM} {sb n:Nat} {f:Str→Option Str} {W:Nat→Prop} {Q:aj},mh TSt M sb f W n→n≤1000000 →
 (∀ T M',oN TSt M sb T f W→T.length≤n→aa [] M M'→Q (N .i64 (yS (wK f) T:Int)) M')→c [.ptr sb 0] M Q
theorem NN {g:eF→Nat} {k:Nat} : ∀ {T:List eF},(∀ t∈T,g t≤k)→yS g T≤T.length * k
 | [],_=>Nat.zero_le _
 | t :: T,h=>by
   have h1:=NN (T:=T) (fun x hx=>h x (List.mem_cons_of_mem _ hx))
   have h2:=h t (List.mem_cons_self ..)
   unfold yS at *
   simp only[List.map_cons,List.sum_cons,List.length_cons,Nat.succ_mul]; omega
theorem GN {TSt:Nat} : Cz TSt fun args M Q=>∃ a0,args=[a0]∧kN a0 M Q:=by
 rintro M sb n f W Q ⟨T,h,hT⟩ hn hQ
 refine⟨_,rfl, ?_⟩
 unfold kN
 obtain⟨mb,cl,g1,g2,g3,g4,g5,g6⟩:=h.map
 rw[bF,iW,Nat.zero_add,aH g3 rfl]
 refine⟨mb,_,cl,rfl,g4, ?_⟩
 have hml:=h.lt _ g1
 have hval:∀ t∈T,wK f t≤1000000:=fun t ht=>by
  obtain⟨b,q1,_,q3,_⟩:=h.val t ht
  unfold wK; rw[q1]; exact q3
 have htot:=NN hval
 have htot2:yS (wK f) T≤1000000 * 1000000:=Nat.le_trans htot (Nat.mul_le_mul_right _ (by omega))
 have k1:aa [] M (M.push (.iter (some mb) cl [] cl)):=(aa.refl _ _).push _
 refine aM (fun z ys M'=>∃ seen,z=jC seen T∧ys=[N .i64 (fQ (wK f) seen T:Int)]∧aa [] M M'∧M.next<M'.next∧M'.heap M.next=some (.iter (some mb) cl seen cl)) (jC [] T)
  ⟨[],rfl,by rw[zC]; rfl,k1,by rw[dO]; omega,RM.bI _⟩ ?_
 rintro next z ys M' hnext ⟨seen,rfl,rfl,k2,n2,h2⟩
 dsimp only[ah]
 have hm:=k2.az g4 hml (by simp)
 refine⟨M.next,mb,cl,seen,cl,_,cl,rfl,h2,hm, ?_,fun e he hs=>?_,fun ha=>?_⟩
 ·cases T with
  | nil=>exact .inr (.inl rfl)
  | cons t T=>exact .inr (.inr ⟨eQ t,by simp,g5.lt t (List.mem_cons_self ..)⟩)
 ·obtain⟨t,ht,rfl⟩:=List.mem_map.1 he
  obtain⟨q3,q6,q7⟩:=qd (g:=wK f) g5.up t ht hs
  rw[bZ,gF]
  have k3:aa [] M (M'.put M.next (.iter (some mb) cl (seen++[(eQ t).2.2]) cl)):=k2.put _ (.inl (Nat.le_refl _))
  have h3:(M'.put M.next (.iter (some mb) cl (seen++[(eQ t).2.2]) cl)).heap M.next=some (.iter (some mb) cl (seen++[(eQ t).2.2]) cl):=aG _
  have hm3:=k3.az g4 hml (by simp)
  refine⟨M.next,mb,cl,seen,_,cl,_,_,rfl,h3,hm3,q3, ?_⟩
  obtain⟨b,p1,p2,p3,p4⟩:=(h.keep k3 (by simp)).val t ht
  have e1:wK f t=b.length:=by unfold wK; rw[p1]; rfl
  have hle:=Dy (g:=wK f) (seen:=seen++[t.2.2]) (T:=T)
  rw[dG,show(eQ t).2.1=t.2.1 from rfl,p2.len,addN (by omega),← e1,← q6]
  exact hnext _ _ _ q7 ⟨_,rfl,rfl,k3,n2,h3⟩
 ·dsimp only
  rw[bZ,fM,yM (fun t ht=>?_)]
  ·exact hQ T M' h hT k2
  ·rcases Classical.em (t.2.2∈seen) with hx | hx
   ·exact hx
   ·have:=ha (eQ t) (List.mem_map_of_mem ht) hx
    have:=g5.lt t ht
    simp only[eQ] at *
    omega
end Go.Ab.Bl
namespace Go.Ab.Bl
open Go Go.Ab Go.Ab.aR Go.Ab.Sha
theorem mW {i:Nat} (hi:i<4611686018427387903) {K:AV→Prop} : ae .add (N .i64 (i:Int)) (N .i64 1) K=K (N .i64 ((i + 1:Nat) : Int)):=by
 rw[show(1:Int)=((1:Nat) : Int) from rfl,addN (by omega)]
def Dp (P:RM→Prop) (p:Str→Bool) (c:List AV→RM→aj→Prop) : Prop:=∀ {M:RM} {x:Str} {Q:aj},P M→x.length≤281474976710656→(∀ M',aa [] M M'→Q (Bo (p x)) M')→c [St x] M Q
def xK (P:RM→Prop) (p:Str→Bool) (fv:AV) (c:au) : Prop:=∀ {M:RM} {v:AV} {xs:List Str} {Q:aj},P M→(∀ M M',P M→aa [] M M'→P M')→Sl dU M v xs→xs.length≤1000000000→(∀ x∈xs,x.length≤281474976710656) →
 (xs.any p=false→∀ M',aa [] M M'→Q (N .i64 (-1)) M')→(∀ (i:Nat) (hi:i<xs.length),p xs[i]=true→(∀ x∈xs.take i,p x=false)→∀ M',aa [] M M'→Q (N .i64 (i:Int)) M')→c [v,fv] M Q
theorem Ef {P:RM→Prop} {p:Str→Bool} {fv:AV} {cv:FuncId→au} (hp:Dp P p (oZ cv fv)) : xK P p fv fun args M Q=>∃ a0 a1,args=[a0,a1]∧lm cv a0 a1 M Q:=by
 intro M v xs Q hP hPk hs hl hxl h0 h1
 refine⟨_,_,rfl, ?_⟩
 unfold lm
 rw[aK.len hs]
 refine aM (fun m ys M3=>∃ i:Nat,m=xs.length - i∧ys=[N .i64 (i:Int)]∧i≤xs.length∧aa [] M M3∧∀ x∈xs.take i,p x=false) _ ⟨0,rfl,rfl,Nat.zero_le _,aa.refl _ _,by simp⟩ ?_
 rintro next m ys M3 hnext ⟨i,rfl,rfl,hi,k3,hm⟩
 simp only[aI]
 rw[jQ]
 refine aS (fun hlt=>?_) (fun hge=>?_)
 ·have hlt:i<xs.length:=of_decide_eq_true hlt
  refine oI (aK.keep hs k3 (by simp)) hlt ?_
  refine hp (hPk _ _ hP k3) (hxl _ (List.getElem_mem _)) fun M4 k4=>?_
  refine aS (fun he=>h1 i hlt he hm M4 (k3.trans k4)) (fun he=>?_)
  rw[mW (by omega)]
  refine hnext _ _ _ (by omega) ⟨i + 1,rfl,rfl,by omega,k3.trans k4,fun x hx=>?_⟩
  rw[List.take_succ_eq_append_getElem hlt,List.mem_append] at hx
  rcases hx with hx | hx
  ·exact hm x hx
  ·simp at hx; subst hx; exact he
 ·have he:i=xs.length:=by
   have:¬ i<xs.length:=of_decide_eq_false hge
   omega
  subst he
  rw[List.take_length] at hm
  exact h0 (by simpa using hm) M3 k3
def Ky (P:RM→Prop) (p:Str→Bool) (fv:AV) (c:au) : Prop:=∀ {M:RM} {v:AV} {xs:List Str} {Q:aj},P M→(∀ M M',P M→aa [] M M'→P M')→Sl dU M v xs→xs.length≤1000000000→(∀ x∈xs,x.length≤281474976710656) →
 (∀ M',aa [] M M'→Q (Bo (xs.any p)) M')→c [v,fv] M Q
theorem Qj {P:RM→Prop} {p:Str→Bool} {fv:AV} {ci:au} (hi:xK P p fv ci) : Ky P p fv fun args M Q=>∃ a0 a1,args=[a0,a1]∧jJ ci a0 a1 M Q:=by
 intro M v xs Q hP hPk hs hl hxl hQ
 refine⟨_,_,rfl, ?_⟩
 unfold jJ
 refine hi hP hPk hs hl hxl (fun hn M1 k1=>?_) fun i hlt hpi _ M1 k1=>?_
 ·rw[kD,show decide ((-1:Int) ≥ 0)=false by decide,← hn]
  exact hQ M1 k1
 ·rw[kD,show decide ((i:Int) ≥ 0)=true by simp,← List.any_eq_true.2 ⟨_,List.getElem_mem hlt,hpi⟩]
  exact hQ M1 k1
def Li (c:au) : Prop:=∀ {M:RM} {v:AV} {xs:List Str} {s:Str} {Q:aj},Sl dU M v xs→xs.length≤1000000000→Q (Bo (decide (s∈xs))) M→c [v,St s] M Q
def IU (c:au) : Prop:=∀ {M:RM} {v:AV} {xs:List Str} {s:Str} {Q:aj},Sl dU M v xs→xs.length≤1000000000→(∀ n:Int,decide (n ≥ 0)=decide (s∈xs)→Q (N .i64 n) M)→c [v,St s] M Q
theorem MX:IU fun args M Q=>∃ a0 a1,args=[a0,a1]∧pY a0 a1 M Q:=by
 intro M v xs s Q hs hl hQ
 refine⟨_,_,rfl, ?_⟩
 unfold pY
 rw[aK.len hs]
 refine aM (fun m ys M3=>∃ i:Nat,m=xs.length - i∧ys=[N .i64 (i:Int)]∧i≤xs.length∧M3=M∧s ∉ xs.take i) _ ⟨0,rfl,rfl,Nat.zero_le _,rfl,by simp⟩ ?_
 rintro next m ys M3 hnext ⟨i,rfl,rfl,hi,rfl,hm⟩
 simp only[aI]
 rw[jQ]
 refine aS (fun hlt=>?_) (fun hge=>?_)
 ·have hlt:i<xs.length:=of_decide_eq_true hlt
  refine oI hs hlt ?_
  rw[uP]
  refine aS (fun he=>?_) (fun he=>?_)
  ·have he:s=xs[i]:=by simpa using he
   refine hQ i ?_
   rw[show decide ((i:Int) ≥ 0)=true by simp,eq_comm,decide_eq_true_eq,he]
   exact List.getElem_mem _
  ·have he:¬ s=xs[i]:=by simpa using he
   rw[mW (by omega)]
   refine hnext _ _ _ (by omega) ⟨i + 1,rfl,rfl,by omega,rfl,fun hx=>?_⟩
   rw[List.take_succ_eq_append_getElem hlt,List.mem_append] at hx
   rcases hx with hx | hx
   ·exact hm hx
   ·simp at hx; exact he hx
 ·have he:i=xs.length:=by
   have:¬ i<xs.length:=of_decide_eq_false hge
   omega
  subst he
  rw[List.take_length] at hm
  exact hQ (-1) (by rw[show decide ((-1:Int) ≥ 0)=false by decide,eq_comm,decide_eq_false_iff_not]; exact hm)
theorem PT {ci:au} (hi:IU ci) : Li fun args M Q=>∃ a0 a1,args=[a0,a1]∧mq ci a0 a1 M Q:=by
 intro M v xs s Q hs hl hQ
 refine⟨_,_,rfl, ?_⟩
 unfold mq
 refine hi hs hl fun n hn=>?_
 rw[kD,hn]
 exact hQ
theorem SQ {b o n k z:Nat} (h:k≤n) (h0:0<n) : dz z (.slc b o n (.op z)) none (some (N .i64 (k:Int))) none=some (.slc b o k (.op z)):=by
 simp only[dz,bnd]
 simp[h]
 omega
def E8 (P:RM→Prop) (p:Str→Bool) (fv:AV) (c:au) : Prop:=∀ {M:RM} {base T:Nat} {v:AV} {xs:List Str} {Q:aj},P M→(∀ M M' ks,P M→aa ks M M'→(∀ d∈ks,d∈ak v)→P M')→Ow dU M base T v xs→xs.length≤100000000→(∀ x∈xs,x.length≤281474976710656) →
 (∀ v' M',Sl dU M' v' (xs.filter fun x=>!p x)→(∀ d∈ak v',d∈ak v)→aa (ak v) M M'→Q v' M')→c [v,fv] M Q
theorem Mf {P:RM→Prop} {p:Str→Bool} {fv:AV} {cv:FuncId→au} {ci:au} (hi:xK P p fv ci) (hp:Dp P p (oZ cv fv)) : E8 P p fv fun args M Q=>∃ a0 a1,args=[a0,a1]∧kP ci cv a0 a1 M Q:=by
 intro M base T v xs Q hP hPk ho hl hxl hQ
 refine⟨_,_,rfl, ?_⟩
 unfold kP
 simp only[Sha.gz]
 have hs:Sl dU M v xs:=ho.kY
 refine hi hP (fun M M' h k=>hPk M M' [] h k (by simp)) hs (by omega) hxl (fun hn M1 k1=>?_) (fun i hlt hpi hm M1 k1=>?_)
 ·rw[bK,show((-1:Int) == -1)=true from rfl,gF]
  have e:(xs.filter fun x=>!p x)=xs:=List.filter_eq_self.2 fun x hx=>by
   have:=List.any_eq_false.1 hn x hx
   simpa using this
  exact hQ v M1 (by rw[e]; exact aK.keep hs k1 (by simp)) (fun d hd=>hd) (k1.mono (by simp))
 rw[bK,show((i:Int) == -1)=false by rw[beq_eq_false_iff_ne]; omega,fM,mW (by omega)]
 obtain⟨b,rfl,h1,h2,h3,h4⟩:=Own.WE ho (by omega)
 have hat:Rw dU M b true T xs:=⟨h3,h2⟩
 have hpre0:xs.take i=(xs.take (i + 1)).filter fun x=>!p x:=by
  rw[List.take_succ_eq_append_getElem hlt,List.filter_append,List.filter_eq_self.2 fun x hx=>by simpa using hm x hx]
  simp[hpi]
 refine aM (fun m ys M3=>∃ (k j:Nat) (d:List Str),m=xs.length - j∧ys=[N .i64 (k:Int),N .i64 (j:Int)]∧j≤xs.length∧k<j∧Rw dU M3 b true T d∧aa [b] M M3∧d.length=xs.length∧d.take k=(xs.take j).filter (fun x=>!p x)∧d.drop j=xs.drop j) _
  ⟨i,i + 1,xs,rfl,rfl,by omega,by omega,hat.keep k1 (by simp),k1.mono (by simp),rfl,hpre0,rfl⟩ ?_
 rintro next m ys M3 hnext ⟨k,j,d,rfl,rfl,hj,hkj,h3',k3,hds,hpre,hold⟩
 simp only[aI,dH]
 have aam:∀ K:AV→Prop,bA (AV.slc b 0 xs.length (.op dU.size)) K=K (N .i64 (xs.length:Int)):=fun K=>by simp[L9]
 rw[aam,jQ]
 have e5:dU.size=1:=rfl
 rw[e5] at *
 refine aS (fun hlt2=>?_) (fun aaw=>?_)
 ·have hlt2:j<xs.length:=of_decide_eq_true hlt2
  have hdj:d[j]?=some xs[j]:=by
   have:=congrArg (·[0]?) hold
   simpa [hlt2] using this
  have ZT:d[j]'(by omega)=xs[j]:=by rw[List.getElem?_eq_getElem (by omega)] at hdj; exact Option.some.inj hdj
  refine fV (fun zs M'=>∃ (k' : Nat) (d' : List Str),zs=[N .i64 (k' : Int)]∧k'<j + 1∧Rw dU M' b true T d'∧aa [b] M M'∧d'.length=xs.length∧d'.take k'=(xs.take (j + 1)).filter (fun x=>!p x)∧d'.drop (j + 1)=xs.drop (j + 1)) ?_ ?_
  ·rintro zs M' ⟨k',d',rfl,c1,c2,c3,c4,c5,c6⟩
   simp only[aI]
   rw[mW (by omega)]
   exact hnext _ _ _ (by omega) ⟨k',j + 1,d',rfl,rfl,by omega,c1,c2,c3,c4,c5,c6⟩
  intro J hJ
  rw[← hds,Uj (by omega),fJ]
  refine⟨St xs[j],h3'.ag (i:=j) (by omega) rfl (by rw[ZT]; rfl), ?_⟩
  have hP3:P M3:=hPk M M3 [b] hP k3 (by simp[ak])
  refine hp hP3 (hxl _ (List.getElem_mem _)) fun M5 k5=>?_
  have kk5:aa [b] M M5:=k3.trans (k5.mono (cs:=[b]) (by simp))
  have WO:=h3'.keep k5 (by simp)
  have XD:(xs.take (j + 1)).filter (fun x=>!p x)=if p xs[j] then(xs.take j).filter (fun x=>!p x) else(xs.take j).filter (fun x=>!p x)++[xs[j]]:=by
   rw[List.take_succ_eq_append_getElem hlt2,List.filter_append]
   by_cases hpj:p xs[j]=true <;> simp[hpj]
  have UT:d.drop (j + 1)=xs.drop (j + 1):=by
   have:=congrArg (List.drop 1) hold
   simpa [Nat.add_comm] using this
  rw[eU]
  refine aS (fun hn=>?_) (fun hn=>?_)
  ·have hpj:p xs[j]=false:=by simpa using hn
   obtain⟨st1,st2⟩:=WO.QZ (i:=k) (by omega) xs[j] rfl (u:=St xs[j]) rfl
   rw[Uj (by omega)]
   refine⟨b,k,_,rfl,rfl,st1, ?_⟩
   dsimp only
   rw[mW (by omega)]
   have k6:aa [b] M5 (M5.put b (.row (dU.row (d.set k xs[j])) true T 0)):=(aa.refl _ _).put _ (.inr (by simp))
   refine hJ _ _ ⟨k + 1,_,rfl,by omega,st2,kk5.trans k6,by simpa using hds, ?_, ?_⟩
   ·rw[XD,hpj,← hpre,List.take_succ_eq_append_getElem (by rw[List.length_set]; omega),List.getElem_set_self,List.take_set_of_le (Nat.le_refl _)]
    rfl
   ·rw[List.drop_set_of_lt (by omega)]; exact UT
  ·have hpj:p xs[j]=true:=by simpa using hn
   exact hJ _ _ ⟨k,d,rfl,by omega,WO,kk5,hds,by rw[XD,hpj]; exact hpre,UT⟩
 ·have hj2:j=xs.length:=by
   have:¬ j<xs.length:=of_decide_eq_false aaw
   omega
  subst hj2
  rw[List.take_length] at hpre
  have hrl:(dU.row d).length=xs.length:=by rw[Enc.gT,hds]; exact Nat.mul_one _
  have hrp:(fP [(St [])] (xs.length - k)).length=xs.length - k∧(fP [(St [])] (xs.length - k)).all oneCell=true:=by
   generalize xs.length - k=q
   induction q with
   | zero=>exact⟨rfl,rfl⟩
   | succ q ih=>rw[fP]; simp only[List.singleton_append,List.length_cons,ih.1,List.all_cons,ih.2]; exact⟨trivial,rfl⟩
  have hst:M3.stores b (0 + k * 1) (fP [(St [])] (xs.length - k))=some (M3.put b (.row ((dU.row d).take (0 + k * 1)++fP [(St [])] (xs.length - k)++(dU.row d).drop (0 + k * 1 + (fP [(St [])] (xs.length - k)).length)) true T 0)):=by
   refine RM.Gg h3'.heap ?_ (Nat.zero_le _) hrp.2
   rw[hrp.1,hrl]; omega
  rw[KP (by omega),jS]
  refine .inl ⟨_,_,_,_,_,rfl,hst, ?_⟩
  dsimp only
  rw[SQ (show k≤xs.length by omega) (by omega),jS]
  have hlk:(xs.filter fun x=>!p x).length=k:=by rw[← hpre,List.length_take]; omega
  refine hQ _ _ ?_ (fun e he=>by simpa [ak] using he) ?_
  ·have hrow:((dU.row d).take (0 + k * 1))=dU.row (xs.filter fun x=>!p x):=by
    rw[← hpre,show 0 + k * 1=k * dU.size by show 0 + k * 1=k * 1; omega,Enc.uG]
   show aK _ 1 (.slc b 0 k (.op 1)) (dU.row (xs.filter fun x=>!p x)) (xs.filter fun x=>!p x).length
   rw[hlk]
   refine .slc _ _ _ _ _ h3'.lt ?_
   have hl:(dU.row (xs.filter fun x=>!p x)).length=k * 1:=by rw[Enc.gT,hlk]; rfl
   rw[RM.ig (aG _) (by rw[hrow]; simp[hl]),List.drop_zero,hrow,List.append_assoc,List.take_left' hl]
  ·have:aa [b] M3 (M3.put b (.row ((dU.row d).take (0 + k * 1)++fP [(St [])] (xs.length - k)++(dU.row d).drop (0 + k * 1 + (fP [(St [])] (xs.length - k)).length)) true T 0)):=(aa.refl _ _).put _ (.inr (by simp))
   simpa [ak] using k3.trans this
def gQ (p:Str→Bool) (acc:List Str) (n:Str) : List Str:=if p n && !decide (n∈acc) then acc++[n] else acc
def iZ (p:Str→Bool) (l:List Str) : List Str:=l.foldl (gQ p) []
theorem EK {p:Str→Bool} : ∀ {l acc:List Str},(l.foldl (gQ p) acc).length≤acc.length + l.length
 | [],acc=>by simp
 | x :: l,acc=>by
   have:=EK (p:=p) (l:=l) (acc:=gQ p acc x)
   have h2:(gQ p acc x).length≤acc.length + 1:=by unfold gQ; split <;> simp
   simp only[List.foldl_cons,List.length_cons]; omega
theorem KN {p:Str→Bool} : ∀ {l acc:List Str},∀ x∈l.foldl (gQ p) acc,x∈acc∨x∈l
 | [],acc,x,h=>.inl h
 | y :: l,acc,x,h=>by
   rcases KN (l:=l) (acc:=gQ p acc y) x h with h | h
   ·unfold gQ at h
    split at h
    ·rcases List.mem_append.1 h with h | h
     ·exact .inl h
     ·simp at h; exact .inr (by simp[h])
    ·exact .inl h
   ·exact .inr (List.mem_cons_of_mem _ h)
def isNil (f:Str→Option Str) (s:Str) : Bool:=!(f s).isSome
def GK (TSt T:Nat) (c:au) : Prop:=∀ {M:RM} {sb n:Nat} {f:Str→Option Str} {W:Nat→Prop} {v:AV} {l:List Str} {Q:aj},mh TSt M sb f W n→Sl dU M v l→l.length≤10000000 →
 (∀ v' M',aa [] M M'→Ow dU M' M.next T v' (iZ (isNil f) l)→Q v' M')→c [.ptr sb 0,v] M Q
theorem OG {TSt T:Nat} {ch cc:au} (hh:LK TSt ch) (hc:Li cc) : GK TSt T fun args M Q=>∃ a0 a1,args=[a0,a1]∧kX ch cc T a0 a1 M Q:=by
 intro M sb n f W v l Q hst hs hl hQ
 refine⟨_,_,rfl, ?_⟩
 unfold kX
 simp only[ni,Sha.gz]
 rw[aK.len hs]
 refine aM (fun m ys M3=>∃ (i:Nat) (ov:AV),m=l.length - i∧ys=[ov,N .i64 (i:Int)]∧i≤l.length∧aa [] M M3∧Ow dU M3 M.next T ov (iZ (isNil f) (l.take i))) _ ⟨0,bQ,rfl,rfl,Nat.zero_le _,aa.refl _ _,.nil⟩ ?_
 rintro next m ys M3 hnext ⟨i,ov,rfl,rfl,hi,k3,o3⟩
 simp only[aI,dH]
 rw[jQ]
 refine aS (fun hlt=>?_) (fun hge=>?_)
 ·have hlt:i<l.length:=of_decide_eq_true hlt
  have hstep:iZ (isNil f) (l.take (i + 1))=gQ (isNil f) (iZ (isNil f) (l.take i)) l[i]:=by
   unfold iZ
   rw[List.take_succ_eq_append_getElem hlt,List.foldl_append]; rfl
  have hll:(iZ (isNil f) (l.take i)).length≤10000000:=by
   have:=EK (p:=isNil f) (l:=l.take i) (acc:=[])
   rw[List.length_take] at this
   unfold iZ; simp only[List.length_nil] at this; omega
  refine fV (fun zs M'=>∃ ov',zs=[ov']∧aa [] M M'∧Ow dU M' M.next T ov' (iZ (isNil f) (l.take (i + 1)))) ?_ ?_
  ·rintro zs M' ⟨ov',rfl,c1,c2⟩
   simp only[aI]
   rw[mW (by omega)]
   exact hnext _ _ _ (by omega) ⟨i + 1,ov',rfl,rfl,hlt,c1,c2⟩
  intro J hJ
  refine oI (aK.keep hs k3 (by simp)) hlt ?_
  refine hh (hst.keep k3 (by simp)) ?_
  rw[eU]
  refine andM (p:=!decide (l[i]∈iZ (isNil f) (l.take i))) (fun _ K hK=>?_) ?_
  ·refine hc (Own.kY o3) (by omega) ?_
   rw[eU]
   exact hK
  refine aS (fun hb=>?_) (fun hb=>?_)
  ·rw[iq (x:=St l[i]) (size:=1) rfl rfl rfl,aN]
   have hn3:=k3.next
   refine iw (E:=dU) (a:=l[i]) o3 (by omega) (by decide) (by omega) (by omega) fun v5 M5 o5 k5 hn5 hv5=>?_
   refine hJ _ _ ⟨v5,rfl,aa.own k3 k5 (fun x hx=>(Own.blk o3 x hx).1), ?_⟩
   have hb' : (isNil f l[i] && !decide (l[i]∈iZ (isNil f) (l.take i)))=true:=hb
   rw[hstep]
   unfold gQ
   rw[if_pos hb']
   exact o5
  ·refine hJ _ _ ⟨ov,rfl,k3, ?_⟩
   have hb' : ¬ (isNil f l[i] && !decide (l[i]∈iZ (isNil f) (l.take i)))=true:=by
    have:(isNil f l[i] && !decide (l[i]∈iZ (isNil f) (l.take i)))=false:=hb
    rw[this]; decide
   rw[hstep]
   unfold gQ
   rw[if_neg hb']
   exact o3
 ·have:i=l.length:=by
   have:¬ i<l.length:=of_decide_eq_false hge
   omega
  subst this
  rw[List.take_length] at o3
  exact hQ ov M3 k3 o3
structure Ob (n0:Nat) (M:RM) (v:AV) (l:List Str) : Prop where
 sl:Sl dU M v l
 new:∀ x∈ak v,n0≤x
theorem Ob.own {n0 T:Nat} {M:RM} {v:AV} {l:List Str} (h:Ow dU M n0 T v l) : Ob n0 M v l:=⟨Own.kY h,fun x hx=>(Own.blk h x hx).1⟩
def zO (f:Str→Option Str) (s:Str) : List Str:=match f s with
 | none=>[s]
 | some m=>match kw m with
   | none=>[]
   | some (_,l)=>iZ (isNil f) l
def ED (TSt:Nat) (c:au) : Prop:=∀ {M:RM} {sb n:Nat} {f:Str→Option Str} {W:Nat→Prop} {s:Str} {Q:aj},mh TSt M sb f W n→(∀ v' M',aa [] M M'→Ob M.next M' v' (zO f s)→Q v' M')→c [.ptr sb 0,St s] M Q
theorem Fs {m:Str} {n:Nat} {l:List Str} (h:kw m=some (n,l)) : l.length=(n + 64 - 1) / 64∧n≤4096∧∀ x∈l,x.length=64:=by
 have hn:=(Oi h).2
 unfold kw at h
 split at h
 ·cases h
 ·rename_i n' r h1
  split at h
  ·rename_i hl
   simp only[Option.some.injEq,Prod.mk.injEq] at h
   obtain⟨rfl,rfl⟩:=h
   have hl' : r.length=32 * ((n' + 64 - 1) / 64):=hl
   refine⟨by rw[List.length_map,dI]; unfold cO; omega,hn,fun x hx=>?_⟩
   obtain⟨y,hy,rfl⟩:=List.mem_map.1 hx
   obtain⟨k,hk,rfl⟩:=List.mem_map.1 hy
   have hk:=(fU (n:=32) (b:=r) (by decide)).1 (List.mem_range.1 hk)
   rw[yH,List.length_take,List.length_drop]
   omega
  ·cases h
theorem K7 {TSt T:Nat} {cn cl:au} (hn:tC T cn) (hl:GK TSt T cl) : ED TSt fun args M Q=>∃ a0 a1,args=[a0,a1]∧jO T cn cl a0 a1 M Q:=by
 rintro M sb n f W s Q hst hQ
 obtain⟨T',h,hT⟩:=id hst
 refine⟨_,_,rfl, ?_⟩
 unfold jO
 refine h.look (fun h0=>?_) fun v b h0 hb hbl hw=>?_
 ·simp only[gI,if_true]
  rw[bZ,dG,eU,Bool.not_false,gF,iq (x:=St s) (size:=1) rfl rfl rfl,aN]
  refine hQ _ _ ((aa.refl _ _).push _) ⟨?_,by simp[ak]⟩
  unfold zO; rw[h0]
  exact Sl.new (E:=dU) [s]
 ·simp only[gI,if_true]
  rw[bZ,dG,eU,Bool.not_true,fM]
  refine hn hb (by omega) (fun M1 k1 hx=>?_) (fun n' l lv M1 k1 hx o1=>?_)
  ·rw[bZ,dG,iI]
   refine hl (hst.keep k1 (by simp)) (v:=bQ) (l:=[]) .nil (by simp) fun v' M2 k2 o2=>?_
   refine hQ v' M2 (k1.trans k2) ?_
   unfold zO; rw[h0]; simp only[hx]
   exact Ob.own (Own.mono o2 k1.next)
  ·rw[bZ,dG,iI]
   have hle:=Fs hx
   refine hl (hst.keep k1 (by simp)) (Own.kY o1) (by rw[hle.1]; omega) fun v' M2 k2 o2=>?_
   refine hQ v' M2 (k1.trans k2) ?_
   unfold zO; rw[h0]; simp only[hx]
   exact Ob.own (Own.mono o2 k1.next)
theorem O9 {T32:Nat} {cr:au} {cv:FuncId→au} {g:FuncId} (hg:∀ {s:AV} {M:RM} {Q:aj},ku cr T32 s M Q→cv g [s] M Q) (hr:Ll cr) : Dp (fun _=>True) (fun x=>!gp x) (oZ cv (.fn (.func g) [] [])):=by
 intro M x Q _ hx hQ
 rw[Ki]
 refine hg ?_
 unfold ku
 refine hr hx fun cs M1 k1 h1 h2=>?_
 rw[bZ,dG]
 refine fF (BY.row (List.replicate 32 0)) fun M2 k2 n2 e2=>?_
 rw[kH n2 h1 (by rw[eY,List.length_replicate]) h2,cB]
 have e:((if gp x then(0:Int) else 14) != 0)=!gp x:=by cases gp x <;> rfl
 rw[e]
 exact hQ _ (k1.trans (k2.new _ (Nat.le_refl _)))
def PS (TSt:Nat) (c:au) : Prop:=∀ {M:RM} {sb n:Nat} {f:Str→Option Str} {W:Nat→Prop} {v:AV} {l:List Str} {Q:aj},mh TSt M sb f W n→Sl dU M v l→l.length≤10000000→(∀ x∈l,x.length≤281474976710656) →
 (∀ v' M',aa [] M M'→Ob M.next M' v' ((iZ (isNil f) l).filter gp)→Q v' M')→c [.ptr sb 0,v] M Q
theorem QT {TSt T:Nat} {cl cd:au} {g:FuncId} (hl:GK TSt T cl) (hd:E8 (fun _=>True) (fun x=>!gp x) (.fn (.func g) [] []) cd) : PS TSt fun args M Q=>∃ a0 a1,args=[a0,a1]∧lG cl cd g a0 a1 M Q:=by
 intro M sb n f W v l Q hst hs hll hlx hQ
 refine⟨_,_,rfl, ?_⟩
 unfold lG
 refine hl hst hs hll fun v1 M1 k1 o1=>?_
 have h1:=EK (p:=isNil f) (l:=l) (acc:=[])
 have h2:=KN (p:=isNil f) (l:=l) (acc:=[])
 refine hd trivial (fun _ _ _ _ _ _=>trivial) o1 (by unfold iZ; simp at h1; omega) (fun x hx=>hlx x ((h2 x hx).resolve_left (by simp))) fun v2 M2 s2 hb2 k2=>?_
 have e:(fun x=>!!gp x)=gp:=by funext x; simp
 rw[e] at s2
 exact hQ v2 M2 (aa.own k1 k2 (fun x hx=>(Own.blk o1 x hx).1)) ⟨s2,fun x hx=>(Own.blk o1 x (hb2 x hx)).1⟩
def mr (f:Str→Option Str) (c:Str) : Str:=(f c).getD []
def ql (f:Str→Option Str) (n:Nat) : Str→List Str→Str × Nat
 | acc,[]=>(acc,0)
 | acc,c :: l=>if (mr f c).length=min 64 (n - acc.length) then ql f n (acc++mr f c) l else([],14)
def mQ (f:Str→Option Str) (s:Str) : Str × Nat:=match f s with
 | none=>([],4)
 | some m=>match kw m with
   | none=>([],14)
   | some (n,l)=>if l.any (isNil f) then([],4) else ql f n [] l
def Lr (TSt:Nat) (c:au) : Prop:=∀ {M:RM} {sb n:Nat} {f:Str→Option Str} {W:Nat→Prop} {s:Str} {Q:aj},mh TSt M sb f W n→(∀ v' M',aa [] M M'→Nw M.next M' v' (mQ f s).1→Q (.tup [v',N .i64 ((mQ f s).2:Int)]) M')→c [.ptr sb 0,St s] M Q
theorem GQ {n0:Nat} {M:RM} : Nw n0 M bQ []:=⟨⟨.nil,trivial⟩,by simp[ak]⟩
theorem MU {TSt TP sb n b2:Nat} {f:Str→Option Str} {W:Nat→Prop} {ch:au} {cv:FuncId→au} {g:FuncId} (hg:∀ {s t:AV} {M:RM} {Q:aj},jL ch s t M Q→cv g [s,t] M Q) (hh:LK TSt ch) :
  Dp (fun M=>mh TSt M sb f W n∧M.heap b2=some (.row [.ptr sb 0] false TP 0)∧b2<M.next) (isNil f) (oZ cv (.fn (.func g) [] [.ptr b2 0])):=by
 intro M x Q hP hx hQ
 obtain⟨h1,h2,h3⟩:=hP
 rw[Ki]
 refine hg ?_
 unfold jL
 rw[aH h2 rfl]
 refine hh h1 ?_
 rw[eU]
 exact hQ M (aa.refl _ _)
theorem Qe {TSt TP T T8:Nat} {cn cc:au} {g:FuncId} (hn:tC T cn) (hc:∀ {sb n b2:Nat} {f:Str→Option Str} {W:Nat→Prop},Ky (fun M=>mh TSt M sb f W n∧M.heap b2=some (.row [.ptr sb 0] false TP 0)∧b2<M.next) (isNil f) (.fn (.func g) [] [.ptr b2 0]) cc) :
  Lr TSt fun args M Q=>∃ a0 a1,args=[a0,a1]∧kQ TP cn g cc T8 a0 a1 M Q:=by
 rintro M sb n f W s Q hst hQ
 refine⟨_,_,rfl, ?_⟩
 unfold kQ
 refine⟨rfl,Nat.le_refl 1, ?_⟩
 dsimp only
 refine fF [.ptr sb 0] fun M1 k1 n1 e1=>?_
 have XP:=hst.keep k1 (by simp)
 obtain⟨T',h,hT⟩:=id XP
 have hn1:=k1.next
 rw[aH n1 rfl]
 refine h.look (fun h0=>?_) fun v b h0 hb hbl hw=>?_
 ·simp only[gI,if_true]
  rw[bZ,dG,eU,Bool.not_false,gF]
  have:=hQ bQ M1 k1 (by unfold mQ; rw[h0]; exact GQ)
  unfold mQ at this; rw[h0] at this; exact this
 ·simp only[gI,if_true]
  rw[bZ,dG,eU,Bool.not_true,fM]
  refine hn hb (by omega) (fun M2 k2 hx=>?_) (fun n' l lv M2 k2 hx o2=>?_)
  ·rw[bZ,dG,iI,cB,show((14:Int) != 0)=true by decide,gF]
   have:=hQ bQ M2 (k1.trans k2) (by unfold mQ; rw[h0]; simp only[hx]; exact GQ)
   unfold mQ at this; rw[h0] at this; simp only[hx] at this; exact this
  ·rw[bZ,dG,iI,cB,show((0:Int) != 0)=false by decide,fM]
   obtain⟨hll,hn4,Ze⟩:=Fs hx
   have hn2:=k2.next
   have m1:=k2.az n1 (by omega) (by simp)
   have hls:=Own.kY o2
   refine hc (n:=n) (W:=W) ⟨XP.keep k2 (by simp),m1,by omega⟩ (fun Ma Mb ⟨q1,q2,q3⟩ k=>⟨q1.keep k (by simp),k.az q2 q3 (by simp),by have:=k.next; omega⟩) hls (by omega) (fun x hx=>by rw[Ze x hx]; decide) fun M3 k3=>?_
   have k13:=(k1.trans k2).trans k3
   have hn3:=k3.next
   have hPh:mQ f s=if l.any (isNil f) then([],4) else ql f n' [] l:=by unfold mQ; rw[h0]; simp only[hx]
   rw[hPh] at hQ
   refine aS (fun hany=>?_) (fun hany=>?_)
   ·rw[if_pos hany] at hQ
    exact hQ bQ M3 k13 GQ
   rw[if_neg (by rw[hany]; decide)] at hQ
   have hsome:∀ x∈l,∃ b,f x=some b:=fun x hx=>by
    have:=List.any_eq_false.1 hany x hx
    unfold isNil at this
    cases hf:f x with
    | none=>rw[hf] at this; simp at this
    | some b=>exact⟨b,rfl⟩
   have XM:=aK.keep hls k3 (by simp)
   rw[aK.len XM]
   have p1:=k3.az m1 (by omega) (by simp)
   refine aM (fun m ys M4=>∃ (i:Nat) (pv:AV) (acc:Str),m=l.length - i∧ys=[pv,N .i64 (i:Int)]∧i≤l.length∧aa [] M M4∧aa [] M3 M4∧Ow BY M4 M3.next T8 pv acc∧acc.length≤n'∧ql f n' acc (l.drop i)=ql f n' [] l) _ ⟨0,bQ,[],rfl,rfl,Nat.zero_le _,k13,aa.refl _ _,.nil,Nat.zero_le _,rfl⟩ ?_
   rintro next m ys M4 hnext ⟨i,pv,acc,rfl,rfl,hi,k4,k34,o4,hacc,hj⟩
   simp only[aI,dH]
   rw[jQ]
   have Zv:=k34.next
   refine aS (fun hlt=>?_) (fun hge=>?_)
   ·have hlt:i<l.length:=of_decide_eq_true hlt
    refine oI (aK.keep XM k34 (by simp)) hlt ?_
    rw[aH (k34.az p1 (by omega) (by simp)) rfl]
    obtain⟨b1,hb1⟩:=hsome _ (List.getElem_mem hlt)
    obtain⟨T4,h4,hT4⟩:=hst.keep k4 (by simp)
    rw[List.drop_eq_getElem_cons hlt,ql] at hj
    have hval:mr f l[i]=b1:=by unfold mr; rw[hb1]; rfl
    rw[hval] at hj
    refine h4.look (fun h00=>by rw[hb1] at h00; cases h00) fun w b2 h00 hb2 hbl2 hw2=>?_
    rw[hb1] at h00; cases h00
    simp only[gI,if_true]
    have:∀ {K:AV→Prop},(bA w fun t51=>bA pv fun t54=>ae .sub (N .i64 (n' : Int)) t54 fun t55=>EC false (N .i64 64) t55 fun t56=>ae .neq t51 t56 K)=K (Bo (!decide (b1.length=min 64 (n' - acc.length)))):=by
     intro K
     rw[hb2.len,aK.len (Own.kY o4),O1 (by omega) (by omega)]
     apply propext
     have hm:(if ((n' - acc.length:Nat) : Int)<(64:Int) then((n' - acc.length:Nat) : Int) else(64:Int))=((min 64 (n' - acc.length) : Nat) : Int):=Od 64 (n' - acc.length)
     have hne:(((b1.length:Nat) : Int) != ((min 64 (n' - acc.length) : Nat) : Int))=!decide (b1.length=min 64 (n' - acc.length)):=by
      rw[bne,Bool.not_inj_iff,Bool.eq_iff_iff,beq_iff_eq,decide_eq_true_iff]; omega
     constructor
     ·rintro⟨k,a,b,e1,e2,hK⟩
      cases e1; cases e2
      simp only[Bool.false_eq_true,if_false] at hK
      rw[hm,cB,hne] at hK; exact hK
     ·intro hK
      refine⟨_,_,_,rfl,rfl, ?_⟩
      simp only[Bool.false_eq_true,if_false]
      rw[hm,cB,hne]; exact hK
    rw[this]
    refine aS (fun hbad=>?_) (fun hgood=>?_)
    ·have hbad:¬ b1.length=min 64 (n' - acc.length):=by simpa using hbad
     rw[if_neg hbad] at hj
     rw[← hj] at hQ
     exact hQ bQ M4 k4 GQ
    ·have hgood:b1.length=min 64 (n' - acc.length):=by simpa using hgood
     rw[if_pos hgood] at hj
     refine pI (E:=BY) o4 Zv (by decide) hb2.sl (by omega) (by omega) fun v5 M5 o5 k5 hn5 hv5=>?_
     rw[mW (by omega)]
     have hbk:∀ x∈ak pv,M3.next≤x:=fun x hx=>(Own.blk o4 x hx).1
     have hnM:=k13.next
     refine hnext _ _ _ (by omega) ⟨i + 1,v5,acc++b1,rfl,rfl,hlt,k4.eP k5 (fun x hx=>.inl (by have:=hbk x hx; omega)),k34.eP k5 (fun x hx=>.inl (hbk x hx)),o5,by rw[List.length_append]; omega,hj⟩
   ·have:i=l.length:=by
     have:¬ i<l.length:=of_decide_eq_false hge
     omega
    subst this
    rw[List.drop_length,ql] at hj
    rw[← hj] at hQ
    have hnM:=k13.next
    exact hQ pv M4 k4 ⟨Bs.own o4,fun x hx=>by have:=(Own.blk o4 x hx).1; omega⟩
def KM (M:RM) (m:Nat) (kp:Str→Bool) : Prop:=∃ (L:List eF) (cl:Nat),M.heap m=some (.map (L.map eQ) cl)∧(L.map (·.1)).Nodup∧(∀ t∈L,t.2.1=Bo (kp t.1))∧∀ s,kp s=true→∃ t∈L,t.1=s
def uB (kp:Str→Bool) (s:Str) (b:Bool) : Str→Bool:=fun x=>if x=s then b else kp x
theorem KM.keep {M M' : RM} {m:Nat} {kp:Str→Bool} {ks:List Nat} (h:KM M m kp) (hm:m<M.next) (k:aa ks M M') (hk:m ∉ ks) : KM M' m kp:=by
 obtain⟨L,cl,h1,h2⟩:=h
 exact⟨L,cl,k.az h1 hm hk,h2⟩
theorem KM.look {M:RM} {m:Nat} {kp:Str→Bool} {s:Str} {K:AV→Prop} (h:KM M m kp) (hK:K (Bo (kp s))) : iC false [2] (Bo false) false M (.map m) (St s) K:=by
 obtain⟨L,cl,h1,h2,h3,h4⟩:=h
 rcases sP s L 0 with⟨a1,a2⟩ | ⟨j,t,a1,a2,a3⟩
 ·refine⟨m,_,cl,[St s],none,rfl,h1,rfl,rfl,a2, ?_⟩
  have:kp s=false:=by
   cases hk:kp s with
   | false=>rfl
   | true=>obtain⟨t,ht,e⟩:=h4 s hk; exact absurd e (a1 t ht)
  rw[this] at hK; exact hK
 ·refine⟨m,_,cl,[St s],_,rfl,h1,rfl,rfl,a3, ?_⟩
  show K t.2.1
  rw[h3 t (List.mem_of_getElem? a1),a2]; exact hK
theorem Q8 {s:Str} {v:AV} : ∀ {L:List eF} {j:Nat} {t:eF},L[j]?=some t→BM (St s) v (L.map eQ) j=(L.set j (s,v,t.2.2)).map eQ
 | t :: L,0,t',h=>by simp at h; subst h; rfl
 | x :: L,j + 1,t,h=>by
   simp only[List.map_cons,List.set_cons_succ,BM]
   rw[Q8 (by simpa using h)]
theorem KM.upd {M:RM} {m:Nat} {kp:Str→Bool} {s:Str} {b:Bool} {K:RM→Prop} (h:KM M m kp) (hK:∀ M',KM M' m (uB kp s b)→aa [m] M M'→M'.next=M.next→K M') : lT false [2] M (.map m) (St s) (Bo b) K:=by
 obtain⟨L,cl,h1,h2,h3,h4⟩:=h
 have hk:∀ X,aa [m] M (M.put m X):=fun X=>(aa.refl _ _).put _ (.inr (by simp))
 rcases sP s L 0 with⟨a1,a2⟩ | ⟨j,t,a1,a2,a3⟩
 ·refine⟨m,_,cl,[St s],none,rfl,h1,rfl,rfl,a2,hK _ ⟨L++[(s,Bo b,cl)],cl + 1, ?_, ?_, ?_, ?_⟩ (hk _) rfl⟩
  ·rw[aG]; simp[zR,eQ]
  ·rw[List.map_append,List.nodup_append]
   refine⟨h2,by simp, ?_⟩
   intro a ha c hc e
   obtain⟨t,ht,rfl⟩:=List.mem_map.1 ha
   simp at hc
   exact a1 t ht (by rw[e,hc])
  ·intro t ht
   rcases List.mem_append.1 ht with ht | ht
   ·rw[h3 t ht]; unfold uB; rw[if_neg (a1 t ht)]
   ·simp at ht; subst ht; unfold uB; rw[if_pos rfl]
  ·intro x hx
   unfold uB at hx
   by_cases e:x=s
   ·exact⟨_,List.mem_append_right _ (List.mem_singleton.2 rfl),e.symm⟩
   ·rw[if_neg e] at hx
    obtain⟨t,ht,e⟩:=h4 x hx
    exact⟨t,List.mem_append_left _ ht,e⟩
 ·have hj:j<L.length:=(List.getElem?_eq_some_iff.1 a1).1
  have hjt:L[j]=t:=(List.getElem?_eq_some_iff.1 a1).2
  refine⟨m,_,cl,[St s],_,rfl,h1,rfl,rfl,a3,hK _ ⟨L.set j (s,Bo b,t.2.2),cl, ?_, ?_, ?_, ?_⟩ (hk _) rfl⟩
  ·rw[aG]; simp only[zR,Nat.zero_add]; rw[Q8 a1]
  ·have:(L.set j (s,Bo b,t.2.2)).map (·.1)=L.map (·.1):=by
    rw[List.map_set]
    apply List.ext_getElem?
    intro i
    rw[List.getElem?_set]
    split
    ·rename_i e; subst e; simp[hj,hjt,a2]
    ·rfl
   rw[this]; exact h2
  ·intro x hx
   obtain⟨i,hi,rfl⟩:=List.getElem_of_mem hx
   rw[List.length_set] at hi
   rw[List.getElem_set]
   split
   ·unfold uB; simp
   ·rename_i hne
    unfold uB
    have hne2:L[i].1≠s:=by
     intro e
     have e2:(L.map (·.1))[i]'(by simpa using hi)=(L.map (·.1))[j]'(by simpa using hj):=by simp[e,hjt,a2]
     have:=(List.getElem_inj h2).1 e2
     omega
    rw[if_neg hne2]
    exact h3 _ (List.getElem_mem hi)
  ·intro x hx
   unfold uB at hx
   by_cases e:x=s
   ·exact⟨_,List.mem_set hj _,e.symm⟩
   ·rw[if_neg e] at hx
    obtain⟨y,hy,e2⟩:=h4 x hx
    obtain⟨i,hi,rfl⟩:=List.getElem_of_mem hy
    refine⟨L[i], ?_,e2⟩
    have hne:j≠i:=fun e3=>by subst e3; exact e (by rw[← e2,hjt,a2])
    have:(L.set j (s,Bo b,t.2.2))[i]'(by rw[List.length_set]; exact hi)=L[i]:=by rw[List.getElem_set,if_neg hne]
    rw[← this]; exact List.getElem_mem _
def Ty (m:Str) : List Str:=match kw m with
 | none=>[]
 | some (_,l)=>l
def PI (m:Str) : Bool:=(kw m).isSome
def Kb (f:Str→Option Str) (kp:Str→Bool) (p:Str) : Str→Bool:=(Ty (mr f p)).foldl (fun k c=>uB k c true) (uB kp p (kp p || PI (mr f p)))
def lh (f:Str→Option Str) (l:List Str) : Str→Bool:=l.foldl (Kb f) (fun _=>false)
theorem IZ:∀ {T:List eF} {j:Nat},(T.map eQ).eraseIdx j=(T.eraseIdx j).map eQ
 | [],j=>rfl
 | x :: T,0=>rfl
 | x :: T,j + 1=>by rw[List.map_cons,List.eraseIdx_cons_succ,List.eraseIdx_cons_succ,List.map_cons,IZ]
theorem erase_filter:∀ {T:List eF} {j:Nat} {t:eF},(T.map (·.1)).Nodup→T[j]?=some t→T.eraseIdx j=T.filter fun x=>decide (x.1≠t.1)
 | x :: T,0,t,hn,h=>by
   simp at h; subst h
   rw[List.map_cons,List.nodup_cons] at hn
   rw[List.eraseIdx_cons_zero,List.filter_cons]
   simp only[ne_eq,not_true_eq_false,decide_false,Bool.false_eq_true,if_false]
   exact(List.filter_eq_self.2 fun y hy=>by rw[decide_eq_true_eq]; exact fun e=>hn.1 (by rw[← e]; exact List.mem_map_of_mem hy)).symm
 | x :: T,j + 1,t,hn,h=>by
   rw[List.map_cons,List.nodup_cons] at hn
   have ht:t∈T:=List.mem_of_getElem? (by simpa using h)
   have hne:x.1≠t.1:=fun e=>hn.1 (by rw[e]; exact List.mem_map_of_mem ht)
   rw[List.eraseIdx_cons_succ,List.filter_cons,if_pos (decide_eq_true hne),erase_filter hn.2 (by simpa using h)]
def OL (TSt:Nat) (c:au) : Prop:=∀ {M:RM} {sb:Nat} {T:List eF} {f:Str→Option Str} {W:Nat→Prop} {v:AV} {l:List Str} {Q:aj},oN TSt M sb T f W→T.length≤1000000→Sl dU M v l→l.length≤1000000 →
 (∀ M' ks,oN TSt M' sb (T.filter fun t=>lh f l t.1) (fun s=>if lh f l s then f s else none) W→aa ks M M'→(∀ x∈ks,W x)→Q (N .i64 ((T.length - (T.filter fun t=>lh f l t.1).length:Nat) : Int)) M')→c [.ptr sb 0,v] M Q
theorem Re {TSt TN:Nat} {cn:au} (hn:tC TN cn) : OL TSt fun args M Q=>∃ a0 a1,args=[a0,a1]∧lF cn a0 a1 M Q:=by
 intro M sb T f W v l Q h hT hs hl hQ
 refine⟨_,_,rfl, ?_⟩
 unfold lF
 simp only[ni]
 rw[aN]
 have k1:aa [] M (M.push (.map [] 0)):=(aa.refl _ _).push _
 have n1:(M.push (.map [] 0)).heap M.next=some (.map [] 0):=RM.bI _
 have x1:(M.push (.map [] 0)).next=M.next + 1:=rfl
 generalize M.push (.map [] 0)=M1 at *
 have km1:KM M1 M.next (fun _=>false):=⟨[],0,n1,.nil,by simp,by simp⟩
 rw[aK.len hs]
 refine aM (fun m ys M3=>∃ i:Nat,m=l.length - i∧ys=[N .i64 (i:Int)]∧i≤l.length∧aa [] M M3∧M.next<M3.next∧KM M3 M.next (lh f (l.take i))) _ ⟨0,rfl,rfl,Nat.zero_le _,k1,by omega,km1⟩ ?_
 rintro next m ys M3 hnext ⟨i,rfl,rfl,hi,k3,hn3,km3⟩
 simp only[aI]
 rw[jQ]
 refine aS (fun hlt=>?_) (fun hge=>?_)
 ·have hlt:i<l.length:=of_decide_eq_true hlt
  have hstep:lh f (l.take (i + 1))=Kb f (lh f (l.take i)) l[i]:=by
   unfold lh
   rw[List.take_succ_eq_append_getElem hlt,List.foldl_append]; rfl
  refine oI (aK.keep hs k3 (by simp)) hlt ?_
  have h3:=h.keep k3 (by simp)
  have go:∀ w,Bs M3 w (mr f l[i])→(mr f l[i]).length≤1000000→cn [w] M3 fun t29 M_1=>bz t29 0 fun t30=>bz t29 1 fun t31=>bz t29 2 fun t32=>iC false [2] (Bo false) false M_1 (.map M.next) (St l[i]) fun t37 =>
    ay t37 false (fun k=>ae .eql t32 (N .i64 0) fun t40=>k t40 M_1) (fun k=>k .undef M_1) fun YH M_5=>aY t37 (Bo true) YH fun t41=>lT false [2] M_5 (.map M.next) (St l[i]) t41 fun M_6=>bA t31 fun t43 =>
    bC (fun LU EM M_9=>ae .lss (ah EM 0) t43 fun t45=>aA t45 (aZ t31 (ah EM 0) 1 fun t46=>ag M_9 t46 fun t47=>lT false [2] M_9 (.map M.next) t47 (Bo true) fun SY=>ae .add (ah EM 0) (N .i64 1) fun t50=>LU [t50] SY) (ae .add (N .i64 (i:Int)) (N .i64 1) fun t51=>next [t51] M_9)) [(N .i64 0)] M_6:=by
   intro w hw hwl
   have inner:∀ (lv:AV) (ls:List Str) (kp:Str→Bool) (M4:RM),Sl dU M4 lv ls→ls.length≤10000→(∀ x∈ak lv,x≠M.next)→aa [] M M4→M.next<M4.next→KM M4 M.next kp→ls.foldl (fun k c=>uB k c true) kp=lh f (l.take (i + 1)) →
     (bA lv fun t43=>bC (fun LU EM M_9=>ae .lss (ah EM 0) t43 fun t45=>aA t45 (aZ lv (ah EM 0) 1 fun t46=>ag M_9 t46 fun t47=>lT false [2] M_9 (.map M.next) t47 (Bo true) fun SY=>ae .add (ah EM 0) (N .i64 1) fun t50=>LU [t50] SY) (ae .add (N .i64 (i:Int)) (N .i64 1) fun t51=>next [t51] M_9)) [(N .i64 0)] M4):=by
    intro lv ls kp M4 hls hll hbl k4 hn4 km4 hfin
    rw[aK.len hls]
    refine aM (fun m ys M5=>∃ j:Nat,m=ls.length - j∧ys=[N .i64 (j:Int)]∧j≤ls.length∧aa [] M M5∧M.next<M5.next∧KM M5 M.next ((ls.take j).foldl (fun k c=>uB k c true) kp)∧Sl dU M5 lv ls) _ ⟨0,rfl,rfl,Nat.zero_le _,k4,hn4,km4,hls⟩ ?_
    rintro next' m' ys' M5 WK ⟨j,rfl,rfl,hj,k5,hn5,km5,WM⟩
    simp only[aI]
    rw[jQ]
    refine aS (fun hlt=>?_) (fun hge=>?_)
    ·have hlt:j<ls.length:=of_decide_eq_true hlt
     refine oI WM hlt ?_
     refine km5.upd fun M6 km6 k6 e6=>?_
     rw[mW (by omega)]
     refine WK _ _ _ (by omega) ⟨j + 1,rfl,rfl,hlt,k5.eP k6 (by simp),by omega, ?_,aK.keep WM k6 (fun x hx hm=>by simp at hm; exact hbl x hx hm)⟩
     rw[List.take_succ_eq_append_getElem hlt,List.foldl_append]; exact km6
    ·have:j=ls.length:=by
      have:¬ j<ls.length:=of_decide_eq_false hge
      omega
     subst this
     rw[List.take_length,hfin] at km5
     rw[mW (by omega)]
     exact hnext _ _ _ (by omega) ⟨i + 1,rfl,rfl,hlt,k5,hn5,km5⟩
   have WU:∀ {c p:Bool} {M:RM} {x:Int} {G:AV→RM→Prop},(decide (x=0))=p→G (Bo (c || p)) M→ay (Bo c) false (fun k=>ae .eql (N .i64 x) (N .i64 0) fun t40=>k t40 M) (fun k=>k .undef M) (fun t M'=>aY (Bo c) (Bo true) t fun u=>G u M'):=by
    intro c p M x G hx hG
    refine Uu (p:=p) (fun _ K hK=>?_) hG
    rw[bK,show(x == 0)=p by rw[← hx,Bool.eq_iff_iff,beq_iff_eq,decide_eq_true_iff]]
    exact hK
   refine hn hw (by omega) (fun M4 k4 hx=>?_) (fun n' ls lv M4 k4 hx o4=>?_)
   ·rw[bZ,dG,iI]
    have hn4:=k4.next
    have km4:=km3.keep (by omega) k4 (by simp)
    refine km4.look ?_
    refine WU (p:=false) (by decide) ?_
    refine km4.upd fun M5 km5 k5 e5=>?_
    refine inner bQ [] _ M5 .nil (by simp) (by simp[ak]) ((k3.trans k4).eP k5 (by simp)) (by omega) km5 ?_
    rw[hstep]
    unfold Kb Ty PI
    rw[hx]; rfl
   ·rw[bZ,dG,iI]
    have hn4:=k4.next
    have km4:=km3.keep (by omega) k4 (by simp)
    have hle:=Fs hx
    refine km4.look ?_
    refine WU (p:=true) (by decide) ?_
    refine km4.upd fun M5 km5 k5 e5=>?_
    have hbl:∀ x∈ak lv,x≠M.next:=fun x hx=>by have:=(Own.blk o4 x hx).1; omega
    refine inner lv ls _ M5 (aK.keep (Own.kY o4) k5 (fun x hx hm=>by simp at hm; exact hbl x hx hm)) (by omega) hbl ((k3.trans k4).eP k5 (by simp)) (by omega) km5 ?_
    rw[hstep]
    unfold Kb Ty PI
    rw[hx]; rfl
  refine h3.look (fun h0=>?_) fun w b h0 hb hbl hw=>?_
  ·have e:mr f l[i]=[]:=by unfold mr; rw[h0]; rfl
   exact go bQ (by rw[e]; exact⟨.nil,trivial⟩) (by rw[e]; simp)
  ·have e:mr f l[i]=b:=by unfold mr; rw[h0]; rfl
   exact go w (by rw[e]; exact hb) (by rw[e]; exact hbl)
 ·have:i=l.length:=by
   have:¬ i<l.length:=of_decide_eq_false hge
   omega
  subst this
  rw[List.take_length] at km3
  have h3:=h.keep k3 (by simp)
  obtain⟨mb,cl,g1,g2,g3,g4,g5,g6⟩:=h3.map
  have Pv:mb<M.next:=h.lt _ g1
  have hslt:sb<M.next:=h.lt _ h.own
  rw[bF,iW,Nat.zero_add,aH g3 rfl]
  refine⟨mb,_,cl,rfl,g4, ?_⟩
  have k4:aa [] M3 (M3.push (.iter (some mb) cl [] cl)):=(aa.refl _ _).push _
  have n4:(M3.push (.iter (some mb) cl [] cl)).heap M3.next=some (.iter (some mb) cl [] cl):=RM.bI _
  have x4:(M3.push (.iter (some mb) cl [] cl)).next=M3.next + 1:=rfl
  generalize M3.push (.iter (some mb) cl [] cl)=M4 at *
  obtain⟨kp,hkp⟩ : ∃ kp,lh f l=kp:=⟨_,rfl⟩
  rw[hkp] at hQ km3
  have hf0:(T.filter fun t=>decide (t.2.2 ∉ ([] : List Nat)) || kp t.1)=T:=List.filter_eq_self.2 fun t _=>by simp
  refine aM (fun z ys M'=>∃ seen:List Nat,z=jC seen T∧ys=[N .i64 ((T.length - (T.filter fun t=>decide (t.2.2 ∉ seen) || kp t.1).length:Nat) : Int)]∧aa [mb] M M'∧M3.next<M'.next∧M'.heap M3.next=some (.iter (some mb) cl seen cl) ∧
   M'.heap mb=some (.map ((T.filter fun t=>decide (t.2.2 ∉ seen) || kp t.1).map eQ) cl)∧M'.heap sb=some (.row [.map mb] false TSt 0)∧KM M' M.next kp) (jC [] T)
   ⟨[],rfl,by rw[hf0,Nat.sub_self]; rfl,(k3.trans k4).mono (by simp),by omega,n4,by rw[hf0]; exact k4.az g4 (by omega) (by simp),k4.az g3 (by omega) (by simp),km3.keep (by omega) k4 (by simp)⟩ ?_
  rintro next z ys M' hnext ⟨seen,rfl,rfl,q1,q2,q3,q4,q5,q6⟩
  simp only[aI]
  have wfP:=g5.filter (fun t=>decide (t.2.2 ∉ seen) || kp t.1)
  refine⟨M3.next,mb,cl,seen,cl,_,cl,rfl,q3,q4, ?_,fun e he hs'=>?_,fun ha=>?_⟩
  ·generalize hTP:(T.filter fun t=>decide (t.2.2 ∉ seen) || kp t.1)=TP at *
   cases TP with
   | nil=>exact .inr (.inl rfl)
   | cons t TP=>exact .inr (.inr ⟨eQ t,by simp,wfP.lt t (List.mem_cons_self ..)⟩)
  ·obtain⟨t,ht,rfl⟩:=List.mem_map.1 he
   have htT:t∈T:=(List.mem_filter.1 ht).1
   obtain⟨r3,_,_⟩:=qd (g:=fun _=>0) (seen:=seen) wfP.up t ht hs'
   obtain⟨_,_,r7⟩:=qd (g:=fun _=>0) (seen:=seen) g5.up t htT hs'
   rw[bZ,gF]
   have k5:aa [mb] M (M'.put M3.next (.iter (some mb) cl (seen++[(eQ t).2.2]) cl)):=q1.put _ (.inl (by have:=k3.next; omega))
   have kk5:aa [M3.next] M' (M'.put M3.next (.iter (some mb) cl (seen++[(eQ t).2.2]) cl)):=(aa.refl _ _).put _ (.inr (by simp))
   have hn3':=k3.next
   have hnM:=q1.next
   have s3:(M'.put M3.next (.iter (some mb) cl (seen++[(eQ t).2.2]) cl)).heap M3.next=some (.iter (some mb) cl (seen++[(eQ t).2.2]) cl):=aG _
   have s4:=kk5.az q4 (by omega) (by simp; omega)
   have s5:=kk5.az q5 (by omega) (by simp; omega)
   have s6:=q6.keep (by omega) kk5 (by simp; omega)
   have e5:(M'.put M3.next (.iter (some mb) cl (seen++[(eQ t).2.2]) cl)).next=M'.next:=rfl
   generalize M'.put M3.next (.iter (some mb) cl (seen++[(eQ t).2.2]) cl)=M5 at *
   refine⟨M3.next,mb,cl,seen,_,cl,_,_,rfl,s3,s4,r3, ?_⟩
   dsimp only
   rw[bZ,show(eQ t).1=St t.1 from rfl]
   refine s6.look ?_
   rw[eU]
   have other:∀ x∈T,x.1≠t.1→(decide (x.2.2 ∉ seen++[t.2.2]) || kp x.1)=(decide (x.2.2 ∉ seen) || kp x.1):=by
    intro x hx hne
    have:x.2.2≠t.2.2:=fun e=>by
     obtain⟨i,hi,rfl⟩:=List.getElem_of_mem hx
     obtain⟨j,hj,rfl⟩:=List.getElem_of_mem htT
     have hp:=List.pairwise_iff_getElem.1 g5.up
     rcases Nat.lt_trichotomy i j with hij | hij | hij
     ·have:=hp i j hi hj hij; omega
     ·subst hij; exact hne rfl
     ·have:=hp j i hj hi hij; omega
    have e:(x.2.2 ∉ seen++[t.2.2])=(x.2.2 ∉ seen):=by
     simp only[List.mem_append,List.mem_singleton,this,or_false]
    simp only[e]
   refine aS (fun hno=>?_) (fun Sv=>?_)
   ·have hno:kp t.1=false:=by simpa using hno
    rw[bF,iW,Nat.zero_add,aH s5 rfl]
    rcases sP t.1 (T.filter fun t=>decide (t.2.2 ∉ seen) || kp t.1) 0 with⟨a1,_⟩ | ⟨j,t',a1,a2,a3⟩
    ·exact absurd rfl (a1 t ht)
    have hj:=(List.getElem?_eq_some_iff.1 a1).1
    refine⟨mb,_,cl,[St t.1],_,rfl,s4,rfl,rfl,a3, ?_⟩
    have k6:aa [mb] M5 (M5.put mb (H6 ((T.filter fun t=>decide (t.2.2 ∉ seen) || kp t.1).map eQ) cl (some (0 + j,t'.2.1)))):=(aa.refl _ _).put _ (.inr (by simp))
    have hfil:(T.filter fun x=>decide (x.2.2 ∉ seen++[t.2.2]) || kp x.1)=(T.filter fun t=>decide (t.2.2 ∉ seen) || kp t.1).eraseIdx j:=by
     rw[erase_filter wfP.nodup a1,List.filter_filter]
     refine List.filter_congr fun x hx=>?_
     by_cases hxt:x.1=t.1
     ·have:=g5.same hx htT hxt
      subst this
      simp[hno,a2]
     ·rw[other x hx hxt,a2]
      simp[hxt]
    have m4:(M5.put mb (H6 ((T.filter fun t=>decide (t.2.2 ∉ seen) || kp t.1).map eQ) cl (some (0 + j,t'.2.1)))).heap mb=some (.map ((T.filter fun x=>decide (x.2.2 ∉ seen++[t.2.2]) || kp x.1).map eQ) cl):=by
     rw[aG,hfil]
     simp only[H6,Nat.zero_add]
     rw[IZ]
    have e6:(M5.put mb (H6 ((T.filter fun t=>decide (t.2.2 ∉ seen) || kp t.1).map eQ) cl (some (0 + j,t'.2.1)))).next=M5.next:=rfl
    dsimp only
    generalize M5.put mb (H6 ((T.filter fun t=>decide (t.2.2 ∉ seen) || kp t.1).map eQ) cl (some (0 + j,t'.2.1)))=M6 at *
    have hlen:(T.filter fun x=>decide (x.2.2 ∉ seen++[t.2.2]) || kp x.1).length + 1=(T.filter fun t=>decide (t.2.2 ∉ seen) || kp t.1).length:=by
     rw[hfil,List.length_eraseIdx_of_lt hj]; omega
    have hle:(T.filter fun t=>decide (t.2.2 ∉ seen) || kp t.1).length≤T.length:=List.length_filter_le ..
    rw[mW (by omega),show T.length - (T.filter fun t=>decide (t.2.2 ∉ seen) || kp t.1).length + 1=T.length - (T.filter fun x=>decide (x.2.2 ∉ seen++[t.2.2]) || kp x.1).length by omega]
    exact hnext _ _ _ r7 ⟨seen++[t.2.2],rfl,rfl,k5.trans k6,by omega,k6.az s3 (by omega) (by simp; omega),m4,k6.az s5 (by omega) (by simpa using g2.symm),s6.keep (by omega) k6 (by simp; omega)⟩
   ·have Sv:kp t.1=true:=by simpa using Sv
    have hfil:(T.filter fun x=>decide (x.2.2 ∉ seen++[t.2.2]) || kp x.1)=(T.filter fun t=>decide (t.2.2 ∉ seen) || kp t.1):=by
     refine List.filter_congr fun x hx=>?_
     by_cases hxt:x.1=t.1
     ·have:=g5.same hx htT hxt
      subst this
      simp[Sv]
     ·exact other x hx hxt
    exact hnext _ _ _ r7 ⟨seen++[t.2.2],rfl,by rw[hfil],k5,by omega,s3,by rw[hfil]; exact s4,s5,s6⟩
  ·dsimp only
   rw[bZ,fM]
   have hfil:(T.filter fun t=>decide (t.2.2 ∉ seen) || kp t.1)=T.filter fun t=>kp t.1:=by
    refine List.filter_congr fun t ht=>?_
    cases hk:kp t.1 with
    | true=>simp
    | false =>
      have:t.2.2∈seen:=by
       rcases Classical.em (t.2.2∈seen) with hx | hx
       ·exact hx
       ·have:=ha (eQ t) (List.mem_map_of_mem (List.mem_filter.2 ⟨ht,by simp[hx]⟩)) hx
        have:=g5.lt t ht
        simp only[eQ] at *
        omega
      simp[this]
   rw[hfil] at q4 ⊢
   refine hQ M' [mb] ⟨fun x hx=>Nat.lt_of_lt_of_le (h.lt x hx) q1.next,h.own,⟨mb,cl,g1,g2,q5,q4,g5.filter _,fun t ht=>g6 t (List.mem_filter.1 ht).1⟩,fun t ht=>?_,fun s b hs=>?_,fun t ht=>h.nm t (List.mem_filter.1 ht).1⟩ q1 (by simpa using g1)
   ·obtain⟨ht1,ht2⟩:=List.mem_filter.1 ht
    obtain⟨b,p1,p2,p3,p4⟩:=h.val t ht1
    exact⟨b,by rw[if_pos ht2]; exact p1,p2.keep q1 (fun x hx hm=>by simp at hm; exact(g6 t ht1 x hx).1 hm),p3,p4⟩
   ·by_cases hk:kp s=true
    ·rw[if_pos hk] at hs
     obtain⟨t,ht,e⟩:=h.dom s b hs
     exact⟨t,List.mem_filter.2 ⟨ht,by rw[e]; exact hk⟩,e⟩
    ·rw[if_neg hk] at hs; cases hs
abbrev aas:=Str × Str
section
variable {M M' : RM} {base T:Nat} {v:AV} {w:List aas} {S S' : Nat→Prop} {ks:List Nat}
end
def QE (fr i:Nat) : UInt8:=UInt8.ofNat ((fr + 7 * i) % 256)
def mR (n fr:Nat) : Str:=(List.range n).map fun i=>QE fr i
theorem rU (n fr:Nat) : (mR n fr).length=n:=by simp[mR]
def IM (c:au) : Prop:=∀ {M:RM} {n fr:Nat} {Q:aj},n≤1000→fr<256→(∀ v M',aa [] M M'→Nw M.next M' v (mR n fr)→Q v M')→c [N .i64 (n:Int),N .u8 (fr:Int)] M Q
theorem Oa:∀ n:Nat,fP [(N .u8 0)] n=BY.row (List.replicate n 0)
 | 0=>rfl
 | n + 1=>by rw[fP,Oa n,List.replicate_succ,Enc.gJ]; rfl
theorem Ni {T:Nat} : IM fun args M Q=>∃ a0 a1,args=[a0,a1]∧rf T a0 a1 M Q:=by
 intro M n fr Q hn hfr hQ
 refine⟨_,_,rfl, ?_⟩
 unfold rf
 refine⟨_,_,(n:Int),(n:Int),rfl,rfl,by omega,Int.le_refl _,by rw[Int.toNat_natCast]; omega,by rw[Int.toNat_natCast]; omega, ?_⟩
 rw[Int.toNat_natCast,Oa]
 dsimp only
 rw[aN]
 have k1:aa [] M (M.push (.row (BY.row (List.replicate n 0)) false T 0)):=(aa.refl _ _).push _
 have n1:(M.push (.row (BY.row (List.replicate n 0)) false T 0)).heap M.next=some (.row (BY.row (List.replicate n 0)) false T 0):=RM.bI _
 have e1:(M.push (.row (BY.row (List.replicate n 0)) false T 0)).next=M.next + 1:=rfl
 generalize M.push (.row (BY.row (List.replicate n 0)) false T 0)=M1 at *
 have r1:Rw BY M1 M.next false T (List.replicate n 0):=⟨n1,by omega⟩
 refine aM (fun m ys M3=>∃ (i:Nat) (d:Str),m=n - i∧ys=[N .i64 (i:Int)]∧i≤n∧aa [] M M3∧Rw BY M3 M.next false T d∧d.length=n∧d.take i=mR i fr) _ ⟨0,_,rfl,rfl,Nat.zero_le _,k1,r1,by simp,by simp[mR]⟩ ?_
 rintro next m ys M3 hnext ⟨i,d,rfl,rfl,hi,k3,r3,hd,hp⟩
 simp only[aI]
 rw[jQ]
 refine aS (fun hlt=>?_) (fun hge=>?_)
 ·have hlt:i<n:=of_decide_eq_true hlt
  rw[fo,show(i:Int) * 7=((i * 7:Nat) : Int) by omega,aL (by omega) (by omega),bT,wrap_u8,bi,show(fr:Int) + ((i * 7 % 256:Nat) : Int)=((fr + i * 7 % 256:Nat) : Int) by omega,wrap_u8]
  have e:N .u8 (((fr + i * 7 % 256) % 256:Nat) : Int)=By (QE fr i):=by
   rw[By,QE,GH]; congr 2; omega
  rw[e,← hd]
  obtain⟨st1,st2⟩:=r3.QZ (i:=i) (by omega) (QE fr i) rfl (u:=By (QE fr i)) rfl
  rw[Uj (by omega)]
  refine⟨_,i,_,rfl,rfl,st1, ?_⟩
  dsimp only
  rw[mW (by omega)]
  refine hnext _ _ _ (by omega) ⟨i + 1,_,rfl,rfl,hlt,k3.put _ (.inl (Nat.le_refl _)),st2,by simpa using hd, ?_⟩
  rw[List.take_succ_eq_append_getElem (by rw[List.length_set]; omega),List.getElem_set_self,List.take_set_of_le (Nat.le_refl _),hp]
  unfold mR
  rw[List.range_succ,List.map_append]; rfl
 ·have:i=n:=by
   have:¬ i<n:=of_decide_eq_false hge
   omega
  subst this
  rw[List.take_of_length_le (by omega)] at hp
  subst hp
  refine hQ _ M3 k3 ⟨⟨?_,Nat.le_refl _⟩,by simp[ak]⟩
  have:=r3.sl (cap:=.ex i)
  rw[rU] at this; exact this
set_option maxRecDepth 100000
def pA:Str:=mR 65 1
def c0:Str:=pA.take 64
def c1:Str:=pA.drop 64
def oT:Str:=[111,116,104,101,114]
def mA:Str:=65 :: (rA c0++rA c1)
def nA:Str:=dS mA
def n0:Str:=dS c0
def n1:Str:=dS c1
def nO:Str:=dS oT
theorem Zf:AJ pA=mA:=by
 have h:(bq 64 pA)=[c0,c1]:=by decide +kernel
 unfold AJ mA
 rw[h]
 have:pA.length=65:=rU 65 1
 rw[this,uH (by decide)]
 simp
theorem aaW:bq 64 pA=[c0,c1]:=by decide +kernel
theorem Vd:n0≠n1:=by decide +kernel
theorem U0:nA≠n0:=by decide +kernel
theorem UZ:nA≠n1:=by decide +kernel
theorem dOA:nO≠nA:=by decide +kernel
theorem dO0:nO≠n0:=by decide +kernel
theorem dO1:nO≠n1:=by decide +kernel
theorem Qt:kw mA=some (65,[n0,n1]):=by decide +kernel
theorem isN:gp nA=true∧gp nO=true:=by decide +kernel
theorem cc:c0++c1=pA:=List.take_append_drop 64 pA
theorem l0:c0.length=64:=by decide +kernel
theorem l1:c1.length=1:=by decide +kernel
theorem lM:mA.length=65:=by decide +kernel
set_option maxRecDepth 10000
theorem FK {f:Str→Option Str} {b n:Str} (hn:dS b=n) (h0:f n=none) (s:Str) : rC f b s=if s=n then some b else f s:=by
 subst hn
 unfold rC
 by_cases h:s=dS b
 ·rw[if_pos ⟨h,h0⟩,if_pos h]
 ·rw[if_neg (fun hc=>h hc.1),if_neg h]
theorem eA:dS mA=nA:=rfl
theorem e0:dS c0=n0:=rfl
theorem e1:dS c1=n1:=rfl
theorem eO:dS oT=nO:=rfl
def f1:Str→Option Str:=rC (fun _=>none) mA
def f3:Str→Option Str:=rC (rC f1 c0) c1
theorem F9 (s:Str) : f1 s=if s=nA then some mA else none:=FK eA rfl s
theorem Va (s:Str) : rC f1 c0 s=if s=n0 then some c0 else if s=nA then some mA else none:=by
 rw[FK e0 (by rw[F9,if_neg (fun h=>U0 h.symm)]),F9]
theorem FY (s:Str) : f3 s=if s=n1 then some c1 else if s=n0 then some c0 else if s=nA then some mA else none:=by
 unfold f3
 rw[FK e1 (by rw[Va,if_neg (fun h=>Vd h.symm),if_neg (fun h=>UZ h.symm)]),Va]
theorem MF:f3 nA=some mA:=by rw[FY,if_neg UZ,if_neg U0,if_pos rfl]
theorem Ta:f3 n0=some c0:=by rw[FY,if_neg Vd,if_pos rfl]
theorem TL:f3 n1=some c1:=by rw[FY,if_pos rfl]
theorem ZW:f3 nO=none:=by rw[FY,if_neg dO1,if_neg dO0,if_neg dOA]
theorem Yk:zO (fun _=>none) nA=[nA]:=rfl
theorem Yj:zO f1 nA=[n0,n1]:=by
 unfold zO
 rw[F9,if_pos rfl]
 simp only[Qt]
 have h0:isNil f1 n0=true:=by unfold isNil; rw[F9,if_neg U0.symm]; rfl
 have h1:isNil f1 n1=true:=by unfold isNil; rw[F9,if_neg UZ.symm]; rfl
 unfold iZ
 simp only[List.foldl_cons,List.foldl_nil,gQ,h0,h1]
 have:¬ n1=n0:=fun h=>Vd h.symm
 simp[this]
theorem phA:mQ f3 nA=(pA,0):=by
 unfold mQ
 rw[MF]
 simp only[Qt]
 have h0:isNil f3 n0=false:=by unfold isNil; rw[Ta]; rfl
 have h1:isNil f3 n1=false:=by unfold isNil; rw[TL]; rfl
 have v0:mr f3 n0=c0:=by unfold mr; rw[Ta]; rfl
 have v1:mr f3 n1=c1:=by unfold mr; rw[TL]; rfl
 rw[if_neg (by simp[h0,h1]),ql,v0,l0,if_pos (by decide),ql,v1,l1,List.nil_append,l0,if_pos (by decide),ql,cc]
theorem Yn:(iZ (isNil f3) [nA,nO]).filter gp=[nO]:=by
 have h0:isNil f3 nA=false:=by unfold isNil; rw[MF]; rfl
 have h1:isNil f3 nO=true:=by unfold isNil; rw[ZW]; rfl
 unfold iZ
 simp[gQ,h0,h1,isN.2]
theorem three {TS sb:Nat} {M:RM} {T:List eF} {W:Nat→Prop} (h:oN TS M sb T f3 W) : T.length=3:=by
 obtain⟨mb,cl,_,_,_,_,wf,_⟩:=h.map
 have hnd:[nA,n0,n1].Nodup:=by simp[U0,UZ,Vd]
 have hp:(T.map (·.1)).Perm [nA,n0,n1]:=by
  rw[List.perm_ext_iff_of_nodup wf.nodup hnd]
  intro s
  constructor
  ·intro hs
   obtain⟨t,ht,rfl⟩:=List.mem_map.1 hs
   obtain⟨b,hb,_⟩:=h.val t ht
   rw[FY] at hb
   by_cases e1:t.1=n1
   ·simp[e1]
   ·rw[if_neg e1] at hb
    by_cases e2:t.1=n0
    ·simp[e2]
    ·rw[if_neg e2] at hb
     by_cases e3:t.1=nA
     ·simp[e3]
     ·rw[if_neg e3] at hb; cases hb
  ·intro hs
   have:∃ b,f3 s=some b:=by
    simp at hs
    rcases hs with rfl | rfl | rfl
    ·exact⟨_,MF⟩
    ·exact⟨_,Ta⟩
    ·exact⟨_,TL⟩
   obtain⟨b,hb⟩:=this
   obtain⟨t,ht,e⟩:=h.dom s b hb
   exact List.mem_map.2 ⟨t,ht,e⟩
 have:=hp.length_eq
 simpa using this
theorem JI {f:Str→Option Str} : lh f []=fun _=>false:=rfl
theorem Vs {T n:Nat} {M:RM} {parts:List (Nat × Nat × AV)} (s:Str) {K:aj} (he:kC (fP [(N .u8 0)] n) parts=some (BY.row s)) (hn:s.length=n)
  (hK:∀ v M',Bs M' v s→aa [] M M'→(∀ b∈ak v,M.next≤b)→K v M') : bN T n [(N .u8 0)] parts fun r f=>aQ r f M fun t14 M1=>OU t14 M1 fun t15 M_0=>K t15 M_0:=by
 refine⟨BY.row s,he, ?_⟩
 simp only[aN]
 refine⟨M.next,0,n,n,BY.row s,T,rfl,by simp[RM.push], ?_⟩
 refine hK _ _ ⟨?_,Nat.le_refl _⟩ (((aa.refl _ _).push _).new _ (Nat.le_refl _)) (fun b hb=>by simp[ak] at hb; omega)
 subst hn
 refine aK.slc _ _ _ _ _ (by simp[RM.push,RM.put]) ?_
 rw[RM.ig (aG _) (by rw[eY]; simp[BY]),List.drop_zero,List.take_of_length_le (by rw[eY]; simp[BY])]
def Ap (M:RM) (v:AV) (W:Nat→Prop) : Prop:=∀ x∈ak v,x<M.next∧¬ W x
theorem Ap.put {M M' : RM} {v:AV} {W W' : Nat→Prop} (h:Ap M v W) (hn:M.next≤M'.next) (hw:∀ x,W' x→W x∨M.next≤x) : Ap M' v W':=fun x hx=>by
 obtain⟨h1,h2⟩:=h x hx
 refine⟨by omega,fun hc=>?_⟩
 rcases hw x hc with h | h
 ·exact h2 h
 ·omega
theorem Ap.keep {M M' : RM} {v:AV} {W:Nat→Prop} (h:Ap M v W) (hn:M.next≤M'.next) : Ap M' v W:=h.put hn fun x hx=>.inl hx
theorem Ap.off {M:RM} {v:AV} {W:Nat→Prop} {ks:List Nat} (h:Ap M v W) (hk:∀ x∈ks,W x) : ∀ x∈ak v,x ∉ ks:=fun x hx hm=>(h x hx).2 (hk x hm)
structure Cs (TSt T8 TB TS T32:Nat) (cph vZ H7 J3 Iu cPh HY cNm cN2 Al Df cNs cBy:au) : Prop where
 ph:IM cph
 cut:Qi T8 TB vZ
 new:CZ TSt H7
 miss:ED TSt J3
 put:Sj TSt Iu
 UX:Lr TSt cPh
 get:Ox TSt T8 HY
 nm:tC TS cNm
 n2:uZ cN2
 want:PS TSt Al
 keep:OL TSt Df
 ns:CJ TSt TS cNs
 by_:Cz TSt cBy
theorem Mr {s:Str} : (s != s)=false:=by simp[bne]
def GJ (c:au) : Prop:=∀ {M:RM} {Q:aj},(∀ M',aa [] M M'→Q (Bo true) M')→c [] M Q
theorem Ps {TSt T8 TB TS T32 TU TT:Nat} {cph vZ H7 J3 Iu cPh HY cNm cN2 Al Df cNs cBy:au} (C:Cs TSt T8 TB TS T32 cph vZ H7 J3 Iu cPh HY cNm cN2 Al Df cNs cBy) :
  GJ fun args M Q=>args=[]∧qY cph vZ H7 J3 Iu cPh HY cNm TU cN2 TT Al Df cNs cBy M Q:=by
 intro M Q hQ
 refine⟨rfl, ?_⟩
 unfold qY
 refine C.ph (n:=65) (fr:=1) (by decide) (by decide) fun v M1 k1 hv=>?_
 refine C.cut hv.bs (by rw[rU]; decide) (fun h=>by rw[rU] at h; omega) fun mv lv M2 S _ k2 om ol hS=>?_
 have hm:AJ (mR 65 1)=mA:=Zf
 have hc:bq 64 (mR 65 1)=[c0,c1]:=aaW
 rw[hm] at om ⊢
 rw[hc] at ol
 rw[show dS mA=nA from rfl]
 rw[bZ,dG,iI,U9]
 refine C.new fun sb M3 W k3 hst hW=>?_
 have hn1:=k1.next
 have hn2:=k2.next
 have hn3:=k3.next
 rw[cB,show((0:Int) != 0)=false by decide]
 simp only[bP]
 have bm:Bs M3 mv mA:=(Bs.own om).keep k3 (by simp)
 have sl2:jI u6 M2 lv [c0,c1] (fun x=>S x∨(M1.next≤x∧x<M2.next)):=(ol.mono (fun x h=>.inl h)).Q9 (fun x h1 h2=>.inr ⟨h1,h2⟩)
 have sl3:=(sl2.mono (S':=fun x=>M1.next≤x∧x<M2.next) (fun x h=>h.elim (fun h=>⟨(hS x h).1,(hS x h).2.1⟩) id)).keep k3 (by simp)
 have aap:∀ {K:AV→Prop},eZ false 1 (.ptr sb 0) (.sc (.pointer none)) K=K (Bo false):=fun {K} => iO (r:=false) rfl rfl
 rw[aap,fw]
 simp only[bP]
 rw[sl3.len,cB,show((([c0,c1] : List Str).length:Int) != 2)=false by decide,fw]
 simp only[bP]
 obtain⟨b1,o1,cs1,hb1n,Wx,JZ,OZ,w1,rfl,hw1,Zz⟩:=sl3.at (i:=1) 1 1 (by decide)
 obtain⟨b0,o0,cs0,hb0n,aan,YV,aaO,w0,rfl,hw0,aa2⟩:=sl3.at (i:=0) 1 0 (by decide)
 have hw1:Bs M3 w1 c1:=hw1
 have hw0:Bs M3 w0 c0:=hw0
 rw[JZ,jX (fZ.1 OZ),hw1.len,l1,cB,show(((1:Nat) : Int) != 1)=false by decide,fw]
 simp only[bP]
 rw[bm.len,lM,cB,show(((65:Nat) : Int) != 65)=false by decide,fw]
 simp only[bP]
 have hnl:nA.length=64:=Cy _
 rw[Jg,hnl,cB,show(((64:Nat) : Int) != 64)=false by decide,fw,fM]
 have apm:Ap M3 mv W:=fun x hx=>⟨by have:=(Own.blk om x hx).2; omega,fun h=>by have:=hW x h; have:=(Own.blk om x hx).2; omega⟩
 have ap1:Ap M3 w1 W:=fun x hx=>⟨hw1.lt x hx,fun h=>by have:=hW x h; have:=Zz x hx; omega⟩
 have ap0:Ap M3 w0 W:=fun x hx=>⟨hw0.lt x hx,fun h=>by have:=hW x h; have:=aa2 x hx; omega⟩
 have miss0' : ∀ x∈([] : List Nat),¬ W x:=by simp
 refine C.miss hst fun av M4 k4 ha=>?_
 have hn4:=k4.next
 rw[Yk] at ha
 have Zi:=hst.keep k4 (by simp)
 have aa4:Ap M4 av W:=fun x hx=>⟨aK.lt ha.sl x hx,fun h=>by have:=ha.new x hx; obtain⟨T,hT,_⟩:=hst; have:=hT.lt x h; omega⟩
 refine C.put Zi (bm.keep k4 (by simp)) (by rw[lM]; decide) fun M5 W5 ks5 Ls k5 hk5 hW5 hs5=>?_
 have hn5:=k5.next
 rw[eA,pz,Mr,fM]
 have Ls:mh TSt M5 sb f1 W5 1:=Ls
 have Xe:=(apm.keep hn4).put hn5 hW5
 have XO:=(ap1.keep hn4).put hn5 hW5
 have ap05:=(ap0.keep hn4).put hn5 hW5
 have aa5:=aa4.put hn5 hW5
 have bm5:=(bm.keep k4 (by simp)).keep k5 ((apm.keep hn4).off hk5)
 have Z5:=(hw1.keep k4 (by simp)).keep k5 ((ap1.keep hn4).off hk5)
 have aaJ:=(hw0.keep k4 (by simp)).keep k5 ((ap0.keep hn4).off hk5)
 have sa5:=aK.keep ha.sl k5 (aa4.off hk5)
 have hlw:∀ x∈ak lv,x<M2.next:=fun x hx=>(ol.blk x hx).2
 have nW:∀ x,x<M2.next→x ∉ ks5:=fun x hx hm=>by have:=hW x (hk5 x hm); omega
 have c05:M5.cell b0 o0=some w0:=by rw[k5.cell (by omega) (nW b0 (hlw b0 aan)),k4.cell (by omega) (by simp)]; exact fZ.1 aaO
 have c15:M5.cell b1 o1=some w1:=by rw[k5.cell (by omega) (nW b1 (hlw b1 Wx)),k4.cell (by omega) (by simp)]; exact fZ.1 OZ
 refine C.miss Ls fun bv M6 k6 hb=>?_
 rw[Yj] at hb
 have hn6:=k6.next
 have ab6:Ap M6 bv W5:=fun x hx=>⟨aK.lt hb.sl x hx,fun h=>by have:=hb.new x hx; obtain⟨T,hT,_⟩:=Ls; have:=hT.lt x h; omega⟩
 have c06:M6.cell b0 o0=some w0:=by rw[k6.cell (by omega) (by simp)]; exact c05
 rw[YV,jX c06]
 refine C.put (Ls.keep k6 (by simp)) (aaJ.keep k6 (by simp)) (by rw[l0]; decide) fun M7 W7 ks7 ZM k7 hk7 hW7 hs7=>?_
 have hn7:=k7.next
 have nW7:∀ x,x<M2.next→x ∉ ks7:=fun x hx hm=>by
  rcases hW5 x (hk7 x hm) with h | h
  ·have:=hW x h; omega
  ·omega
 have c17:M7.cell b1 o1=some w1:=by rw[k7.cell (by omega) (nW7 b1 (hlw b1 Wx)),k6.cell (by omega) (by simp)]; exact c15
 rw[JZ,jX c17]
 have aay:=(Z5.keep k6 (by simp)).keep k7 ((XO.keep hn6).off hk7)
 have ap17:=(XO.keep hn6).put hn7 hW7
 have bm7:=(bm5.keep k6 (by simp)).keep k7 ((Xe.keep hn6).off hk7)
 have Xo:=(Xe.keep hn6).put hn7 hW7
 have sa7:=aK.keep (aK.keep sa5 k6 (by simp)) k7 ((aa5.keep hn6).off hk7)
 have aa7:=(aa5.keep hn6).put hn7 hW7
 have sb7:=aK.keep hb.sl k7 (ab6.off hk7)
 have ab7:=ab6.put hn7 hW7
 refine C.put ZM aay (by rw[l1]; decide) fun M8 W8 ks8 Ao k8 hk8 hW8 hs8=>?_
 have Ao:mh TSt M8 sb f3 W8 3:=Ao
 have hn8:=k8.next
 have bm8:=bm7.keep k8 (Xo.off hk8)
 have sa8:=aK.keep sa7 k8 (aa7.off hk8)
 have aa8:=aa7.put hn8 hW8
 have sb8:=aK.keep sb7 k8 (ab7.off hk8)
 have ab8:=ab7.put hn8 hW8
 have aaN:=Xo.put hn8 hW8
 refine C.UX Ao fun pv M9 k9 hp=>?_
 rw[phA] at hp ⊢
 rw[bZ,dG]
 have hn9:=k9.next
 have Zp:Ap M9 pv W8:=fun x hx=>⟨hp.bs.lt x hx,fun h=>by have:=hp.new x hx; obtain⟨T,hT,_⟩:=Ao; have:=hT.lt x h; omega⟩
 have WL:=Ao.keep k9 (by simp)
 refine C.get WL (fun h0=>by rw[MF] at h0; cases h0) fun gv bb M10 h0 hbl k10 og=>?_
 rw[MF] at h0
 cases h0
 rw[bZ,dG]
 have Zr:=k10.next
 have Yv:Ap M10 gv W8:=fun x hx=>⟨(Own.blk og x hx).2,fun h=>by have:=(Own.blk og x hx).1; obtain⟨T,hT,_⟩:=WL; have:=hT.lt x h; omega⟩
 have k8a:=k9.trans k10
 refine C.nm (bm8.keep k8a (by simp)) (by rw[lM]; decide) (fun M11 k11 hx=>by rw[Qt] at hx; cases hx) fun n' ls nv M11 k11 hx on=>?_
 rw[Qt] at hx
 cases hx
 rw[bZ,dG,iI]
 have aaZ:=k11.next
 have YG:Ap M11 nv W8:=fun x hx=>⟨(Own.blk on x hx).2,fun h=>by have:=(Own.blk on x hx).1; obtain⟨T,hT,_⟩:=Ao; have:=hT.lt x h; omega⟩
 refine Vs oT rfl rfl fun ov M12 bo k12 ho=>?_
 refine C.n2 bo (by decide) fun M13 k13=>?_
 rw[eO,Qg rfl rfl rfl rfl,aN]
 have k14:aa [] M13 (M13.push (.row [St nA,St nO] false TT 0)):=(aa.refl _ _).push _
 have s14:Sl dU (M13.push (.row [St nA,St nO] false TT 0)) (.slc M13.next 0 2 (.ex 2)) [nA,nO]:=Sl.new (E:=dU) [nA,nO]
 have x14:(M13.push (.row [St nA,St nO] false TT 0)).next=M13.next + 1:=rfl
 show Al _ (M13.push (.row [St nA,St nO] false TT 0)) _
 generalize M13.push (.row [St nA,St nO] false TT 0)=M14 at *
 have XV:=((k8a.trans k11).trans (k12.trans k13)).trans k14
 have Uz:=k12.next
 have hn13:=k13.next
 have Yc:=Ao.keep XV (by simp)
 refine C.want Yc s14 (by simp) (fun x hx=>by
  have hO:nO.length=64:=Cy _
  simp at hx
  rcases hx with h | h <;> subst h <;> omega) fun wv M15 k15 hwv=>?_
 rw[Yn] at hwv
 have hn15:=k15.next
 have Yy:Ap M15 wv W8:=fun x hx=>⟨aK.lt hwv.sl x hx,fun h=>by have:=hwv.new x hx; obtain⟨T,hT,_⟩:=Ao; have:=hT.lt x h; omega⟩
 have Bv:=XV.trans k15
 obtain⟨T8',hT8,_⟩:=Ao.keep Bv (by simp)
 have h3:=three hT8
 refine C.keep hT8 (by omega) (v:=bQ) (l:=[]) .nil (by simp) fun M16 ks16 hT16 k16 BF=>?_
 have hn16:=k16.next
 have hfil:(T8'.filter fun t=>lh f3 [] t.1)=[]:=List.filter_eq_nil_iff.2 (fun t _=>by rw[JI]; exact Bool.false_ne_true)
 rw[hfil] at hT16 ⊢
 rw[h3]
 have WN:=aK.keep (aK.keep sa8 Bv (by simp)) k16 ((aa8.keep Bv.next).off BF)
 have aaz:=aK.keep (aK.keep sb8 Bv (by simp)) k16 ((ab8.keep Bv.next).off BF)
 have XU:=((k10.trans k11).trans (k12.trans k13)).trans (k14.trans k15)
 have Wm:=(hp.bs.keep XU (by simp)).keep k16 ((Zp.keep XU.next).off BF)
 have U8:=(k11.trans (k12.trans k13)).trans (k14.trans k15)
 have aab:=((Bs.own og).keep U8 (by simp)).keep k16 ((Yv.keep U8.next).off BF)
 have UR:=(k12.trans k13).trans (k14.trans k15)
 have Z4:=aK.keep (aK.keep (Own.kY on) UR (by simp)) k16 ((YG.keep UR.next).off BF)
 have aa0:=aK.keep hwv.sl k16 (Yy.off BF)
 have Zg:=(bm8.keep Bv (by simp)).keep k16 ((aaN.keep Bv.next).off BF)
 have Zq:aa [] M M16:=by
  have a1:aa [] M M4:=((k1.trans k2).trans k3).trans k4
  have a2:aa [] M M6:=(a1.eP k5 (fun x hx=>.inl (by have:=hW x (hk5 x hx); omega))).trans k6
  have h57:∀ x,W5 x→M.next≤x:=fun x hx=>by
   rcases hW5 x hx with h | h
   ·have:=hW x h; omega
   ·omega
  have a3:=a2.eP k7 (fun x hx=>.inl (h57 x (hk7 x hx)))
  have h78:∀ x,W7 x→M.next≤x:=fun x hx=>by
   rcases hW7 x hx with h | h
   ·exact h57 x h
   ·omega
  have a4:=(a3.eP k8 (fun x hx=>.inl (h78 x (hk8 x hx)))).trans Bv
  exact a4.eP k16 (fun x hx=>.inl (by
   rcases hW8 x (BF x hx) with h | h
   ·exact h78 x h
   ·omega))
 simp only[ni,yV,uh,uz]
 rw[aK.len WN,bK,show((([nA] : List Str).length:Int) == 1)=true by rfl]
 simp only[dM]
 refine oI (i:=0) WN (by decide) ?_
 have hsn:∀ {x:Str},(x == x)=true:=fun {x} => by simp
 rw[show([nA] : List Str)[0]=nA from rfl,uP,hsn,dF]
 simp only[dM]
 rw[aK.len aaz,bK,show((([n0,n1] : List Str).length:Int) == 2)=true by rfl,dF]
 simp only[dM]
 rw[bK,show(((0:Nat) : Int) == 0)=true by rfl,dF]
 simp only[dM,dN,Jr]
 rw[Wm.str]
 refine C.ph (n:=65) (fr:=1) (by decide) (by decide) fun v17 M17 k17 Zn=>?_
 have aaM:=Wm.keep k17 (by simp)
 rw[aaM.str]
 refine⟨rfl, ?_⟩
 rw[Zn.bs.str,show mR 65 1=pA from rfl,uP,hsn,dF]
 simp only[dM]
 rw[dF]
 simp only[dM]
 rw[(aab.keep k17 (by simp)).str,(Zg.keep k17 (by simp)).str,uP,hsn,dF]
 simp only[dM]
 rw[bK,show((0:Int) == 0)=true by rfl,dF]
 simp only[dM]
 rw[bK,show(((65:Nat) : Int) == 65)=true by rfl,dF]
 simp only[dM]
 rw[aK.len Z4,bK,show((([n0,n1] : List Str).length:Int) == 2)=true by rfl,dF]
 simp only[dM]
 rw[aK.len aa0,bK,show((([nO] : List Str).length:Int) == 1)=true by rfl,dF]
 simp only[dM]
 rw[bK,show(((3 - ([] : List eF).length:Nat) : Int) == 3)=true by rfl,dF]
 simp only[dM,dN]
 have U1:mh TSt M17 sb (fun s=>if lh f3 [] s then f3 s else none) W8 0:=⟨[],hT16.keep k17 (by simp),Nat.le_refl _⟩
 have hT0:∀ {M:RM} {T:List eF},oN TSt M sb T (fun s=>if lh f3 [] s then f3 s else none) W8→T=[]:=by
  intro M T h
  cases T with
  | nil=>rfl
  | cons t T =>
    obtain⟨b,hb,_⟩:=h.val t (List.mem_cons_self ..)
    rw[JI] at hb
    cases hb
 refine C.ns U1 (by decide) fun T18 v18 M18 aaE _ o18 k18=>?_
 rw[hT0 aaE] at o18
 rw[aK.len (Own.kY o18),bK,show(((Go.Ab.Dk.lX (iT [])).length:Int) == 0)=true by rfl,dF]
 simp only[dM,dN]
 refine C.by_ (U1.keep k18 (by simp)) (by decide) fun T19 M19 Zj _ k19=>?_
 rw[hT0 Zj,bK,show((yS (wK fun s=>if lh f3 [] s then f3 s else none) [] : Nat) : Int)=0 from rfl,show((0:Int) == 0)=true by rfl,dF]
 exact hQ M19 (((Zq.trans k17).trans k18).trans k19)
theorem OI {f g:Prop→Prop} {k:Prop} : BJ (Bo false) false f g k=f k:=rfl
def Vg (c:au) : Prop:=∀ {M:RM} {pv mv:AV} {p m:Str} {Q:aj},Bs M pv p→Bs M mv m→m.length≤140737488355328→(∀ M',Q (Bo true) M')→c [pv,mv] M Q
theorem RD {T8 TB TU:Nat} {ca vZ cCh cMf cNm cLn:au} (ha:GJ ca) (hc:Qi T8 TB vZ) (hch:sH TB cCh) (hmf:uf cMf) (hn:uZ cNm) (hl:HV cLn) :
  Vg fun args M Q=>∃ a0 a1,args=[a0,a1]∧nD ca TU vZ cCh cMf cNm cLn a0 a1 M Q:=by
 intro M pv wv p m Q hp hm hml hQ
 refine⟨_,_,rfl, ?_⟩
 unfold nD
 refine ha fun M1 k1=>?_
 rw[eU,Bool.not_true,fM]
 have hp1:=hp.keep k1 (by simp)
 have hm1:=hm.keep k1 (by simp)
 rw[hp1.len,gu]
 refine aS (fun _=>hQ _) fun hle=>?_
 have hle:p.length≤1000:=by have:¬ (p.length:Int) > 1000:=of_decide_eq_false hle; omega
 rw[hp1.str,Rs,aN]
 have o2:Ow BY (M1.push (.row (BY.row p) true TU 0)) 0 TU (.slc M1.next 0 p.length (.op 1)) p:=by
  refine .op M1.next p.length (BY.row p) (Nat.zero_le _) (by simp[RM.push]) (RM.bI _) ?_
  rw[Enc.gT]
 have k2:aa [] M1 (M1.push (.row (BY.row p) true TU 0)):=(aa.refl _ _).push _
 have x2:(M1.push (.row (BY.row p) true TU 0)).next=M1.next + 1:=rfl
 generalize M1.push (.row (BY.row p) true TU 0)=M2 at *
 rw[iq (x:=N .u8 9) (size:=1) rfl rfl rfl]
 rw[aN]
 refine iw (E:=BY) (a:=(9:UInt8)) o2 (Nat.zero_le _) (by decide) (by omega) (by omega) fun v3 M3 o3 k3 hn3 hv3=>?_
 have k13:aa [M1.next] M1 M3:=(k2.mono (by simp)).trans (by simpa [ak] using k3)
 have ap:∀ {v:AV} {b:Str},Bs M1 v b→∀ x∈ak v,x ∉ [M1.next]:=fun h x hx hm=>by have:=h.lt x hx; simp at hm; omega
 have hp3:=hp1.keep k13 (ap hp1)
 have hm3:=hm1.keep k13 (ap hm1)
 rw[hp3.len]
 have hb3:Bs M3 v3 (p++[9]):=Bs.own o3
 refine hb3.sub (l:=0) (u:=p.length) (LQ _) (qc _ _ _) (Nat.zero_le _) (by simp) fun w hw hwb=>?_
 rw[List.drop_zero,Nat.sub_zero,List.take_left' rfl] at hw
 refine hc hw (by omega) (fun h=>by omega) fun mv lv M4 S _ k4 om ol hS=>?_
 rw[bZ,dG,iI,U9]
 have hp4:=hp3.keep k4 (by simp)
 refine hch hp4 (by omega) fun lv5 M5 k5 ol5=>?_
 rw[cB,show((0:Int) != 0)=false by rfl]
 have bm5:Bs M5 mv (AJ p):=(Bs.own om).keep k5 (by simp)
 simp only[qM,bP,OI]
 rw[bm5.str]
 have hp5:=hp4.keep k5 (by simp)
 refine hmf hp5 (by omega) fun rv M6 k6 hrv=>?_
 have bm6:=bm5.keep k6 (by simp)
 rw[bm6.str]
 refine⟨rfl, ?_⟩
 rw[hrv.bs.str,pz,Mr,fw]
 simp only[qM,bP]
 have hml6:(AJ p).length≤100000:=by
  unfold AJ
  have:=Aa (v:=p.length) (by omega)
  rw[List.length_append,yJ,dI]; unfold cO; omega
 refine hn bm6 (by omega) fun M7 k7=>?_
 rw[pz,Mr,fw]
 simp only[qM]
 have k57:=k6.trans k7
 have ol7:gU u6 M7 M3.next TB lv (bq 64 p) S:=(ol.keep k5 (by simp) (by simp)).keep k57 (by simp) (by simp)
 have Xq:gU u6 M7 M4.next TB lv5 (bq 64 p) (fun x=>x∈ak pv):=ol5.keep k57 (by simp) (by simp)
 rw[ol7.len,Xq.len,cB,show(((bq 64 p).length:Int) != ((bq 64 p).length:Int))=false by simp[bne],fw]
 simp only[qM]
 have k37:=(k4.trans k5).trans k57
 rw[(hb3.keep k37 (by simp)).str,(hp3.keep k37 (by simp)).str,Sw,pz,Mr,fw,fM]
 have s7:=ol7.Q9 (S:=S) |> fun _=>(ol7.mono (S':=fun x=>S x∨M3.next≤x) (fun x h=>.inl h)).Q9 (fun x h _=>.inr h)
 have s57:=(Xq.mono (S':=fun x=>x∈ak pv∨M4.next≤x) (fun x h=>.inl h)).Q9 (fun x h _=>.inr h)
 refine⟨by simp; omega, ?_⟩
 refine aM (fun mm ys M8=>∃ i:Nat,mm=(bq 64 p).length - i∧ys=[N .i64 (i:Int)]∧i≤(bq 64 p).length∧M8=M7) _ ⟨0,rfl,rfl,Nat.zero_le _,rfl⟩ ?_
 rintro next mm ys M8 hnext ⟨i,rfl,rfl,hi,rfl⟩
 simp only[aI]
 rw[ol7.len,jQ]
 have hcl:(bq 64 p).length≤10000:=by rw[dI]; unfold cO; omega
 refine aS (fun hlt=>?_) fun _=>?_
 ·have hlt:i<(bq 64 p).length:=of_decide_eq_true hlt
  obtain⟨b1,o1,cs1,_,_,JZ,OZ,w1,rfl,hw1,_⟩:=s7.at (i:=i) 1 (i:Int) hlt
  obtain⟨b2,o2',cs2,_,_,OO,SC,w2,rfl,hw2,_⟩:=s57.at (i:=i) 1 (i:Int) hlt
  rw[JZ,jX (fZ.1 OZ),hw1.str,OO,jX (fZ.1 SC),hw2.str,pz,Mr,fM,mW (by omega)]
  exact hnext _ _ _ (by omega) ⟨i + 1,rfl,rfl,hlt,rfl⟩
 ·refine hl (bm6.keep k7 (by simp)) (by omega) fun M9 k9=>?_
  simp only[dN]
  have k39:=k37.trans k9
  refine hl (hm3.keep k39 (by simp)) hml fun M10 k10=>?_
  rw[dF]
  exact hQ M10
end Go.Ab.Bl
