/- Part 4 of the ground of the proofs of this seat (texts R11 to VlI3). By an AI agent. -/
import Derived.Test.YtmilkhdicmkmbaaDoorVlp3
import Derived.ChangeShapes
import Derived.OpenShut
import Derived.WideKeyArgs
import GoSem.ClaimJoined
import Derived.Lib.Bytealg
import Derived.Lib.DecodeN
import Derived.Lib.ValidU
import Derived.Lib.ValidLaws
import Derived.Lib.IndexAny
set_option linter.unusedVariables false
set_option linter.unusedSimpArgs false
namespace Go.Ab
open Go Go.RowKit
abbrev aH:AV:=.sc (.slice none 0 0)
inductive fU (M:RM) (size:Nat) : AV→List AV→Nat→Prop
 | nil:fU M size aH [] 0
 | emp (b:Nat) : fU M size (.emp b) [] 0
 | slc (b o n:Nat) (cap:Cap) (cs:List AV) : b<M.next→M.loads b o (n * size)=some cs→fU M size (.slc b o n cap) cs n
section
variable {M M' : RM} {size:Nat} {v:AV} {cs:List AV} {n:Nat}
theorem ER {b o k:Nat} {cs:List AV} (h:M.loads b o k=some cs) : cs.length=k:=by
 unfold RM.loads at h
 split at h <;> first | (cases h; done) | skip
 split at h <;> first | (cases h; done) | skip
 rename_i hle
 have:=Option.some.inj h
 rw[← this,List.length_take,List.length_drop]; omega
theorem Mo {b o k:Nat} {cs:List AV} (h:M.loads b o k=some cs) (i:Nat) (hi:i<k) : M.cell b (o + i)=cs[i]?:=by
 unfold RM.loads at h
 unfold RM.cell
 split at h <;> first | (cases h; done) | skip
 rename_i l hl
 split at h <;> first | (cases h; done) | skip
 cases h
 simp only[hl,Option.bind_some]
 rw[List.getElem?_take,if_pos hi,List.getElem?_drop]
theorem Fj {b o k:Nat} {cs:List AV} (h:M.loads b o k=some cs) (i j:Nat) (hij:i + j≤k) : M.loads b (o + i) j=some ((cs.drop i).take j):=by
 unfold RM.loads at h ⊢
 cases hl:M.cells b with
 | none=>rw[hl] at h; cases h
 | some l =>
   rw[hl] at h
   simp only at h ⊢
   split at h
   ·rename_i hle
    have h:=Option.some.inj h
    subst h
    rw[if_pos (by omega),List.drop_take,List.drop_drop,List.take_take]
    congr 2
    omega
   ·cases h
theorem DT {b o:Nat} {l:List AV} (h:M.cells b=some l) (ho:o≤l.length) : M.loads b o 0=some []:=by
 simp[RM.loads,h,ho]
theorem fU.length (h:fU M size v cs n) : cs.length=n * size:=by
 cases h with
 | nil=>exact(Nat.zero_mul _).symm
 | emp=>exact(Nat.zero_mul _).symm
 | slc b o n cap cs hb0 hl=>exact ER hl
theorem fU.len (h:fU M size v cs n) {K:AV→Prop} : d9 v K=K (N .i64 n):=by
 cases h with
 | nil=>exact OI
 | emp b=>exact Oo b
 | slc b o n cap cs hb0 hl=>exact nI b o n cap
theorem fU.lL (h:fU M size v cs n) (zs:List AV) : lL M size zs false v=some (n,cs):=by
 cases h with
 | nil=>rfl
 | emp b=>rfl
 | slc b o n cap cs hb0 hl=>simp only[Go.Ab.lL,hl]
theorem fU.pos (h:fU M size v cs n) (hn:0<n) : ∃ b o cap,v=.slc b o n cap∧b<M.next∧M.loads b o (n * size)=some cs:=by
 cases h with
 | nil=>omega
 | emp b=>omega
 | slc b o n cap cs hb0 hl=>exact⟨b,o,cap,rfl,hb0,hl⟩
theorem fU.uY (h:fU M 1 v cs n) {l:List UInt8} (hb:bS byteOf cs=some l) : uY M v=some l:=by
 cases h with
 | nil=>simp[bS] at hb; subst hb; rfl
 | emp b=>simp[bS] at hb; subst hb; rfl
 | slc b o n cap cs hb0 hl =>
   rw[Nat.mul_one] at hl
   simp only[Go.Ab.uY,hl]; exact hb
def aI:AV→List Nat
 | .slc b _ _ _=>[b]
 | _=>[]
theorem fU.keep {bs:List Nat} (h:fU M size v cs n) (hk:ah bs M M') (hb:∀ b∈aI v,b ∉ bs) : fU M' size v cs n:=by
 cases h with
 | nil=>exact .nil
 | emp b=>exact .emp b
 | slc b o n cap cs hb0 hl =>
   exact .slc b o n cap cs (Nat.lt_of_lt_of_le hb0 hk.next) (by rw[hk.loads hb0 (hb b (by simp[aI]))]; exact hl)
inductive Own (M:RM) (base el size:Nat) : AV→List AV→Nat→Prop
 | nil:Own M base el size aH [] 0
 | ex0 (b o:Nat) : base≤b→b<M.next→(∃ l,M.cells b=some l∧o≤l.length)→Own M base el size (.slc b o 0 (.ex 0)) [] 0
 | op (b n:Nat) (cs:List AV) : base≤b→b<M.next→M.heap b=some (.row cs true el 0)→cs.length=n * size→Own M base el size (.slc b 0 n (.op size)) cs n
theorem Own.Bp {base el:Nat} (h:Own M base el size v cs n) : fU M size v cs n:=by
 cases h with
 | nil=>exact .nil
 | ex0 b o hb hlt hc =>
   obtain⟨l,hl,ho⟩:=hc
   exact .slc b o 0 _ [] hlt (by rw[Nat.zero_mul]; exact DT hl ho)
 | op b n cs hb hlt hh hl =>
   refine .slc b 0 n _ cs hlt ?_
   rw[RM.oN hh (by omega)]
   simp[← hl]
theorem Own.blk {base el:Nat} (h:Own M base el size v cs n) : ∀ b∈aI v,base≤b∧b<M.next:=by
 cases h with
 | nil=>intro b hb; simp[aI] at hb
 | ex0 b o hb hlt hc=>intro c hc; simp[aI] at hc; subst hc; exact⟨hb,hlt⟩
 | op b n cs hb hlt hh hl=>intro c hc; simp[aI] at hc; subst hc; exact⟨hb,hlt⟩
theorem Own.keep {base el:Nat} {bs:List Nat} (h:Own M base el size v cs n) (hk:ah bs M M') (hb:∀ b∈aI v,b ∉ bs) : Own M' base el size v cs n:=by
 cases h with
 | nil=>exact .nil
 | ex0 b o h1 hlt hc=>exact .ex0 b o h1 (Nat.lt_of_lt_of_le hlt hk.next) (by rw[hk.cells hlt (hb b (by simp[aI]))]; exact hc)
 | op b n cs h1 hlt hh hl=>exact .op b n cs h1 (Nat.lt_of_lt_of_le hlt hk.next) (by rw[hk.heap b hlt (hb b (by simp[aI]))]; exact hh) hl
theorem Own.mono {base base' el:Nat} (h:Own M base el size v cs n) (hb:base'≤base) : Own M base' el size v cs n:=by
 cases h with
 | nil=>exact .nil
 | ex0 b o h1 hlt hc=>exact .ex0 b o (Nat.le_trans hb h1) hlt hc
 | op b n cs h1 hlt hh hl=>exact .op b n cs (Nat.le_trans hb h1) hlt hh hl
theorem uS {base el bytes:Nat} {zs:List AV} {zeros:Bool} {x:AV} {m:Nat} {ds:List AV} {K:ai} (h:Own M base el size v cs n) (hbase:base≤M.next) (hs:1≤size) (hx:lL M size zs zeros x=some (m,ds)) (hd:ds.length=m * size)
  (h1:ds.all oneCell=true) (hb:(n + m) * bytes≤140737488355328) (hb2:n + m≤140737488355328)
  (hK:∀ v' M',Own M' base el size v' (cs++ds) (n + m)→ah (aI v) M M'→M.next≤M'.next→(v'=v∨∀ b∈aI v',M.next≤b)→K v' M') : appW el size bytes zs zeros v x M K:=by
 have hmb:m * bytes≤140737488355328:=Nat.le_trans (Nat.mul_le_mul_right _ (by omega)) hb
 refine⟨m,ds,hx,hmb,by omega, ?_⟩
 cases h with
 | nil =>
   by_cases hm:m=0
   ·subst hm
    have:ds=[]:=List.eq_nil_of_length_eq_zero (by simpa using hd)
    subst this
    exact⟨aH,M,by simp[ru],hK _ _ .nil (ah.refl _ _) (Nat.le_refl _) (.inl rfl)⟩
   ·refine⟨.slc M.next 0 m (.op size),M.push (.row ds true el 0),by simp only[ru,if_neg hm,h1,if_true],hK _ _ ?_ ((ah.refl _ _).push _) (by simp[RM.push]) (.inr fun b hb=>by simp[aI] at hb; omega)⟩
    simp only[List.nil_append,Nat.zero_add]
    exact .op _ _ _ hbase (by simp[RM.push]) (RM.aY _) hd
 | ex0 b o hb0 hlt hc =>
   obtain⟨l,hl,ho⟩:=hc
   by_cases hm:m=0
   ·subst hm
    have:ds=[]:=List.eq_nil_of_length_eq_zero (by simpa using hd)
    subst this
    exact⟨_,M,by simp[ru],hK _ _ (.ex0 b o hb0 hlt ⟨l,hl,ho⟩) (ah.refl _ _) (Nat.le_refl _) (.inl rfl)⟩
   ·refine⟨.slc M.next 0 m (.op size),M.push (.row ds true el 0), ?_,hK _ _ ?_ ((ah.refl _ _).push _) (by simp[RM.push]) (.inr fun b hb=>by simp[aI] at hb; omega)⟩
    ·have hl0:M.loads b o (0 * size)=some []:=by rw[Nat.zero_mul]; exact DT hl ho
     simp only[ru,if_neg hm]
     rw[if_neg (by omega),hl0]
     simp only[Nat.zero_add,List.nil_append]
     rw[if_pos ⟨hmb,by omega,h1⟩]
    ·simp only[List.nil_append,Nat.zero_add]
     exact .op _ _ _ hbase (by simp[RM.push]) (RM.aY _) hd
 | op b n cs hb0 hlt hh hl =>
   by_cases hm:m=0
   ·subst hm
    have:ds=[]:=List.eq_nil_of_length_eq_zero (by simpa using hd)
    subst this
    exact⟨_,M,by simp[ru],hK _ _ (by simpa using .op b n cs hb0 hlt hh hl) (ah.refl _ _) (Nat.le_refl _) (.inl rfl)⟩
   ·have hpos:1≤m * size:=Nat.mul_pos (by omega) hs
    have hsum:(n + m) * size=n * size + m * size:=Nat.add_mul _ _ _
    refine⟨.slc M.next 0 (n + m) (.op size),(M.del b).push (.row (cs++ds) true el 0), ?_,hK _ _ ?_ (((ah.refl _ _).del (.inr (by simp[aI]))).push _) (by simp[RM.push,RM.del]) (.inr fun b hb=>by simp[aI] at hb; omega)⟩
    ·simp only[ru,if_neg hm,hh,and_self,if_true]
     rw[if_neg (by omega),if_pos ⟨trivial,hb,hb2,trivial,hl,Nat.zero_le _,h1⟩]
    ·exact .op _ _ _ (show base≤M.next from hbase) (by simp[RM.push,RM.del]) (by simp[RM.push,RM.del]) (by rw[List.length_append,hl,hd,hsum])
theorem Own.lit {base el T:Nat} (M:RM) (h:base≤M.next) : Own (M.push (.row [] false T 0)) base el size (.slc M.next 0 0 (.ex 0)) [] 0 :=
 .ex0 _ _ h (by simp[RM.push]) ⟨[],by simp[RM.cells,RM.push],Nat.le_refl _⟩
end
end Go.Ab
set_option maxRecDepth 4000
namespace Go.Ab
open Go
theorem wrap_u8 (n:Nat) : IntKind.wrap .u8 (n:Int)=((n % 256:Nat) : Int):=by
 simp only[IntKind.wrap,IntKind.bits,IntKind.signed,IntKind.max,IntKind.min]
 simp
theorem lI {n:Int} (h0:0≤n) (h:n<256) : IntKind.wrap .u8 n=n:=by
 obtain⟨m,rfl⟩:=Int.eq_ofNat_of_zero_le h0
 rw[wrap_u8,Nat.mod_eq_of_lt (by omega)]
theorem oF {n:Int} (h0 : -9223372036854775808≤n) (h:n<9223372036854775808) : IntKind.wrap .i64 n=n:=by
 rw[IntKind.wrap_i64]; omega
theorem GL (n:Nat) : (UInt8.ofNat n).toNat=n % 256:=by simp
end Go.Ab
namespace Go.Ab
open Go Go.RowKit
section
variable {P:Program}
end
def RM.old (base:Base) (w:World) : RM where
 next:=base.n
 heap:=fun b=>if b<base.n then(match w.heap[b]? with | some (.cells c _ _)=>some (.ro c) | _=>none) else none
 base:=base
def Gd (n:Nat) : Ren:=fun b=>if b<n then some ⟨b,0,0,0⟩ else none
theorem OG {P:Program} {base:Base} {w:World} (hn:base.n=w.heap.size) (hi:base.inv w) : bP P (Gd base.n) (RM.old base w) w:=by
 refine⟨{ next:=base.n,heap:=.leaf },rfl,⟨fun b i h=>?_,fun b i x _ h=>by simp[Tree.get] at h,fun b _ i _ x _ _ _ h=>by simp[Tree.get] at h,fun b x h=>by simp[Tree.get] at h,fun b i x _ h=>by simp[Tree.get] at h,hi⟩,by simp[RM.old,RM.lo,hn],fun b x h=>.inr ?_,fun c hc=>by have hc' : c<base.n:=hc; simp only[Gd]; rw[if_pos hc']⟩
 ·simp only[Gd] at h
  split at h <;> first | (cases h; done) | skip
  cases h
  exact⟨by assumption,by rw[← hn]; assumption⟩
 ·simp only[RM.old] at h
  split at h <;> first | (cases h; done) | skip
  rename_i hlt
  split at h <;> first | (cases h; done) | skip
  rename_i c el fr hh
  cases h
  exact⟨c,rfl,hlt,el,fr,hh⟩
theorem RM.Na {base:Base} {w:World} {b:Nat} {c:Array Value} {el:TypeId} {fr:_} (hb:b<base.n) (h:w.heap[b]?=some (.cells c el fr)) : (RM.old base w).cells b=some (c.toList.map (mo base.n)):=by
 simp only[RM.cells,RM.old,if_pos hb,h]
def zU (lo:Nat) : Value→AV
 | .agg cs=>.agg (cs.toList.map (mo lo))
 | v=>mo lo v
theorem Gy {ρ:Ren} {lo:Nat} (h:∀ c,c<lo→ρ c=some ⟨c,0,0,0⟩) : ∀ (vs:List Value),aD ρ (vs.map (mo lo)) vs
 | []=>.nil
 | v :: vs=>.cons _ _ _ _ (BK h v) (Gy h vs)
theorem N8 {ρ:Ren} {lo:Nat} (h:∀ c,c<lo→ρ c=some ⟨c,0,0,0⟩) (v:Value) : af ρ (zU lo v) v:=by
 unfold zU
 split
 ·exact .agg _ _ (Gy h _)
 ·exact BK h v
theorem EU {ρ:Ren} {lo:Nat} (h:∀ c,c<lo→ρ c=some ⟨c,0,0,0⟩) : ∀ (vs:List Value),aD ρ (vs.map (zU lo)) vs
 | []=>.nil
 | v :: vs=>.cons _ _ _ _ (N8 h v) (EU h vs)
theorem eP.close {P:Program} {f:FuncId} {base:Base} {w:World} {us:Array Value} (hn:base.n=w.heap.size) (hi:base.inv w)
  (h:eP P f (us.toList.map (zU base.n)) (RM.old base w) fun v _=>v=Bo true) :
  Calls P f us w fun e w'=>e=.returned (.bool true)∧Below w.heap.size w w':=by
 have hr:=OG (P:=P) hn hi
 refine((h.2 (Gd base.n) w us.toList (EU (fun c hc=>by simp only[Gd]; rw[if_pos hc]) _) hr)).mono fun e w' hR=>?_
 obtain⟨v',v,M',ρ',rfl,k1,k2,rfl⟩:=hR
 obtain⟨rfl,_⟩:=az k2
 refine⟨rfl,k1.step.os,k1.step.tape,k1.step.output,k1.step.size,fun k hk=>k1.step.low k ?_⟩
 show k<base.n
 rw[hn]; exact hk
def uD:Option TypeDesc→Bool
 | some .bool | some (.int _) | some .string | some (.slice _) | some (.struct _) | some (.array _ _)=>false
 | _=>true
inductive Fits (P:Program) (M:RM) : TypeId→List AV→Prop
 | bool (t:TypeId) (b:Bool) : P.underlying t=some .bool→Fits P M t [Bo b]
 | int (t:TypeId) (k:IntKind) (n:Int) : P.underlying t=some (.int k)→k.min≤n→n≤k.max→Fits P M t [N k n]
 | str (t:TypeId) (s:List UInt8) : P.underlying t=some .string→s.length≤reachBytes→Fits P M t [St s]
 | Oh (t e:TypeId) : P.underlying t=some (.slice e)→Fits P M t [aH]
 | emp (t e:TypeId) (b:Nat) : P.underlying t=some (.slice e)→Fits P M t [.emp b]
 | slc (t e:TypeId) (b o n c:Nat) (cs:List AV) : P.underlying t=some (.slice e)→b<M.next→n≤c→c * P.bytesOf e≤reachBytes→M.loads b o (n * P.cellsOf e)=some cs →
   (∀ i,i<n→Fits P M e ((cs.drop (i * P.cellsOf e)).take (P.cellsOf e)))→Fits P M t [.slc b o n (.ex c)]
 | struct (t:TypeId) (fs:Array Field) (cs:List AV) : P.underlying t=some (.struct fs)→cs.length=P.cellsOf t →
   (∀ (i:Nat) (f:Field),fs[i]?=some f→Fits P M f.type ((cs.drop f.offset).take (P.cellsOf f.type)))→Fits P M t cs
 | array (t e:TypeId) (n:Nat) (cs:List AV) : P.underlying t=some (.array n e)→cs.length=P.cellsOf t →
   (∀ i,i<n→Fits P M e ((cs.drop (i * P.cellsOf e)).take (P.cellsOf e)))→Fits P M t cs
 | other (t:TypeId) (cs:List AV) : uD (P.underlying t)=true→Fits P M t cs
 | zero (t e:TypeId) (cs:List AV) : P.underlying t=some (.slice e)→P.cellsOf e=0→Fits P M t cs
theorem xK (a:Addr) : a.add 0=a:=by simp[Addr.add]
theorem qw {w:World} {base:Nat} {a:Addr} {n:Nat} {cs:List Value} (h:w.cells? base a n=some cs) : cs.length=n∧∀ i,i<n→w.cell? (a.add i)=cs[i]?:=by
 unfold World.cells? at h
 split at h
 ·exact⟨by simpa using mapM_some_length h,fun i hi=>mapM_some_get h i i (by simp[hi])⟩
 ·cases h
theorem cell?_at {w:World} {a:Addr} {v:Value} (h:w.cell? a=some v) : ∃ c el fr,w.heap[a.block]?=some (.cells c el fr)∧a.spot=none∧a.off<c.size∧c[a.off]?=some v:=by
 unfold World.cell? at h
 split at h
 ·rename_i c el fr hh
  split at h
  ·cases h
  ·rename_i hs
   exact⟨c,el,fr,hh,by simpa using hs,(Array.getElem?_eq_some_iff.1 h).1,h⟩
 ·cases h
section
variable {H:Type} {enc:TypeId × Value→H} {P:Program} {base:Base} {w:World}
end
section
variable {P:Program} {M:RM} {t:TypeId} {cs:List AV}
theorem Fa {α:Type} {size:Nat} (enc:α→List AV) (p:α→Prop) (hs:∀ a,(enc a).length=size) : ∀ (n:Nat) (ds:List AV),ds.length=n * size→(∀ i,i<n→∃ a,p a∧(ds.drop (i * size)).take size=enc a) →
  ∃ xs:List α,xs.length=n∧ds=xs.flatMap enc∧∀ x∈xs,p x
 | 0,ds,hl,_=>⟨[],rfl,by simpa using hl,by simp⟩
 | n + 1,ds,hl,h=>by
   obtain⟨a,pa,ha⟩:=h 0 (by omega)
   simp only[Nat.zero_mul,List.drop_zero] at ha
   have hl' : (ds.drop size).length=n * size:=by rw[List.length_drop,hl,Nat.succ_mul]; omega
   obtain⟨xs,h1,h2,h3⟩:=Fa enc p hs n (ds.drop size) hl' fun i hi=>by
    obtain⟨b,pb,hb⟩:=h (i + 1) (by omega)
    refine⟨b,pb, ?_⟩
    rw[List.drop_drop,← hb,Nat.succ_mul,Nat.add_comm]
   refine⟨a :: xs,by simp[h1], ?_,fun x hx=>?_⟩
   ·rw[List.flatMap_cons,← h2,← ha,List.take_append_drop]
   ·rcases List.mem_cons.1 hx with rfl | hx
    ·exact pa
    ·exact h3 x hx
end
def yF (P:Program) (t:TypeId) : Bool :=
 match P.underlying t with
 | some (.struct _) | some (.array _ _)=>true
 | _=>false
def Ap (P:Program) (M:RM) (t:TypeId) (v:AV) : Prop :=
 match yF P t with
 | true=>∃ cs,v=.agg cs∧Fits P M t cs
 | false=>Fits P M t [v]
theorem Ap.agg {P:Program} {M:RM} {t:TypeId} {v:AV} (h:Ap P M t v) (ha:yF P t=true) : ∃ cs,v=.agg cs∧Fits P M t cs:=by
 unfold Ap at h; rw[ha] at h; exact h
theorem Ap.one {P:Program} {M:RM} {t:TypeId} {v:AV} (h:Ap P M t v) (ha:yF P t=false) : Fits P M t [v]:=by
 unfold Ap at h; rw[ha] at h; exact h
section
variable {H:Type} {enc:TypeId × Value→H} {P:Program} {base:Base} {w:World}
theorem Ie {r:Reach} {b:Nat} {t:TypeId} {cs:Array Value} (h:Cell.okWide P w r b t (.agg cs)) : False:=by
 unfold Cell.okWide at h
 split at h <;> first | (rename_i e _; cases e; done) | skip
 all_goals first | (rename_i e; cases e; done) | skip
 unfold Cell.ok at h
 split at h <;> first | exact h | simp_all
theorem xM (hl:laidOutB P=true) {W W' : World} {sp:Nat→Bool} (hb:Below W.heap.size W W') : ∀ {ts:List TypeId} {vs:List Value} {ds:List (DataW H)} {ps:List MemPlace},
  (∀ t∈ts,P.readableRec t=true∧t<P.types.size)→DataW.TrodAll enc P W 0 (fun _=>true) true ts vs ds ps→(∀ p∈ps,p.block<W.heap.size)→(∀ p∈ps,sp p.block=true)→DataW.TrodAll enc P W' 0 sp true ts vs ds ps
 | [],vs,ds,ps,_,h,_,_=>by
   cases vs <;> cases ds <;> first | exact h | exact h.elim
 | t :: ts,vs,ds,ps,hr,h,hlt,hsp=>by
   cases vs with
   | nil=>cases ds <;> exact h.elim
   | cons v vs =>
   cases ds with
   | nil=>exact h.elim
   | cons d ds =>
   obtain⟨p,q,h1,h2,rfl⟩:=h
   have hrt:=hr t (List.mem_cons_self ..)
   exact⟨p,q,WideElems.Trod_stays hl hrt.1 hrt.2 h1 (fun x hx=>hb.same (hlt x (List.mem_append_left _ hx))) (fun x hx=>hsp x (List.mem_append_left _ hx)),
    xM hl hb (fun t ht=>hr t (List.mem_cons_of_mem _ ht)) h2 (fun x hx=>hlt x (List.mem_append_right _ hx)) (fun x hx=>hsp x (List.mem_append_right _ hx)),rfl⟩
end
def RB.cells (lo:Nat) : RB→Option (List AV)
 | .row l _ _ _=>some l
 | .ro c=>some (c.toList.map (mo lo))
 | _=>none
@[go_sem] theorem RB.sO (lo:Nat) (l:List AV) (p:Bool) (e f:Nat) : RB.cells lo (.row l p e f)=some l:=rfl
theorem RM.Cb (M:RM) (b:Nat) : M.cells b=(M.heap b).bind (RB.cells M.lo):=by
 unfold RM.cells RB.cells
 cases M.heap b with
 | none=>rfl
 | some x=>cases x <;> rfl
def qY (l:Option (List AV)) (o k:Nat) : Option (List AV) :=
 match l with
 | some l=>if o + k≤l.length then some ((l.drop o).take k) else none
 | none=>none
@[go_sem] theorem RA (l:List AV) (o k:Nat) : qY (some l) o k=if o + k≤l.length then some ((l.drop o).take k) else none:=rfl
theorem RM.BP (M:RM) (b o k:Nat) : M.loads b o k=qY (M.cells b) o k:=rfl
section
variable {M M' : RM}
@[go_sem] theorem RM.Nl (x:RB) (c:Nat) : (M.push x).heap c=if c=M.next then some x else M.heap c:=rfl
@[go_sem] theorem RM.heap_put (b:Nat) (x:RB) (c:Nat) : (M.put b x).heap c=if c=b then some x else M.heap c:=rfl
@[go_sem] theorem RM.Ui (b:Nat) (c:Nat) : (M.del b).heap c=if c=b then none else M.heap c:=rfl
@[go_sem] theorem RM.Nr (x:RB) : (M.push x).base=M.base:=rfl
@[go_sem] theorem RM.N9 (b:Nat) (x:RB) : (M.put b x).base=M.base:=rfl
@[go_sem] theorem RM.Uy (b:Nat) : (M.del b).base=M.base:=rfl
theorem RM.Di (x:RB) (c:Nat) : (M.push x).cells c=if c=M.next then x.cells M.lo else M.cells c:=by
 simp only[RM.Cb,RM.Nl]
 split <;> rfl
theorem RM.EZ (b:Nat) (x:RB) (c:Nat) : (M.put b x).cells c=if c=b then x.cells M.lo else M.cells c:=by
 simp only[RM.Cb,RM.heap_put]
 split <;> rfl
@[go_sem] theorem RM.SX (x:RB) (c o:Nat) : (M.push x).cell c o=if c=M.next then(x.cells M.lo).bind (·[o]?) else M.cell c o:=by
 simp only[RM.cell,RM.Di]
 split <;> rfl
@[go_sem] theorem RM.TQ (b:Nat) (x:RB) (c o:Nat) : (M.put b x).cell c o=if c=b then(x.cells M.lo).bind (·[o]?) else M.cell c o:=by
 simp only[RM.cell,RM.EZ]
 split <;> rfl
@[go_sem] theorem RM.RP (x:RB) (c o k:Nat) : (M.push x).loads c o k=if c=M.next then qY (x.cells M.lo) o k else M.loads c o k:=by
 simp only[RM.BP,RM.Di]
 split <;> rfl
@[go_sem] theorem RM.SQ (b:Nat) (x:RB) (c o k:Nat) : (M.put b x).loads c o k=if c=b then qY (x.cells M.lo) o k else M.loads c o k:=by
 simp only[RM.BP,RM.EZ]
 split <;> rfl
def lv (l:List AV) (fz o:Nat) (vs:List AV) : Option (List AV) :=
 if o + vs.length≤l.length∧fz≤o∧vs.all oneCell=true then some (l.take o++vs++l.drop (o + vs.length)) else none
theorem gV {l vs:List AV} {fz o:Nat} (h1:o + vs.length≤l.length) (h2:fz≤o) (h3:vs.all oneCell=true) : lv l fz o vs=some (l.take o++vs++l.drop (o + vs.length)):=if_pos ⟨h1,h2,h3⟩
@[go_sem] theorem FM {l vs:List AV} (h:vs.length=l.length) (h3:vs.all oneCell=true) : lv l 0 0 vs=some vs:=by
 rw[gV (by omega) (Nat.le_refl _) h3]
 simp[h]
theorem RM.sN {b o:Nat} {vs l:List AV} {p:Bool} {e f:Nat} (h:M.heap b=some (.row l p e f)) : M.stores b o vs=(lv l f o vs).map fun l'=>M.put b (.row l' p e f):=by
 simp only[RM.stores,h,lv]
 split <;> rfl
theorem RM.Om {x y:RB} : (M.push x).put M.next y=M.push y:=by
 simp only[RM.put,RM.push]
 congr 1
 funext c
 split <;> rfl
theorem RM.Gt {x y:RB} {b:Nat} (hb:b≠M.next) : (M.push x).put b y=(M.put b y).push x:=by
 simp only[RM.put,RM.push]
 congr 1
 funext c
 by_cases h1:c=b
 ·subst h1; simp[hb]
 ·simp[h1]
theorem RM.Dh {l vs:List AV} {p:Bool} {e f o:Nat} : (M.push (.row l p e f)).stores M.next o vs=(lv l f o vs).map fun l'=>M.push (.row l' p e f):=by
 rw[RM.sN (RM.aY _)]
 congr 1
 funext l'
 exact RM.Om
theorem RM.CY {M:RM} {b o:Nat} {vs:List AV} : M.stores b o vs=match M.heap b with
  | some (.row l p e f)=>(lv l f o vs).map fun l'=>M.put b (.row l' p e f)
  | _=>none:=by
 cases h:M.heap b with
 | none=>simp[RM.stores,h]
 | some x =>
   cases x with
   | row l p e f=>rw[RM.sN h]
   | _=>simp[RM.stores,h]
@[go_sem] theorem RM.DL {x:RB} {vs:List AV} {c o:Nat} (hc:c≠M.next) : (M.push x).stores c o vs=(M.stores c o vs).map (·.push x):=by
 rw[RM.CY,RM.CY,RM.Oa hc]
 split
 ·simp only[Option.map_map]
  congr 1
  funext l'
  exact RM.Gt hc
 ·rfl
@[go_sem] theorem RM.Ry {l vs:List AV} {p:Bool} {e f c o:Nat} : (M.push (.row l p e f)).stores c o vs =
  if c=M.next then(lv l f o vs).map fun l'=>M.push (.row l' p e f) else(M.stores c o vs).map (·.push (.row l p e f)):=by
 split
 ·rename_i h; subst h; exact RM.Dh
 ·rename_i h; exact RM.DL h
@[go_sem] theorem RM.O5 {b o:Nat} {l vs:List AV} {p:Bool} {e f:Nat} : (M.put b (.row l p e f)).stores b o vs=(lv l f o vs).map fun l'=>M.put b (.row l' p e f):=by
 rw[RM.sN (RM.jN _ _)]
 congr 1
 funext l'
 simp only[RM.put]
 congr 1
 funext c
 split <;> rfl
@[go_sem] theorem UQ {α:Type} (a:α) (K:α→Prop) : (∃ x,some a=some x∧K x)=K a:=by simp
@[go_sem] theorem RF {α β:Type} (f:α→β) (x:α) : (some x).map f=some (f x):=rfl
theorem RM.lW (b:Nat) (x:RB) : (M.put b x).next=M.next:=rfl
attribute [go_sem] Int.natCast_nonneg Int.toNat_natCast Nat.mul_one true_implies false_implies Bool.false_eq_true Bool.true_eq_false Bool.not_true Bool.not_false Bool.and_self Bool.and_true Bool.true_and Nat.le_refl List.append_nil List.nil_append if_true if_false Nat.lt_irrefl Nat.add_one_ne_zero true_and and_true Nat.zero_add Nat.add_zero List.drop_zero List.getElem?_cons_zero List.getElem?_cons_succ Option.bind_some List.take_succ_cons List.take_zero List.drop_succ_cons List.drop_nil List.take_nil
attribute [go_sem] nX List.all_cons List.all_nil List.length_cons List.length_nil
@[go_sem] theorem SN (cs:List AV) : (AV.agg cs).cells=cs:=rfl
@[go_sem] theorem Uv (v:Value) : (AV.sc v).cells=[.sc v]:=rfl
@[go_sem] theorem Tg (b o:Nat) : (AV.ptr b o).cells=[.ptr b o]:=rfl
@[go_sem] theorem SL (b o n:Nat) (c:Cap) : (AV.slc b o n c).cells=[.slc b o n c]:=rfl
@[go_sem] theorem SH (b:Nat) : (AV.emp b).cells=[.emp b]:=rfl
@[go_sem] theorem SY (b:Nat) : (AV.map b).cells=[.map b]:=rfl
@[go_sem] theorem UK (f:Fn) (xs ys:List AV) : (AV.fn f xs ys).cells=[.fn f xs ys]:=rfl
@[go_sem] theorem gG (v:Value) : oneCell (.sc v)=true:=rfl
@[go_sem] theorem UO (b o:Nat) : oneCell (.ptr b o)=true:=rfl
@[go_sem] theorem UW (b o n:Nat) (c:Cap) : oneCell (.slc b o n c)=true:=rfl
@[go_sem] theorem UU (b:Nat) : oneCell (.emp b)=true:=rfl
@[go_sem] theorem UR (b:Nat) : oneCell (.map b)=true:=rfl
@[go_sem] theorem U6 (f:Fn) (xs ys:List AV) : oneCell (.fn f xs ys)=true:=rfl
end
theorem RM.NU {M:RM} {b:Nat} {l:List AV} {p:Bool} {e f:Nat} (h:M.heap b=some (.row l p e f)) (o k:Nat) : M.loads b o k=qY (some l) o k:=by rw[RM.BP,RM.sO h]
theorem RM.cell_of {M:RM} {b:Nat} {l:List AV} {p:Bool} {e f:Nat} (h:M.heap b=some (.row l p e f)) (o:Nat) : M.cell b o=l[o]?:=RM.NM h
theorem RM.jI {M:RM} {b:Nat} {l:List AV} {p:Bool} {e f:Nat} (h:M.heap b=some (.row l p e f)) (o:Nat) (vs:List AV) : M.stores b o vs=(lv l f o vs).map fun l'=>M.put b (.row l' p e f):=RM.sN h
theorem ah.aG {bs:List Nat} {M M' : RM} (h:ah bs M M') {b:Nat} {x:RB} (hh:M.heap b=some x) (hlt:b<M.next) (hb:b ∉ bs) : M'.heap b=some x:=by rw[h.heap b hlt hb,hh]
structure Enc (α:Type) where
 size:Nat
 cells:α→List AV
 len:∀ a,(cells a).length=size
 one:∀ a,(cells a).all oneCell=true
section
variable {α:Type} (E:Enc α)
def Enc.row (xs:List α) : List AV:=xs.flatMap E.cells
theorem Enc.jU (x:α) (xs:List α) : E.row (x :: xs)=E.cells x++E.row xs:=rfl
theorem Enc.mR (xs ys:List α) : E.row (xs++ys)=E.row xs++E.row ys:=by simp[Enc.row]
theorem Enc.row_one (x:α) : E.row [x]=E.cells x:=by simp[Enc.row]
theorem Enc.eY:∀ (xs:List α),(E.row xs).length=xs.length * E.size
 | []=>by simp[Enc.row]
 | x :: xs=>by rw[Enc.jU,List.length_append,E.len,Enc.eY xs,List.length_cons,Nat.succ_mul,Nat.add_comm]
theorem Enc.uN:∀ (xs:List α),(E.row xs).all oneCell=true
 | []=>by simp[Enc.row]
 | x :: xs=>by rw[Enc.jU,List.all_append,E.one,Enc.uN xs]; rfl
theorem Enc.BB:∀ (xs:List α) (i:Nat),(E.row xs).drop (i * E.size)=E.row (xs.drop i)
 | [],i=>by simp[Enc.row]
 | x :: xs,0=>by simp
 | x :: xs,i + 1=>by
   rw[Enc.jU,Nat.succ_mul,Nat.add_comm,← List.drop_drop,List.drop_left' (E.len x),Enc.BB xs i]
   rfl
theorem Enc.GI:∀ (xs:List α) (i:Nat),(E.row xs).take (i * E.size)=E.row (xs.take i)
 | [],i=>by simp[Enc.row]
 | x :: xs,0=>by simp[Enc.row]
 | x :: xs,i + 1=>by
   rw[Enc.jU,Nat.succ_mul,Nat.add_comm,List.take_append,List.take_of_length_le (by rw[E.len]; omega),E.len,Nat.add_sub_cancel_left,Enc.GI xs i]
   rfl
theorem Enc.uz {xs:List α} {i:Nat} (hi:i<xs.length) : ((E.row xs).drop (i * E.size)).take E.size=E.cells xs[i]:=by
 rw[Enc.BB,List.drop_eq_getElem_cons hi,Enc.jU]
 rw[List.take_append_of_le_length (by rw[E.len]; exact Nat.le_refl _),List.take_of_length_le (by rw[E.len]; exact Nat.le_refl _)]
abbrev Sl (M:RM) (v:AV) (xs:List α) : Prop:=fU M E.size v (E.row xs) xs.length
abbrev Ow (M:RM) (base el:Nat) (v:AV) (xs:List α) : Prop:=Own M base el E.size v (E.row xs) xs.length
variable {E} {M M' : RM} {v:AV} {xs:List α}
theorem Sl.elem (h:Sl E M v xs) {i:Nat} (hi:i<xs.length) : ∃ b o,b<M.next∧b∈aI v∧(∀ (kd:IntKind) (K:AV→Prop),bN v (N kd (i:Int)) E.size K=K (.ptr b o))∧M.loads b o E.size=some (E.cells xs[i]):=by
 obtain⟨b,o,cap,rfl,hb,hl⟩:=h.pos (by omega)
 have hsum:i * E.size + E.size≤xs.length * E.size:=by rw[← Nat.succ_mul]; exact Nat.mul_le_mul_right _ hi
 refine⟨b,o + i * E.size,hb,by simp[aI],fun kd K=>?_, ?_⟩
 ·rw[vX]
  simp only[Int.toNat_natCast]
  exact propext ⟨fun h=>h.2.2,fun h=>⟨by omega,by omega,h⟩⟩
 ·rw[Fj hl (i * E.size) E.size hsum,E.uz hi]
theorem Sl.at (h:Sl E M v xs) {i:Nat} (sz:Nat) (j:Int) (hi:i<xs.length) (hsz:E.size=sz:=by rfl) (hj:j=(i:Int):=by rfl) : ∃ b o,b<M.next∧b∈aI v∧(∀ (kd:IntKind) (K:AV→Prop),bN v (N kd j) sz K=K (.ptr b o))∧M.loads b o sz=some (E.cells xs[i]):=by
 subst hsz hj; exact h.elem hi
theorem fe {b o k:Nat} {cs:List AV} (h:M.loads b o k=some cs) {j:Nat} {x:AV} (hj:cs[j]?=some x) : M.cell b (o + j)=some x:=by
 have hlt:j<k:=by rw[← ER h]; exact(List.getElem?_eq_some_iff.1 hj).1
 rw[Mo h j hlt,hj]
theorem uP {b o k:Nat} {cs:List AV} (h:M.loads b o k=some cs) {x:AV} (hj:cs[0]?=some x) : M.cell b o=some x:=fe h hj
theorem Jn {base T bytes:Nat} {zs:List AV} {u:AV} {ys:List α} {K:ai} (ho:Ow E M base T v xs) (hb:base≤M.next) (hs:1≤E.size) (hu:Sl E M u ys)
  (hn:(xs.length + ys.length) * bytes≤140737488355328) (hn2:xs.length + ys.length≤140737488355328)
  (hK:∀ v' M',Ow E M' base T v' (xs++ys)→ah (aI v) M M'→M.next≤M'.next→(v'=v∨∀ b∈aI v',M.next≤b)→K v' M') :
  appW T E.size bytes zs false v u M K:=by
 refine uS ho hb hs (fU.lL hu _) (E.eY ys) (E.uN ys) hn hn2 ?_
 intro v' M' h1 h2 h3 h4
 refine hK v' M' ?_ h2 h3 h4
 rw[← E.mR] at h1
 simpa [Ow] using h1
theorem Sl.new {T c:Nat} {p:Bool} (ys:List α) : Sl E (M.push (.row (E.row ys) p T 0)) (.slc M.next 0 ys.length (.ex c)) ys :=
 .slc _ _ _ _ _ (by simp[RM.push]) (by rw[RM.oN (RM.aY _) (by rw[E.eY]; omega),List.drop_zero,← E.eY,List.take_length])
theorem EE {base T bytes:Nat} {zs:List AV} {a:α} {K:ai} (ho:Ow E M base T v xs) (hb:base≤M.next) (hs:1≤E.size)
  (hn:(xs.length + 1) * bytes≤140737488355328) (hn2:xs.length + 1≤140737488355328)
  (hK:∀ v' M',Ow E M' base T v' (xs++[a])→ah (aI v) M M'→M.next≤M'.next→(v'=v∨∀ b∈aI v',M.next≤b)→K v' M') :
  appW T E.size bytes zs false v (.slc M.next 0 1 (.ex 1)) (M.push (.row (E.cells a) false T 0)) K:=by
 have hk:ah [] M (M.push (.row (E.cells a) false T 0)):=(ah.refl _ _).push _
 refine Jn (ys:=[a]) (Own.keep ho hk (by simp)) (Nat.le_trans hb hk.next) hs (by rw[← E.row_one]; exact Sl.new [a]) hn hn2 ?_
 intro v' M' h1 h2 h3 h4
 exact hK v' M' h1 ((hk.mono (by simp)).trans h2) (Nat.le_trans hk.next h3) (h4.imp id fun h b hb=>Nat.le_trans hk.next (h b hb))
@[go_sem] theorem U9 {T:Nat} {zs:List AV} {K:RB→(Nat→AV)→Prop} : ic T 0 zs [] K=K (.row [] false T 0) (fun b=>.slc b 0 0 (.ex 0)):=by
 apply propext; unfold ic
 constructor
 ·rintro⟨l,h,hk⟩; cases h; exact hk
 ·intro hk; exact⟨_,rfl,hk⟩
theorem su {T size:Nat} {zs:List AV} {x:AV} {K:RB→(Nat→AV)→Prop} (h:x.cells.length=size) (h1:x.cells.all oneCell=true) (hz:zs.length=size) :
  ic T 1 zs [(0,size,x)] K=K (.row x.cells false T 0) (fun b=>.slc b 0 1 (.ex 1)):=by
 have:si (mg zs 1) [(0,size,x)]=some x.cells:=by
  simp only[si,mg,List.append_nil,h1,h,Nat.zero_add,hz,Nat.le_refl,and_self,if_true,List.take_zero,List.nil_append]
  rw[List.drop_of_length_le (by omega),List.append_nil]
 apply propext; unfold ic
 constructor
 ·rintro⟨l,h,hk⟩; rw[this] at h; cases h; exact hk
 ·intro hk; exact⟨_,this,hk⟩
theorem Ow.lit (E:Enc α) {T:Nat} (M:RM) : Ow E (M.push (.row [] false T 0)) M.next T (.slc M.next 0 0 (.ex 0)) []:=Own.lit M (Nat.le_refl _)
theorem fB {i:Nat} (h:i<9223372036854775807) : IntKind.wrap .i64 ((i:Int) + 1)=((i + 1:Nat) : Int):=by
 rw[oF (by omega) (by omega)]; rfl
end
@[go_sem] theorem Sz:cK [] [] []=some true:=rfl
@[go_sem] theorem Sd (ks:List Nat) (k:IntKind) (a b:Int) (xs ys:List AV) : cK (1 :: ks) (N k a :: xs) (N k b :: ys)=if a=b then cK ks xs ys else some false:=by
 simp only[cK,nD,if_true]
 by_cases h:a=b
 ·simp[h]
 ·have:(a == b)=false:=by simp[h]
  simp[this,h]
@[go_sem] theorem RX (ks:List Nat) (a b:List UInt8) (xs ys:List AV) : cK (2 :: ks) (St a :: xs) (St b :: ys)=if a=b then cK ks xs ys else some false:=by
 simp only[cK,nD]
 by_cases h:a=b
 ·simp[h]
 ·have:(a == b)=false:=by simp[h]
  simp[this,h]
@[go_sem] theorem RD (ks:List Nat) (a b:Bool) (xs ys:List AV) : cK (3 :: ks) (Bo a :: xs) (Bo b :: ys)=if a=b then cK ks xs ys else some false:=by
 simp only[cK,nD]
 by_cases h:a=b
 ·simp[h]
 ·have:(a == b)=false:=by simp[h]
  simp[this,h]
theorem eu (x:AV) (w:Bool) (f g:ai→Prop) (F G:AV→RM→ai→Prop) (k:ai) :
  aa x w f g (fun v M=>aa x w (F v M) (G v M) k)=aa x w (fun k'=>f fun v M=>F v M k') (fun k'=>g fun v M=>G v M k') k:=by
 unfold aa jZ
 split
 ·split <;> simp_all
 ·rfl
 ·rfl
theorem Py (x:AV) (w:Bool) (f g:KR→Prop) (F G:AV→RM→Option Nat→KR→Prop) (k:KR) :
  dx x w f g (fun v M b=>dx x w (F v M b) (G v M b) k)=dx x w (fun k'=>f fun v M b=>F v M b k') (fun k'=>g fun v M b=>G v M b k') k:=by
 unfold dx jZ
 split
 ·split <;> simp_all
 ·rfl
 ·rfl
theorem aS {body:(List AV→RM→Prop)→List AV→RM→Prop} {xs:List AV} {M:RM} (I:Nat→List AV→RM→Prop) (n:Nat) (h0:I n xs M)
  (hb:∀ (next:List AV→RM→Prop) m ys M',(∀ m' zs M'',m'<m→I m' zs M''→next zs M'')→I m ys M'→body next ys M') : bQ body xs M :=
 ⟨I,n,h0,fun m ys M' hI=>hb _ m ys M' (fun m' zs M'' hlt h=>⟨m',hlt,h⟩) hI⟩
theorem Kt {P:Program} {I:World→Prop} {T:Table} (hT:je P I T) {f:FuncId} {args:List AV} {v:AV} {M:RM} {Q:ai} (hP:DV P f) (hl:∀ A,uW T f args A=some (v,A))
  (hI:∀ w,M.base.inv w→I w) (hQ:Q v M) : eP P f args M Q:=by
 refine⟨hP,fun ρ w us hargs hw=>?_⟩
 obtain⟨A,hA⟩:=hw
 refine(uh (base:=M.base) hI T hT f args A v A (hl A) ρ w us hargs hA.rel hA.size).mono fun e w' hR=>?_
 obtain⟨ρ',v',rfl,hst,hw',_,hv⟩:=hR
 refine⟨v',v,M,ρ',rfl,iq hA hst hw' rfl hA.next (Nat.le_refl _) (fun b x hx=>?_),hv,hQ⟩
 rcases hA.blk b x hx with h | ⟨c,rfl,_⟩
 ·exact .inl h
 ·exact .inr ⟨c,rfl,hx⟩
abbrev By (b:UInt8) : AV:=N .u8 (b.toNat:Int)
def BY:Enc UInt8:=⟨1,fun b=>[By b],fun _=>rfl,fun _=>rfl⟩
theorem rU (s:List UInt8) : BY.row s=s.map By:=by
 induction s with
 | nil=>rfl
 | cons b s ih=>rw[Enc.jU,ih]; rfl
def fZ:Enc (List UInt8):=⟨1,fun s=>[St s],fun _=>rfl,fun _=>rfl⟩
def INT:Enc Int:=⟨1,fun n=>[N .i64 n],fun _=>rfl,fun _=>rfl⟩
theorem wC:∀ (s:List UInt8),bS byteOf (s.map By)=some s
 | []=>rfl
 | b :: s=>by
   simp only[List.map_cons,bS,byteOf,wC s]
   simp
section
variable {α:Type} {E:Enc α} {M M' : RM} {v:AV} {xs:List α}
theorem Sl.str {s:List UInt8} (h:Sl BY M v s) {K:AV→Prop} : mZ M v K=K (St s) :=
 Ip (fU.uY h (by rw[rU]; exact wC s))
theorem Sl.Nj (h:Sl E M v xs) {i:Nat} (j:Int) (hi:i<xs.length) (hsz:E.size=1:=by rfl) (hj:j=(i:Int):=by rfl) :
  ∃ b o,b<M.next∧b∈aI v∧(∀ (kd:IntKind) (K:AV→Prop),bN v (N kd j) 1 K=K (.ptr b o))∧∀ x,E.cells xs[i]=[x]→M.cell b o=some x:=by
 obtain⟨b,o,h1,h2,h3,h4⟩:=Sl.at h 1 j hi hsz hj
 exact⟨b,o,h1,h2,h3,fun x hx=>uP h4 (by rw[hx]; rfl)⟩
structure Rw (E:Enc α) (M:RM) (b:Nat) (opn:Bool) (el:Nat) (xs:List α) : Prop where
 heap:M.heap b=some (.row (E.row xs) opn el 0)
 lt:b<M.next
theorem Rw.sl {b el:Nat} {p:Bool} {cap:Cap} (h:Rw E M b p el xs) : Sl E M (.slc b 0 xs.length cap) xs:=by
 refine .slc _ _ _ _ _ h.lt ?_
 rw[RM.oN h.heap (by rw[E.eY]; omega),List.drop_zero,← E.eY,List.take_length]
theorem Rw.keep {b el:Nat} {p:Bool} {bs:List Nat} (h:Rw E M b p el xs) (hk:ah bs M M') (hb:b ∉ bs) : Rw E M' b p el xs :=
 ⟨hk.aG h.heap h.lt hb,Nat.lt_of_lt_of_le h.lt hk.next⟩
theorem Rw.new {el:Nat} {p:Bool} (M:RM) (xs:List α) : Rw E (M.push (.row (E.row xs) p el 0)) M.next p el xs :=
 ⟨RM.aY _,by simp[RM.push]⟩
theorem Rw.load {b el:Nat} {p:Bool} (h:Rw E M b p el xs) {i:Nat} (hi:i<xs.length) : M.loads b (i * E.size) E.size=some (E.cells xs[i]):=by
 have hsum:i * E.size + E.size≤xs.length * E.size:=by rw[← Nat.succ_mul]; exact Nat.mul_le_mul_right _ hi
 rw[RM.oN h.heap (by rw[E.eY]; exact hsum),E.uz hi]
theorem Enc.PM (E:Enc α) {xs:List α} {i:Nat} (hi:i<xs.length) (x:α) : E.row (xs.set i x)=(E.row xs).take (i * E.size)++E.cells x++(E.row xs).drop (i * E.size + E.size):=by
 rw[E.GI,← Nat.succ_mul,E.BB,List.set_eq_take_append_cons_drop,if_pos hi,E.mR,E.jU,List.append_assoc]
theorem Rw.store {b el:Nat} {p:Bool} (h:Rw E M b p el xs) {i:Nat} (hi:i<xs.length) (x:α) :
  M.stores b (i * E.size) (E.cells x)=some (M.put b (.row (E.row (xs.set i x)) p el 0))∧Rw E (M.put b (.row (E.row (xs.set i x)) p el 0)) b p el (xs.set i x):=by
 have hsum:i * E.size + E.size≤xs.length * E.size:=by rw[← Nat.succ_mul]; exact Nat.mul_le_mul_right _ hi
 refine⟨?_,RM.jN _ _,h.lt⟩
 rw[RM.Lj h.heap (by rw[E.len,E.eY]; exact hsum) (Nat.zero_le _) (E.one x),E.PM hi,E.len]
theorem Rw.av {b el:Nat} {p:Bool} (h:Rw E M b p el xs) {i:Nat} (hi:i<xs.length) (hsz:E.size=1:=by rfl) {x:AV} (hx:E.cells xs[i]=[x]:=by rfl) : M.cell b i=some x:=by
 have:=h.load hi
 rw[hsz,Nat.mul_one] at this
 exact uP this (by rw[hx]; rfl)
theorem Rw.Hd {b el:Nat} {p:Bool} (h:Rw E M b p el xs) {i:Nat} (hi:i<xs.length) (x:α) (hsz:E.size=1:=by rfl) {u:AV} (hx:E.cells x=[u]:=by rfl) :
  M.stores b i [u]=some (M.put b (.row (E.row (xs.set i x)) p el 0))∧Rw E (M.put b (.row (E.row (xs.set i x)) p el 0)) b p el (xs.set i x):=by
 have:=h.store hi x
 rw[hsz,Nat.mul_one,hx] at this
 exact this
end
@[go_sem] theorem pg (el:Nat) (s:List UInt8) (K:RB→(Nat→AV)→Prop) : oM el (St s) K=K (.row (BY.row s) true el 0) (fun b=>.slc b 0 s.length (.op 1)):=by
 rw[rU]
 apply propext; unfold oM
 constructor
 ·rintro⟨s',h,hk⟩; cases h; exact hk
 ·intro hk; exact⟨s,rfl,hk⟩
def bW (b:UInt8) : UInt8:=if 65≤b.toNat∧b.toNat≤90 then b + 32 else b
def low (s:List UInt8) : List UInt8:=s.map bW
theorem qx (b:UInt8) : b.toNat<256:=b.toNat_lt
structure jF (n:Nat) (bs:List Nat) (M M' : RM) : Prop where
 base:M'.base=M.base
 next:M.next≤M'.next
 heap:∀ c,c<n→c ∉ bs→M'.heap c=M.heap c
theorem jF.refl (n:Nat) (bs:List Nat) (M:RM) : jF n bs M M:=⟨rfl,Nat.le_refl _,fun _ _ _=>rfl⟩
theorem jF.trans {n:Nat} {bs:List Nat} {M M1 M2:RM} (h:jF n bs M M1) (k:jF n bs M1 M2) : jF n bs M M2 :=
 ⟨k.base.trans h.base,Nat.le_trans h.next k.next,fun c h1 h2=>(k.heap c h1 h2).trans (h.heap c h1 h2)⟩
theorem ah.to {bs cs:List Nat} {n:Nat} {M M' : RM} (h:ah bs M M') (hn:n≤M.next) (hb:∀ b∈bs,n≤b∨b∈cs) : jF n cs M M' :=
 ⟨h.base,h.next,fun c h1 h2=>h.heap c (Nat.lt_of_lt_of_le h1 hn) (fun hm=>by rcases hb c hm with h3 | h3; omega; exact h2 h3)⟩
theorem ah.PL {bs cs:List Nat} {n:Nat} {M0 M M' : RM} (h:ah bs M0 M) (k:jF n cs M M') (hn:M0.next≤n) (hc:∀ c∈cs,M0.next≤c∨c∈bs) : ah bs M0 M' :=
 ⟨k.base.trans h.base,Nat.le_trans h.next k.next,fun c h1 h2=>by
  rw[k.heap c (Nat.lt_of_lt_of_le h1 hn) (fun hm=>by rcases hc c hm with h3 | h3; omega; exact h2 h3),h.heap c h1 h2]⟩
theorem Own.same {M M' : RM} {n el size n0:Nat} {v:AV} {cs:List AV} (h:Own M n0 el size v cs n) (hn:M'.next=M.next) (hb:∀ c∈aI v,M'.heap c=M.heap c) (hbase:M'.base=M.base) : Own M' n0 el size v cs n:=by
 cases h with
 | nil=>exact .nil
 | ex0 b o h1 h2 h3=>exact .ex0 b o h1 (by omega) (by simpa [RM.Cb,hb b (by simp[aI]),RM.lo,hbase] using h3)
 | op b n cs h1 h2 h3 h4=>exact .op b n cs h1 (by omega) (by rw[hb b (by simp[aI]),h3]) h4
theorem Own.one {M:RM} {n el size n0:Nat} {v:AV} {cs:List AV} (h:Own M n0 el size v cs n) : oneCell v=true:=by
 cases h <;> rfl
def MX (B:Base) (c:ak) : Prop:=∀ {M:RM} {Q:ai},M.base=B→Q (Bo true) M→c [] M Q
theorem Own.cells {M:RM} {n el size n0:Nat} {v:AV} {cs:List AV} (h:Own M n0 el size v cs n) : v.cells=[v]:=by
 cases h <;> rfl
end Go.Ab
namespace Go.Ab.Vl
open Go Go.Ab
structure mJ (TB T8 n0:Nat) (M:RM) (b:Nat) (xs:List UInt8) : Prop where
 lt:b<n0
 hn:n0≤M.next
 row:∃ addr buf,M.heap b=some (.row [addr,buf] false TB 0)∧(addr=.sc (.pointer none)∨addr=.ptr b 0)∧Ow BY M n0 T8 buf xs∧(xs=[]→buf=aH)
def LQ (x:ak) : Prop:=∀ {v:AV} {M:RM} {Q:ai},Q v M→x [v] M Q
def zW (TB:Nat) (c:ak) : Prop:=∀ {M:RM} {b:Nat} {addr buf:AV} {Q:ai},M.heap b=some (.row [addr,buf] false TB 0)→(addr=.sc (.pointer none)∨addr=.ptr b 0)→oneCell buf=true →
 (∀ M',M'.heap b=some (.row [.ptr b 0,buf] false TB 0)→M'.next=M.next→M'.base=M.base→(∀ c,c≠b→M'.heap c=M.heap c)→Q (.tup []) M')→c [.ptr b 0] M Q
theorem KH {TB:Nat} {x:ak} (hx:LQ x) : zW TB fun args M Q=>∃ a0,args=[a0]∧gU x TB a0 M Q:=by
 intro M b addr buf Q hh ha hb hQ
 refine⟨_,rfl, ?_⟩
 unfold gU
 rcases ha with rfl | rfl
 ·simp only[go_sem,RM.cell_of hh]
  refine⟨_,0,_,_,_,_,rfl,hh,by simp,hx ⟨_,_,_,_,rfl,hh,rfl, ?_⟩⟩
  simp only[go_sem,RM.jI hh]
  rw[gV (by simp) (by simp) (by simp[oneCell])]
  simp only[go_sem]
  refine hQ _ (by simp[go_sem]) rfl rfl fun c hc=>by simp[go_sem,hc]
 ·simp only[go_sem,RM.cell_of hh]
  have:∀ K:AV→Prop,iX true 1 (.ptr b 0) (.ptr b 0) K=K (Bo false):=fun K=>(iE (r:=true) rfl (by simp[DU])).trans rfl
  rw[this]
  simp only[go_sem]
  exact hQ _ hh rfl rfl fun _ _=>rfl
def rX (TB T8:Nat) (c:ak) : Prop:=∀ {n0:Nat} {M:RM} {b:Nat} {xs s:List UInt8} {Q:ai},mJ TB T8 n0 M b xs→xs.length + s.length≤140737488355328 →
 (∀ M',mJ TB T8 n0 M' b (xs++s)→jF n0 [b] M M'→Q (.tup [N .i64 s.length,.sc .nilIface]) M')→c [.ptr b 0,St s] M Q
theorem BI {TB T8:Nat} {c:ak} (hc:zW TB c) : rX TB T8 fun args M Q=>∃ a0 a1,args=[a0,a1]∧dI c T8 a0 a1 M Q:=by
 intro n0 M b xs s Q hB hl hQ
 obtain⟨addr,buf,hh,ha,ho,he⟩:=hB.row
 refine⟨_,_,rfl, ?_⟩
 unfold dI
 refine hc hh ha ho.one fun M1 h1 hnx hbs hot=>?_
 have hlt:=hB.lt
 have hn:=hB.hn
 have ho1:Ow BY M1 n0 T8 buf xs:=Own.same ho hnx (fun c hc=>hot c (by have:=ho.blk c hc; omega)) hbs
 simp only[go_sem,RM.cell_of h1]
 have hnew:lL M1 1 [N .u8 0] false (St s)=some (s.length,BY.row s):=by
  simp only[lL,rU,if_true]
 by_cases hne0:xs++s=[]
 ·obtain⟨rfl,rfl⟩:=List.append_eq_nil_iff.1 hne0
  have hb0:=he rfl
  subst hb0
  refine⟨0,[],hnew,by omega,by omega,aH,M1,by simp[ru], ?_⟩
  simp only[go_sem,RM.jI h1]
  rw[gV (by simp) (by simp) (by simp[oneCell])]
  simp only[go_sem]
  refine hQ _ ⟨hlt,by show n0≤M1.next; omega,.ptr b 0,aH,by simp[go_sem],.inr rfl,.nil,fun _=>rfl⟩ ⟨hbs,by show M.next≤M1.next; omega,fun c h3 h4=>?_⟩
  have h4:c≠b:=by simpa using h4
  simp only[go_sem,if_neg h4]
  exact hot c h4
 refine uS ho1 (by omega) (Nat.le_refl _) hnew (by rw[BY.eY]; rfl) (BY.uN s) (by omega) (by omega) fun v' M2 h2 k2 hnx2 hv=>?_
 rw[← BY.mR] at h2
 have h2:Ow BY M2 n0 T8 v' (xs++s):=by
  show Own M2 n0 T8 1 v' (BY.row (xs++s)) (xs++s).length
  rw[List.length_append]; exact h2
 have hb2:b ∉ aI buf:=fun hm=>by have:=ho.blk b hm; omega
 have hh2:=k2.aG h1 (by omega) hb2
 simp only[go_sem,RM.jI hh2]
 rw[Own.cells h2,gV (by simp) (by simp) (by simp[Own.one h2])]
 simp only[go_sem]
 have hne:∀ c∈aI v',c≠b:=fun c hm=>by have:=h2.blk c hm; omega
 refine hQ _ ⟨hlt,by show n0≤M2.next; omega,.ptr b 0,v',RM.jN _ _,.inr rfl,Own.same h2 rfl (fun c hm=>by simp[go_sem,hne c hm]) rfl,fun e=>absurd e hne0⟩ ⟨?_, ?_,fun c h3 h4=>?_⟩
 ·exact k2.base.trans hbs
 ·show M.next≤M2.next
  omega
 ·have h4:c≠b:=by simpa using h4
  simp only[go_sem,if_neg h4]
  rw[k2.heap c (by omega) (fun hm=>by have:=ho.blk c hm; omega),hot c h4]
def Am (TB T8:Nat) (c:ak) : Prop:=∀ {n0:Nat} {M:RM} {b:Nat} {xs:List UInt8} {Q:ai},mJ TB T8 n0 M b xs→xs.length≤4611686018427387904 →
 (∀ M',jF n0 [] M M'→Q (St xs) M')→c [.ptr b 0] M Q
theorem Iw {TB T8:Nat} : Am TB T8 fun args M Q=>∃ a0,args=[a0]∧iK T8 a0 M Q:=by
 intro n0 M b xs Q hB hl hQ
 obtain⟨addr,buf,hh,ha,ho,he⟩:=hB.row
 refine⟨_,rfl, ?_⟩
 unfold iK
 simp only[go_sem,RM.cell_of hh]
 by_cases hx:xs=[]
 ·subst hx
  have hb0:=he rfl
  subst hb0
  simp only[yR,go_sem]
  exact .inr ⟨rfl,rfl,hQ _ (jF.refl _ _ _)⟩
 ·obtain⟨nn,hnn⟩ : ∃ nn,xs.length=nn + 1:=⟨xs.length - 1,by have:=List.length_pos_iff.2 hx; omega⟩
  have hcs:bS byteOf (BY.row xs)=some xs:=by rw[rU]; exact wC xs
  have hl8:(BY.row xs).length=nn + 1:=by rw[BY.eY,hnn]; exact Nat.mul_one _
  have ho' : Own M n0 T8 1 buf (BY.row xs) (nn + 1):=by rw[← hnn]; exact ho
  generalize BY.row xs=cs at hcs hl8 ho'
  cases ho' with
  | op c n cs h1 h2 h3 h4 =>
    simp only[yR,go_sem]
    refine .inl ⟨c,nn,cs,true,0,xs,rfl,rfl,by omega,h3,by omega,by rw[List.take_of_length_le (by omega)]; exact hcs,hQ _ ⟨rfl,Nat.le_refl _,fun d hd _=>?_⟩⟩
    simp only[go_sem]
    rw[if_neg (by omega)]
theorem mJ.new {TB T8 n0 b:Nat} {M:RM} (hh:M.heap b=some (.row [.sc (.pointer none),aH] false TB 0)) (hb:b<n0) (hn:n0≤M.next) : mJ TB T8 n0 M b [] :=
 ⟨hb,hn,_,_,hh,.inl rfl,.nil,fun _=>rfl⟩
theorem ko {s:List UInt8} {i:Nat} (hi:i<s.length) (kd:IntKind) (K:AV→Prop) : bL (St s) (N kd (i:Int)) K=K (By s[i]):=by
 rw[Jo]
 apply propext
 constructor
 ·rintro⟨_,b,hb,hk⟩
  rw[Int.toNat_natCast,List.getElem?_eq_getElem hi] at hb
  cases hb; exact hk
 ·intro hk; exact⟨by omega,s[i],by rw[Int.toNat_natCast,List.getElem?_eq_getElem hi],hk⟩
theorem SE {T:Nat} {zs:List AV} {K:RB→(Nat→AV)→Prop} (h:K (.row [] false T 0) (fun b=>.slc b 0 0 (.ex 0))) : Kj T 1 zs (N .i64 0) (N .i64 0) K :=
 ⟨_,_,0,0,rfl,rfl,by omega,by omega,by decide,by decide,h⟩
def Qp (d:UInt8) : Prop:=d.toNat=92∨d.toNat=44∨d.toNat=59∨d.toNat=58
instance (d:UInt8) : Decidable (Qp d):=inferInstanceAs (Decidable (_∨_))
def U7 (d:UInt8) : Prop:=d.toNat=110∨d.toNat=78
instance (d:UInt8) : Decidable (U7 d):=inferInstanceAs (Decidable (_∨_))
def lg (c:ak) : Prop:=∀ {M:RM} {s:List UInt8} {x:UInt8} {Q:ai},Q (N .i64 (Lib.indexByte s x)) M→c [St s,By x] M Q
theorem D6 (l:List UInt8) (x:UInt8) : (Lib.indexByte l x ≥ 0)↔x∈l:=by
 induction l with
 | nil=>simp[Lib.indexByte]
 | cons y ys ih =>
   simp only[Lib.indexByte]
   have:=Lib.indexByte_ge ys x
   by_cases h:y=x
   ·subst h; simp
   ·have hb:(y == x)=false:=by simpa using h
    have h' : ¬ x=y:=fun e=>h e.symm
    simp only[hb,List.mem_cons,h',false_or]
    rw[← ih]
    simp
    split <;> omega
def Im (x:UInt8) : List UInt8→List UInt8→Bool→List (List UInt8)
 | [],cur,_=>[cur]
 | c :: s,cur,odd=>if c=x∧odd=false then cur :: Im x s [] (decide (c.toNat=92) && !odd) else Im x s (cur++[c]) (decide (c.toNat=92) && !odd)
def parts (x:UInt8) (s:List UInt8) : List (List UInt8):=Im x s [] false
theorem Bq {s:List UInt8} {l h:Nat} (h1:l≤h) (h2:h≤s.length) (k1 k2:IntKind) : aC (St s) (some (N k1 (l:Int))) (some (N k2 (h:Int)))=some (St ((s.drop l).take (h - l))):=by
 simp only[aC,bnd]
 simp[h1,h2]
theorem bi {s:List UInt8} {l:Nat} (h1:l≤s.length) (k1:IntKind) : aC (St s) (some (N k1 (l:Int))) none=some (St (s.drop l)):=by
 simp only[aC,bnd]
 simp[h1]
 rw[List.take_of_length_le (by simp)]
set_option maxRecDepth 100000
def jK (n b0 b1 b2 b3:Nat) : Nat:=if Lib.decodeN n b0 b1 b2 b3=(65533,1) then 0 else(Lib.decodeN n b0 b1 b2 b3).2
section
variable {n b0 b1 b2 b3:Nat}
theorem sJ (h:b0<128) : jK n b0 b1 b2 b3=1:=by
 have:Lib.decodeN n b0 b1 b2 b3=(b0,1):=by simp[Lib.decodeN,h]
 rw[jK,this,if_neg (by intro e; cases e; omega)]
theorem lD (h:Lib.decodeN n b0 b1 b2 b3=(65533,1)) : jK n b0 b1 b2 b3=0:=by rw[jK,if_pos h]
theorem vW (h:128≤b0∧b0<194∨245≤b0) : jK n b0 b1 b2 b3=0:=by
 refine lD ?_
 unfold Lib.decodeN
 repeat' split
 all_goals first | rfl | (exfalso; omega)
theorem uV (h:194≤b0∧b0<224) (hb:n<2∨b1<128∨191<b1) : jK n b0 b1 b2 b3=0:=by
 refine lD ?_
 unfold Lib.decodeN
 repeat' split
 all_goals first | rfl | (exfalso; omega)
theorem Kz (h:194≤b0∧b0<224) (hn:2≤n) (h1:128≤b1∧b1≤191) : jK n b0 b1 b2 b3=2:=by
 have:Lib.decodeN n b0 b1 b2 b3=(b0 % 32 * 64 + b1 % 64,2):=by
  unfold Lib.decodeN
  repeat' split
  all_goals first | rfl | (exfalso; omega)
 rw[jK,this,if_neg (fun e=>absurd (congrArg Prod.snd e) (by simp))]
theorem wP (h:224≤b0∧b0<240) (hb:n<3∨b1<128∨191<b1∨b2<128∨191<b2) : jK n b0 b1 b2 b3=0:=by
 refine lD ?_
 unfold Lib.decodeN
 repeat' split
 all_goals first | rfl | (exfalso; omega)
theorem KC (h:224≤b0∧b0<240) (hn:3≤n) (h1:128≤b1∧b1≤191) (h2:128≤b2∧b2≤191) {v:Nat} (hv:v=64 * (64 * (b0 - 224) + b1 - 128) + b2 - 128) :
  jK n b0 b1 b2 b3=if v<2048∨55296≤v∧v<57344 then 0 else 3:=by
 have hv' : v=b0 % 16 * 4096 + b1 % 64 * 64 + b2 % 64:=by omega
 split
 ·rename_i hc
  refine lD ?_
  unfold Lib.decodeN
  repeat' split
  all_goals first | rfl | (exfalso; omega)
 ·rename_i hc
  have:Lib.decodeN n b0 b1 b2 b3=(b0 % 16 * 4096 + b1 % 64 * 64 + b2 % 64,3):=by
   unfold Lib.decodeN
   repeat' split
   all_goals first | rfl | (exfalso; omega)
  rw[jK,this,if_neg (fun e=>absurd (congrArg Prod.snd e) (by simp))]
theorem wJ (h:240≤b0∧b0<245) (hb:n<4∨b1<128∨191<b1∨b2<128∨191<b2∨b3<128∨191<b3) : jK n b0 b1 b2 b3=0:=by
 refine lD ?_
 unfold Lib.decodeN
 repeat' split
 all_goals first | rfl | (exfalso; omega)
theorem NF (h:240≤b0∧b0<245) (hn:4≤n) (h1:128≤b1∧b1≤191) (h2:128≤b2∧b2≤191) (h3:128≤b3∧b3≤191) {v:Nat} (hv:v=64 * (64 * (64 * (b0 - 240) + b1 - 128) + b2 - 128) + b3 - 128) :
  jK n b0 b1 b2 b3=if v<65536∨1114111<v then 0 else 4:=by
 have hv' : v=b0 % 8 * 262144 + b1 % 64 * 4096 + b2 % 64 * 64 + b3 % 64:=by omega
 split
 ·rename_i hc
  refine lD ?_
  unfold Lib.decodeN
  repeat' split
  all_goals first | rfl | (exfalso; omega)
 ·rename_i hc
  have:Lib.decodeN n b0 b1 b2 b3=(b0 % 8 * 262144 + b1 % 64 * 4096 + b2 % 64 * 64 + b3 % 64,4):=by
   unfold Lib.decodeN
   repeat' split
   all_goals first | rfl | (exfalso; omega)
  rw[jK,this,if_neg (fun e=>absurd (congrArg Prod.snd e) (by simp))]
end
def bt (s:List UInt8) (i:Nat) : Nat:=(s.getD i 0).toNat
theorem O4 (s:List UInt8) (i:Nat) : bt s i<256:=qx _
theorem AQ {s:List UInt8} {i:Nat} (hi:i<s.length) : s[i].toNat=bt s i:=by simp[bt,List.getD_eq_getElem?_getD,hi]
def dec (s:List UInt8) : Nat × Nat:=Lib.decodeN s.length (bt s 0) (bt s 1) (bt s 2) (bt s 3)
def rk (s:List UInt8) : Nat:=if s=[] then 0 else jK s.length (bt s 0) (bt s 1) (bt s 2) (bt s 3)
def rs (s:List UInt8) : Nat:=if s=[] then 0 else(dec s).2
theorem rf (s:List UInt8) : 1≤(dec s).2:=Lib.decodeN_ge1 _ _ _ _ _
theorem O8 {s:List UInt8} (h:s≠[]) : rs s=if rk s=0 then 1 else rk s:=by
 have:=rf s
 simp only[rs,rk,if_neg h,jK]
 unfold dec at *
 split
 ·rename_i h1
  rw[h1]; rfl
 ·rename_i h1
  rw[if_neg (by omega)]
theorem KP (n b0 b1 b2 b3:Nat) (hn:1≤n) : (Lib.decodeN n b0 b1 b2 b3).2≤n∧(Lib.decodeN n b0 b1 b2 b3).2≤4:=by
 unfold Lib.decodeN
 repeat' split
 all_goals (simp; try omega)
theorem lT {s:List UInt8} (h:s≠[]) : 1≤rs s:=by simp only[rs,if_neg h]; exact rf s
theorem qo {s:List UInt8} (h:s≠[]) : rs s≤s.length∧rs s≤4:=by
 simp only[rs,if_neg h]
 exact KP _ _ _ _ _ (List.length_pos_iff.2 h)
def FT (c:ak) : Prop:=∀ {M:RM} {s:List UInt8} {Q:ai},s.length<9223372036854775807→Q (N .i64 (rk s)) M→c [St s] M Q
def acc (v0:Nat) (s:List UInt8) : Nat→Nat
 | 0=>v0
 | k + 1=>64 * acc v0 s k + bt s (k + 1) - 128
def Kk (f:(List AV→RM→Prop)→Prop) (g:List AV→RM→Prop) : Prop:=f g
theorem dS (f:(List AV→RM→Prop)→Prop) (g:List AV→RM→Prop) : dM f g=Kk f g:=rfl
theorem vH {f:(List AV→RM→Prop)→Prop} {g:List AV→RM→Prop} (h:f g) : Kk f g:=h
theorem bY {H:(List AV→RM→Prop)→Prop} {G:List AV→RM→Prop} (P:List AV→RM→Prop) (hT:∀ xs M,P xs M→G xs M)
  (hH:∀ J:List AV→RM→Prop,(∀ xs M,P xs M→J xs M)→H J) : Kk H G:=hH G hT
theorem kI {x:Int} (h : -9223372036854775808≤x) (k:x<9223372036854775808) : IntKind.wrap .i64 x=x:=oF (by omega) (by omega)
theorem Ql {M:RM} (e3 e4 c1 c2 c3 c4 c5:Bool) {P0 Pk:RM→Prop} (h0:((e3 && (c1 || (c2 && c3))) || (e4 && (c4 || c5)))=true→P0 M) (h1:((e3 && (c1 || (c2 && c3))) || (e4 && (c4 || c5)))=false→Pk M) :
  aa (Bo e3) true (fun k'=>k' (Bo c1) M) (fun k=>k AV.undef M) fun t72 Qx =>
  aa t72 false (fun k'=>k' (Bo c2) Qx) (fun k=>k AV.undef Qx) fun t75 QM =>
  aa t75 true (fun k'=>k' (Bo c3) QM) (fun k=>k AV.undef QM) fun Q3 QZ =>
  aa t72 false (fun Ud=>ay t75 Q3 (Bo false) fun t78=>Ud t78 QZ) (fun k=>k AV.undef QZ) fun Ro QC =>
  aa (Bo e3) true (fun UF=>ay t72 (Bo true) Ro fun t79=>UF t79 QC) (fun k=>k AV.undef QC) fun Q8 Rc =>
  ay (Bo e3) Q8 (Bo false) fun t80 =>
  aa t80 false (fun k'=>k' (Bo e4) Rc) (fun k=>k AV.undef Rc) fun t84 Rx =>
  aa t84 true (fun k'=>k' (Bo c4) Rx) (fun k=>k AV.undef Rx) fun t87 QG =>
  aa t87 false (fun k'=>k' (Bo c5) QG) (fun k=>k AV.undef QG) fun Rk QJ =>
  aa t84 true (fun TV=>ay t87 (Bo true) Rk fun t90=>TV t90 QJ) (fun k=>k AV.undef QJ) fun QX Q4 =>
  aa t80 false (fun Tp=>ay t84 QX (Bo false) fun t91=>Tp t91 Q4) (fun k=>k AV.undef Q4) fun Rq Qt =>
  ay t80 (Bo true) Rq fun t92=>aj t92 (P0 Qt) (Pk Qt):=by
 cases e3 <;> cases e4 <;> cases c1 <;> cases c2 <;> cases c3 <;> cases c4 <;> cases c5 <;> simp_all [go_sem]
set_option maxRecDepth 8192 in
theorem LH:FT fun args M Q=>∃ a0,args=[a0]∧rq a0 M Q:=by
 intro M s Q hl hQ
 refine⟨_,rfl, ?_⟩
 unfold rq
 simp only[eu,dS]
 simp only[go_sem]
 refine⟨fun h0=>?_,fun h0=>?_⟩
 ·have:s=[]:=List.eq_nil_of_length_eq_zero (by simp at h0; simp[h0])
  subst this; exact hQ
 ·have hne:s≠[]:=by intro e; subst e; simp at h0
  have hpos:0<s.length:=List.length_pos_iff.2 hne
  have hrk:rk s=jK s.length (bt s 0) (bt s 1) (bt s 2) (bt s 3):=by rw[rk,if_neg hne]
  have hg0:s[0]?=some s[0]:=List.getElem?_eq_getElem hpos
  have hb0:=AQ hpos
  have hc:=qx s[0]
  generalize s[0]=c at *
  have hw:IntKind.wrap .i64 (c.toNat:Int)=(c.toNat:Int):=oF (by omega) (by omega)
  refine⟨by omega,c,by simpa using hg0, ?_⟩
  rw[hw,hb0]
  have hb:=O4 s 0
  refine⟨fun h=>?_,fun h=>?_⟩
  ·rw[hrk,sJ (by simp at h; omega)] at hQ; exact hQ
  have h128:128≤bt s 0:=by simp at h; omega
  refine bY (fun xs M'=>M'=M∧∃ k v0:Nat,xs=[N .i64 k,N .i64 v0] ∧
   (k=2∧194≤bt s 0∧bt s 0<224∧v0=bt s 0 - 192∨k=3∧224≤bt s 0∧bt s 0<240∧v0=bt s 0 - 224∨k=4∧240≤bt s 0∧bt s 0<245∧v0=bt s 0 - 240)) ?_ ?_
  ·rintro _ M0 ⟨hM0,k,v0,rfl,hk⟩
   subst hM0
   have hk4:2≤k∧k≤4∧v0<32:=by omega
   have hbs:∀ i,bt s i<256:=O4 s
   show ag .lss _ _ _
   rw[show ae [N IntKind.i64 (k:Int),N IntKind.i64 (v0:Int)] 0=N .i64 (k:Int) from rfl,show ae [N IntKind.i64 (k:Int),N IntKind.i64 (v0:Int)] 1=N .i64 (v0:Int) from rfl,eD,wT]
   refine⟨fun hlt=>?_,fun hge=>?_⟩
   ·have hlt:s.length<k:=by simpa using hlt
    have:rk s=0:=by
     rw[hrk]
     rcases hk with hk | hk | hk
     ·exact uV (by omega) (by omega)
     ·exact wP (by omega) (by omega)
     ·exact wJ (by omega) (by omega)
    rw[this] at hQ; exact hQ
   have hge:k≤s.length:=by simpa using hge
   refine aS (fun m ys M'=>M'=M0∧∃ j:Nat,m=k - j∧ys=[N .i64 (acc v0 s j),N .i64 ((j + 1:Nat) : Int)]∧j + 1≤k∧(∀ i,1≤i→i≤j→128≤bt s i∧bt s i≤191) ∧
    (j=0∧acc v0 s j<32∨j=1∧acc v0 s j<4096∨j=2∧acc v0 s j<262144∨j=3∧acc v0 s j<33554432)) _ ⟨rfl,0,rfl,rfl,by omega,fun i h1 h2=>by omega,by simp[acc]; omega⟩ ?_
   rintro next m ys _ hnext ⟨rfl,j,rfl,rfl,hj,hall,hacc⟩
   rw[show ae [N IntKind.i64 (acc v0 s j:Int),N IntKind.i64 ((j + 1:Nat) : Int)] 0=N .i64 (acc v0 s j:Int) from rfl,show ae [N IntKind.i64 (acc v0 s j:Int),N IntKind.i64 ((j + 1:Nat) : Int)] 1=N .i64 ((j + 1:Nat) : Int) from rfl,eD,wT]
   refine⟨fun hlt=>?_,fun pz=>?_⟩
   ·have hlt:j + 1<k:=by
     have:=of_decide_eq_true hlt
     omega
    have hjs:j + 1<s.length:=by omega
    have hgj:s[j + 1]?=some s[j + 1]:=List.getElem?_eq_getElem hjs
    have hwj:IntKind.wrap .i64 (s[j + 1].toNat:Int)=(bt s (j + 1) : Int):=by rw[oF (by omega) (by have:=qx s[j + 1]; omega),AQ hjs]
    have hbj:=hbs (j + 1)
    simp only[go_sem]
    refine⟨s[j + 1],hgj, ?_⟩
    rw[hwj]
    generalize hB:bt s (j + 1)=B at *
    have hbad:(B<128∨191<B)→rk s=0:=fun hb'=>by
     rw[hrk]
     have h3:j=0∨j=1∨j=2:=by omega
     rcases hk with hk | hk | hk
     ·obtain rfl:j=0:=by omega
      exact uV (by omega) (by simp only[Nat.zero_add] at hB; omega)
     ·refine wP (by omega) ?_
      rcases h3 with rfl | rfl | rfl <;> simp only[Nat.zero_add,Nat.reduceAdd] at hB <;> omega
     ·refine wJ (by omega) ?_
      rcases h3 with rfl | rfl | rfl <;> simp only[Nat.zero_add,Nat.reduceAdd] at hB <;> omega
    by_cases c1:B<128
    ·have c1' : ((B:Int)<128):=by omega
     simp only[c1',decide_true,go_sem,if_true]
     rw[hbad (by omega)] at hQ; exact hQ
    ·have c1' : ¬ ((B:Int)<128):=by omega
     by_cases c2:191<B
     ·have c2' : (B:Int) > 191:=by omega
      simp only[c1',c2',decide_true,decide_false,go_sem,if_true]
      rw[hbad (by omega)] at hQ; exact hQ
     ·have c2' : ¬ ((B:Int) > 191):=by omega
      simp only[c1',c2',decide_true,decide_false,go_sem,if_true]
      have e1:acc v0 s (j + 1)=64 * acc v0 s j + B - 128:=by rw[acc,hB]
      have w1:IntKind.wrap .i64 (64 * (acc v0 s j:Int))=64 * (acc v0 s j:Int):=kI (by omega) (by omega)
      have w2:IntKind.wrap .i64 (64 * (acc v0 s j:Int) + (B:Int))=64 * (acc v0 s j:Int) + (B:Int):=kI (by omega) (by omega)
      have w3:IntKind.wrap .i64 (64 * (acc v0 s j:Int) + (B:Int) - 128)=(acc v0 s (j + 1) : Int):=by rw[kI (by omega) (by omega),e1]; omega
      have w4:IntKind.wrap .i64 (((j + 1:Nat) : Int) + 1)=((j + 2:Nat) : Int):=by rw[kI (by omega) (by omega)]; omega
      rw[w1,w2,w3,w4]
      refine hnext _ _ _ (by omega) ⟨rfl,j + 1,rfl,rfl,by omega,fun i h1 h2=>?_,by omega⟩
      by_cases hi:i=j + 1
      ·subst hi; omega
      ·exact hall i h1 (by omega)
   ·have pz:=of_decide_eq_false pz
    obtain rfl:k=j + 1:=by omega
    have hrest:rk s=if j + 1=3∧(acc v0 s j<2048∨55296≤acc v0 s j∧acc v0 s j<57344)∨j + 1=4∧(acc v0 s j<65536∨1114111<acc v0 s j) then 0 else j + 1:=by
     rw[hrk]
     rcases hk with hk | hk | hk
     ·obtain rfl:j=1:=by omega
      rw[Kz (by omega) (by omega) (hall 1 (by omega) (by omega)),if_neg (by omega)]
     ·obtain rfl:j=2:=by omega
      rw[KC (v:=acc v0 s 2) (by omega) (by omega) (hall 1 (by omega) (by omega)) (hall 2 (by omega) (by omega)) (by simp only[acc]; rw[hk.2.2.2])]
      simp
     ·obtain rfl:j=3:=by omega
      rw[NF (v:=acc v0 s 3) (by omega) (by omega) (hall 1 (by omega) (by omega)) (hall 2 (by omega) (by omega)) (hall 3 (by omega) (by omega)) (by simp only[acc]; rw[hk.2.2.2])]
      simp
    rw[hrest] at hQ
    generalize acc v0 s j=A at *
    simp only[eD,dE,mf,cz]
    refine Ql _ _ _ _ _ _ _ (fun h=>?_) (fun h=>?_)
    ·simp only[Bool.or_eq_true,Bool.and_eq_true,decide_eq_true_eq,beq_iff_eq] at h
     rw[if_pos (by omega)] at hQ; exact hQ
    ·rw[Bool.eq_false_iff] at h
     simp only[ne_eq,Bool.or_eq_true,Bool.and_eq_true,decide_eq_true_eq,beq_iff_eq] at h
     rw[if_neg (by omega)] at hQ; exact hQ
  ·intro J hJ
   have cmp:∀ k:Nat,decide ((bt s 0:Int) ≥ (k:Int))=decide (k≤bt s 0):=fun k=>by simp
   have cml:∀ k:Nat,decide ((bt s 0:Int)<(k:Int))=decide (bt s 0<k):=fun k=>by simp
   have Q5:=cmp 194
   have e224:=cmp 224
   have e240:=cmp 240
   have H7:=cml 224
   have K6:=cml 240
   have OO:=cml 245
   simp only[Int.cast_ofNat_Int] at Q5 e224 e240 H7 K6 OO
   rw[Q5]
   by_cases c1:194≤bt s 0
   ·by_cases c2:bt s 0<224
    ·simp only[c1,c2,H7,go_sem,decide_true,if_true]
     refine hJ _ _ ⟨rfl,2,bt s 0 - 192, ?_,by omega⟩
     rw[kI (by omega) (by omega)]; congr 3; omega
    ·by_cases c3:bt s 0<240
     ·simp only[c1,c2,c3,H7,e224,K6,show 224≤bt s 0 by omega,go_sem,decide_true,decide_false,if_true]
      refine hJ _ _ ⟨rfl,3,bt s 0 - 224, ?_,by omega⟩
      rw[kI (by omega) (by omega)]; congr 3; omega
     ·by_cases c4:bt s 0<245
      ·simp only[c1,c2,c3,c4,H7,e224,K6,e240,OO,show 224≤bt s 0 by omega,show 240≤bt s 0 by omega,go_sem,decide_true,decide_false,if_true]
       refine hJ _ _ ⟨rfl,4,bt s 0 - 240, ?_,by omega⟩
       rw[kI (by omega) (by omega)]; congr 3; omega
      ·simp only[c1,c2,c3,c4,H7,e224,K6,e240,OO,show 224≤bt s 0 by omega,show 240≤bt s 0 by omega,go_sem,decide_true,decide_false,if_true]
       rw[hrk,vW (by omega)] at hQ; exact hQ
   ·simp only[c1,e224,e240,show ¬ 224≤bt s 0 by omega,show ¬ 240≤bt s 0 by omega,go_sem,decide_true,decide_false,if_true,Bool.false_eq_true,if_false]
    rw[hrk,vW (by omega)] at hQ; exact hQ
theorem FQ {s:List UInt8} : rk s≤s.length∧rk s≤4:=by
 by_cases h:s=[]
 ·subst h; simp[rk]
 ·have h1:=O8 h
  have h2:=qo h
  by_cases h0:rk s=0
  ·omega
  ·rw[if_neg h0] at h1; omega
theorem nL {s:List UInt8} (h:s≠[]) {k:Nat} (hk:1≤k) : (s.drop k).length<s.length:=by
 have:=List.length_pos_iff.2 h
 simp; omega
theorem Qc {n m b0 b1 b2 b3 c1 c2 c3 k:Nat} (h:jK n b0 b1 b2 b3=k) (h0:k≠0) (hm:k≤m) (e1:2≤k→c1=b1) (e2:3≤k→c2=b2) (e3:4≤k→c3=b3) : jK m b0 c1 c2 c3=k:=by
 by_cases r1:b0<128
 ·rw[sJ r1] at h ⊢; exact h
 by_cases r2:b0<194∨245≤b0
 ·rw[vW (by omega)] at h; exact absurd h.symm h0
 by_cases r3:b0<224
 ·by_cases g:n<2∨b1<128∨191<b1
  ·rw[uV (by omega) g] at h; exact absurd h.symm h0
  ·rw[Kz (by omega) (by omega) (by omega)] at h
   subst h
   have:=e1 (by omega)
   exact Kz (by omega) (by omega) (by omega)
 by_cases r4:b0<240
 ·by_cases g:n<3∨b1<128∨191<b1∨b2<128∨191<b2
  ·rw[wP (by omega) g] at h; exact absurd h.symm h0
  ·rw[KC (by omega) (by omega) (by omega) (by omega) rfl] at h
   have hk:k=3:=by split at h <;> omega
   subst hk
   obtain rfl:=e1 (by omega)
   obtain rfl:=e2 (by omega)
   rw[KC (by omega) (by omega) (by omega) (by omega) rfl]; exact h
 ·by_cases g:n<4∨b1<128∨191<b1∨b2<128∨191<b2∨b3<128∨191<b3
  ·rw[wJ (by omega) g] at h; exact absurd h.symm h0
  ·rw[NF (by omega) (by omega) (by omega) (by omega) (by omega) rfl] at h
   have hk:k=4:=by split at h <;> omega
   subst hk
   obtain rfl:=e1 (by omega)
   obtain rfl:=e2 (by omega)
   obtain rfl:=e3 (by omega)
   rw[NF (by omega) (by omega) (by omega) (by omega) (by omega) rfl]; exact h
theorem Dp {s:List UInt8} {k i:Nat} (t:List UInt8) (hk:k≤s.length) (hi:i<k) : bt (s.take k++t) i=bt s i:=by
 simp only[bt,List.getD_eq_getElem?_getD]
 rw[List.getElem?_append_left (by simp; omega),List.getElem?_take_of_lt hi]
theorem Mk {s t:List UInt8} (h0:rk s≠0) : rk (s.take (rk s)++t)=rk s:=by
 have hl:=FQ (s:=s)
 have hne:s≠[]:=by intro e; subst e; simp[rk] at h0
 have hne' : s.take (rk s)++t≠[]:=by
  intro e
  have:=congrArg List.length e
  rw[List.length_append,List.length_take,Nat.min_eq_left hl.1] at this
  simp only[List.length_nil] at this; omega
 have hk:jK s.length (bt s 0) (bt s 1) (bt s 2) (bt s 3)=rk s:=by rw[rk,if_neg hne]
 rw[show rk (s.take (rk s)++t)=jK (s.take (rk s)++t).length (bt (s.take (rk s)++t) 0) (bt (s.take (rk s)++t) 1) (bt (s.take (rk s)++t) 2) (bt (s.take (rk s)++t) 3) by rw[rk,if_neg hne']]
 rw[Dp t hl.1 (show 0<rk s by omega)]
 exact Qc hk h0 (by simp; omega) (fun h=>Dp t hl.1 (by omega)) (fun h=>Dp t hl.1 (by omega)) (fun h=>Dp t hl.1 (by omega))
def dJ (s:List UInt8) : Bool:=if s=[] then true else if h:rk s=0 then false else dJ (s.drop (rk s))
 termination_by s.length
 decreasing_by exact nL (by assumption) (by omega)
theorem mG:dJ []=true:=by rw[dJ]; simp
theorem D8 {s:List UInt8} (hne:s≠[]) (h:rk s=0) : dJ s=false:=by rw[dJ]; simp[hne,h]
theorem mi {s:List UInt8} (h:rk s≠0) : dJ s=dJ (s.drop (rk s)):=by
 have hne:s≠[]:=by intro e; subst e; simp[rk] at h
 rw[dJ]; simp[hne,h]
theorem Pg {s:List UInt8} (hne:s≠[]) (h:dJ s=true) : rk s≠0:=fun h0=>by rw[D8 hne h0] at h; cases h
theorem DN:∀ (n:Nat) {a b:List UInt8},a.length≤n→dJ a=true→dJ b=true→dJ (a++b)=true
 | 0,a,b,hn,ha,hb=>by
   have:a=[]:=List.eq_nil_of_length_eq_zero (by omega)
   subst this; exact hb
 | n + 1,a,b,hn,ha,hb=>by
   by_cases hne:a=[]
   ·subst hne; exact hb
   have h0:=Pg hne ha
   have hl:=FQ (s:=a)
   have e:rk (a++b)=rk a:=by
    have:=Mk (s:=a) (t:=a.drop (rk a)++b) h0
    rwa [← List.append_assoc,List.take_append_drop] at this
   rw[mi (by omega),e,List.drop_append_of_le_length hl.1]
   refine DN n ?_ (by rw[← mi h0,ha]) hb
   simp; omega
def fo (u:Nat) (s:List UInt8) : List UInt8 :=
 if s=[] then[] else if u + rs s > 75 then[13,10,32]++s.take (rs s)++fo (1 + rs s) (s.drop (rs s)) else s.take (rs s)++fo (u + rs s) (s.drop (rs s))
 termination_by s.length
 decreasing_by all_goals exact nL (by assumption) (lT (by assumption))
theorem uo (u:Nat) : fo u []=[]:=by rw[fo]; simp
theorem uU {u:Nat} {s:List UInt8} (hne:s≠[]) (h:75<u + rs s) : fo u s=[13,10,32]++s.take (rs s)++fo (1 + rs s) (s.drop (rs s)):=by
 rw[fo,if_neg hne,if_pos (by omega)]
theorem uM {u:Nat} {s:List UInt8} (hne:s≠[]) (h:u + rs s≤75) : fo u s=s.take (rs s)++fo (u + rs s) (s.drop (rs s)):=by
 rw[fo,if_neg hne,if_neg (by omega)]
def pc (lim:Nat) (s:List UInt8) : Nat:=if s=[] then 0 else if rs s > lim then 0 else rs s + pc (lim - rs s) (s.drop (rs s))
 termination_by s.length
 decreasing_by exact nL (by assumption) (lT (by assumption))
theorem NC (l:Nat) : pc l []=0:=by rw[pc]; simp
theorem GM {l:Nat} {s:List UInt8} (h:l<rs s) : pc l s=0:=by rw[pc]; simp; intro _ _; omega
theorem Ah {l:Nat} {s:List UInt8} (hne:s≠[]) (h:rs s≤l) : pc l s=rs s + pc (l - rs s) (s.drop (rs s)):=by
 rw[pc,if_neg hne,if_neg (by omega)]
theorem Ph:∀ (n:Nat) {l:Nat} {s:List UInt8},s.length≤n→pc l s≤s.length
 | n,l,s,hn=>by
   by_cases hne:s=[]
   ·subst hne; simp[NC]
   by_cases h:l<rs s
   ·simp[GM h]
   rw[Ah hne (by omega)]
   have h1:=lT hne
   have h2:=qo hne
   cases n with
   | zero=>exact absurd (List.eq_nil_of_length_eq_zero (by omega)) hne
   | succ n =>
     have:=Ph n (l:=l - rs s) (s:=s.drop (rs s)) (by simp; omega)
     simp at this; omega
theorem QN {l:Nat} {s:List UInt8} (hne:s≠[]) (h:4≤l) : 1≤pc l s:=by
 have h1:=lT hne
 have h2:=qo hne
 rw[Ah hne (by omega)]; omega
theorem O6:∀ (n:Nat) {u:Nat} {s:List UInt8},s.length≤n→u≤75→fo u s=s.take (pc (75 - u) s)++(if s.drop (pc (75 - u) s)=[] then[] else[13,10,32]++fo 1 (s.drop (pc (75 - u) s)))
 | n,u,s,hn,hu=>by
   by_cases hne:s=[]
   ·subst hne; simp[uo]
   have h1:=lT hne
   have h2:=qo hne
   by_cases h:75<u + rs s
   ·rw[GM (by omega),uU hne h]
    simp only[List.take_zero,List.drop_zero,List.nil_append,if_neg hne]
    rw[uM (u:=1) hne (by omega)]; simp
   ·rw[Ah hne (by omega),uM hne (by omega)]
    cases n with
    | zero=>exact absurd (List.eq_nil_of_length_eq_zero (by omega)) hne
    | succ n =>
      rw[O6 n (u:=u + rs s) (by simp; omega) (by omega),List.take_add,← List.drop_drop,show 75 - (u + rs s)=75 - u - rs s by omega,List.append_assoc]
theorem yC:∀ (n:Nat) {u:Nat} {s:List UInt8},s.length≤n→(fo u s).length≤4 * s.length
 | n,u,s,hn=>by
   by_cases hne:s=[]
   ·subst hne; simp[uo]
   have h1:=lT hne
   have h2:=qo hne
   cases n with
   | zero=>exact absurd (List.eq_nil_of_length_eq_zero (by omega)) hne
   | succ n =>
     by_cases h:75<u + rs s
     ·rw[uU hne h]
      have:=yC n (u:=1 + rs s) (s:=s.drop (rs s)) (by simp; omega)
      simp at this ⊢; omega
     ·rw[uM hne (by omega)]
      have:=yC n (u:=u + rs s) (s:=s.drop (rs s)) (by simp; omega)
      simp at this ⊢; omega
theorem PI {n0 T8:Nat} {M:RM} {v:AV} {xs s:List UInt8} {K:AV→RM→Prop} (ho:Ow BY M n0 T8 v xs) (hn:n0≤M.next) (hl:xs.length + s.length≤140737488355328)
  (hK:∀ v' M',Ow BY M' n0 T8 v' (xs++s)→ah (aI v) M M'→K v' M') : appW T8 1 1 [N .u8 0] false v (St s) M K:=by
 have hnew:lL M 1 [N .u8 0] false (St s)=some (s.length,BY.row s):=by simp only[lL,rU,if_true]
 refine uS ho hn (Nat.le_refl _) hnew (by rw[BY.eY]; rfl) (BY.uN s) (by omega) (by omega) fun v' M2 h2 k2 hnx2 hv=>hK v' M2 ?_ k2
 rw[← BY.mR] at h2
 show Own M2 n0 T8 1 v' (BY.row (xs++s)) (xs++s).length
 rw[List.length_append]; exact h2
theorem gm {s:List UInt8} {h:Nat} (h2:h≤s.length) (k2:IntKind) : aC (St s) none (some (N k2 (h:Int)))=some (St (s.take h)):=by
 have:=Bq (s:=s) (l:=0) (h:=h) (by omega) h2 .i64 k2
 rw[List.drop_zero,Nat.sub_zero] at this; exact this
def D5 (c:ak) : Prop:=∀ {M:RM} {s:List UInt8} {Q:ai},s.length≤1000000000→Q (Bo (dJ s)) M→c [St s] M Q
theorem IG {cr:ak} (hr:FT cr) : D5 fun args M Q=>∃ a0,args=[a0]∧nJ cr a0 M Q:=by
 intro M s Q hl hQ
 refine⟨_,rfl, ?_⟩
 unfold nJ
 refine aS (fun m ys M'=>M'=M∧∃ t:List UInt8,m=t.length∧ys=[St t]∧t.length≤s.length∧dJ t=dJ s) _ ⟨rfl,s,rfl,rfl,Nat.le_refl _,rfl⟩ ?_
 rintro next m ys M' hnext ⟨rfl,t,rfl,rfl,ht,hf⟩
 simp only[go_sem]
 refine⟨fun hlt=>?_,fun hge=>?_⟩
 ·have hne:t≠[]:=by intro e; subst e; simp at hlt
  refine hr (by omega) ?_
  have hle:=FQ (s:=t)
  by_cases h0:rk t=0
  ·rw[h0]
   simp only[go_sem,show(((0:Nat) : Int) == 0)=true from rfl]
   rw[D8 hne h0] at hf; rw[hf]; exact hQ
  ·have e0:((rk t:Int) == 0)=false:=by simp; omega
   simp only[go_sem,e0]
   rw[bi hle.1]
   simp only[go_sem]
   refine hnext _ _ _ (nL hne (by omega)) ⟨rfl,_,rfl,rfl, ?_, ?_⟩
   ·simp; omega
   ·rw[← mi h0,hf]
 ·have:t=[]:=by
   apply List.eq_nil_of_length_eq_zero
   have:=of_decide_eq_false hge
   omega
  subst this
  rw[mG] at hf; rw[hf]; exact hQ
def KU (c:ak) : Prop:=∀ {M:RM} {s:List UInt8} {Q:ai},s.length≤1000000→(∀ M',ah [] M M'→Q (St (fo 0 s)) M')→c [St s] M Q
theorem Ji {α:Type} {l t s:List α} (h:l++t=s) : l.length≤s.length:=by rw[← h]; simp
theorem GK {T8:Nat} {cr:ak} (hr:FT cr) : KU fun args M Q=>∃ a0,args=[a0]∧qM T8 cr a0 M Q:=by
 intro M s Q hl hQ
 refine⟨_,rfl, ?_⟩
 unfold qM
 refine SE ?_
 simp only[bn]
 have hfl:=yC s.length (u:=0) (s:=s) (Nat.le_refl _)
 refine aS (fun m ys M3=>∃ (t w:List UInt8) (v:AV) (u:Nat),m=t.length∧ys=[St t,v,N .i64 u]∧u≤75∧t.length≤s.length∧Ow BY M3 M.next T8 v w∧w++fo u t=fo 0 s∧ah [] M M3) _
  ⟨s,[],_,0,rfl,rfl,by omega,Nat.le_refl _,Ow.lit BY M,rfl,(ah.refl _ _).push _⟩ ?_
 rintro next m ys M3 hnext ⟨t,w,v,u,rfl,rfl,hu,ht,ho,hw,hK⟩
 have hwl:=Ji hw
 simp only[go_sem]
 refine⟨fun hlt=>?_,fun hge=>?_⟩
 ·have hne:t≠[]:=by intro e; subst e; simp at hlt
  refine hr (by omega) ?_
  have h1:=lT hne
  have h2:=qo hne
  have hrs:=O8 hne
  have kk:∀ {v:AV} {w:List UInt8} {M3 M' : RM},Ow BY M3 M.next T8 v w→ah [] M M3→ah (aI v) M3 M'→ah [] M M':=fun ho hK h=>hK.jP h fun c hc=>.inl (ho.blk c hc).1
  have two:∀ (v:AV) (w:List UInt8) (u:Nat) (M4:RM),u + rs t≤75→Ow BY M4 M.next T8 v w→ah [] M M4→w++t.take (rs t)++fo (u + rs t) (t.drop (rs t))=fo 0 s →
    bJ (aC (St t) none (some (N .i64 (rs t)))) fun t24=>appW T8 1 1 [N .u8 0] false v t24 M4 fun t25 GA=>next [St (t.drop (rs t)),t25,N .i64 (IntKind.wrap .i64 ((u:Int) + (rs t:Int)))] GA:=fun v w u M4 hu' ho hK hw=>by
   have hwl:(w++t.take (rs t)).length≤(fo 0 s).length:=by rw[← hw]; simp
   rw[gm h2.1]
   simp only[go_sem]
   refine PI ho hK.next (by simp at hwl ⊢; omega) fun v' M5 ho5 k5=>?_
   rw[show IntKind.wrap .i64 ((u:Int) + (rs t:Int))=((u + rs t:Nat) : Int) by rw[kI (by omega) (by omega)]; omega]
   exact hnext _ _ _ (nL hne h1) ⟨_,w++t.take (rs t),v',u + rs t,rfl,rfl,by omega,by simp; omega,ho5,hw,kk ho hK k5⟩
  have mid:ag .add (N .i64 u) (N .i64 (rs t)) fun t16=>ag .gtr t16 (N .i64 75) fun t17=>aj t17 (ic T8 3 [(N .u8 0)] [(0,1,(N .u8 13)),(1,1,(N .u8 10)),(2,1,(N .u8 32))] fun r_5 f_6 =>
    appW T8 1 1 [(N .u8 0)] false v (f_6 M3.next) (M3.push r_5) fun t20 M_8 =>
     bJ (aC (St t) none (some (N .i64 (rs t)))) fun t24=>appW T8 1 1 [N .u8 0] false t20 t24 M_8 fun t25 GA=>ag .add (N .i64 1) (N .i64 (rs t)) fun t28=>bJ (aC (St t) (some (N .i64 (rs t))) none) fun t31=>next [t31,t25,t28] GA)
    (bJ (aC (St t) none (some (N .i64 (rs t)))) fun t24=>appW T8 1 1 [N .u8 0] false v t24 M3 fun t25 GA=>ag .add (N .i64 u) (N .i64 (rs t)) fun t28=>bJ (aC (St t) (some (N .i64 (rs t))) none) fun t31=>next [t31,t25,t28] GA):=by
   rw[bi h2.1]
   simp only[go_sem]
   have e1:IntKind.wrap .i64 ((u:Int) + (rs t:Int))=((u + rs t:Nat) : Int):=by rw[kI (by omega) (by omega)]; omega
   refine⟨fun h=>?_,fun h=>?_⟩
   ·rw[e1] at h
    have h:75<u + rs t:=by have:=of_decide_eq_true h; omega
    refine⟨BY.row [13,10,32],by simp[si,mg,oneCell,AV.cells,rU], ?_⟩
    rw[uU hne h] at hw
    have hx:=congrArg List.length hw
    simp only[List.length_append,List.length_cons,List.length_nil] at hx
    have hk:ah [] M3 (M3.push (.row (BY.row [13,10,32]) false T8 0)):=(ah.refl _ _).push _
    refine Jn (E:=BY) (ys:=[13,10,32]) (Own.keep ho hk (by simp)) (Nat.le_trans hK.next hk.next) (Nat.le_refl _) (Sl.new [13,10,32]) (by simp; omega) (by simp; omega) fun v' M4 h1 h2 h3 h4=>?_
    exact two v' (w++[13,10,32]) 1 M4 (by omega) h1 (kk ho hK ((hk.mono (by simp)).trans h2)) (by rw[← hw]; simp)
   ·rw[e1] at h
    have h:u + rs t≤75:=by have:=of_decide_eq_false h; omega
    rw[uM hne h] at hw
    exact two v w u M3 h ho hK (by rw[← hw]; simp)
  by_cases h0:rk t=0
  ·rw[if_pos h0] at hrs
   rw[h0]
   rw[hrs,show((1:Nat) : Int)=1 from rfl] at mid
   rw[cz]
   simp only[go_sem] at mid
   refine⟨fun _=>?_,fun h=>absurd h (by simp)⟩
   exact mid
  ·rw[if_neg h0] at hrs
   rw[hrs] at mid
   have e0:((rk t:Int) == 0)=false:=by simp; omega
   rw[cz,e0]
   exact⟨fun h=>(by cases h),fun _=>mid⟩
 ·have:t=[]:=by
   apply List.eq_nil_of_length_eq_zero
   have:=of_decide_eq_false hge
   omega
  subst this
  rw[uo,List.append_nil] at hw
  subst hw
  rw[Sl.str ho.Bp]
  exact hQ M3 hK
def QQ (B:Base) (c:ak) : Prop:=∀ {M:RM} {s:List UInt8} {Q:ai},M.base=B→s≠[]→s.length≤1000000→(∀ r:AV,Q (.tup [r,N .i64 (rs s)]) M)→c [St s] M Q
def Gg (B:Base) (c:ak) : Prop:=∀ {M:RM} {s:List UInt8} {l:Nat} {Q:ai},M.base=B→s.length≤1000000→l≤1000→Q (N .i64 (pc l s)) M→c [St s,N .i64 l] M Q
theorem Ku {B:Base} {cd:ak} (hd:QQ B cd) : Gg B fun args M Q=>∃ a0 a1,args=[a0,a1]∧pJ cd a0 a1 M Q:=by
 intro M s l Q hM hl hll hQ
 refine⟨_,_,rfl, ?_⟩
 unfold pJ
 simp only[go_sem]
 refine aS (fun m ys M'=>M'=M∧∃ i:Nat,m=s.length - i∧ys=[N .i64 i]∧i≤s.length∧i≤l∧i + pc (l - i) (s.drop i)=pc l s) _ ⟨rfl,0,rfl,rfl,Nat.zero_le _,Nat.zero_le _,by simp⟩ ?_
 rintro next m ys M' hnext ⟨rfl,i,rfl,rfl,hi,hil,hp⟩
 simp only[go_sem]
 refine⟨fun hlt=>?_,fun hge=>?_⟩
 ·have hlt:i<s.length:=by have:=of_decide_eq_true hlt; omega
  have hne:s.drop i≠[]:=by intro e; have:=congrArg List.length e; simp at this; omega
  have h1:=lT hne
  have h2:=qo hne
  rw[List.length_drop] at h2
  rw[bi hi]
  simp only[go_sem]
  refine hd hM hne (by simp; omega) fun r=>?_
  have e1:IntKind.wrap .i64 ((i:Int) + (rs (s.drop i) : Int))=((i + rs (s.drop i) : Nat) : Int):=by rw[kI (by omega) (by omega)]; omega
  simp only[go_sem,e1]
  refine⟨fun h=>?_,fun h=>?_⟩
  ·have h:l<i + rs (s.drop i):=by have:=of_decide_eq_true h; omega
   rw[GM (by omega),Nat.add_zero] at hp
   rw[hp]; exact hQ
  ·have h:i + rs (s.drop i)≤l:=by have:=of_decide_eq_false h; omega
   rw[Ah hne (by omega),List.drop_drop] at hp
   exact hnext _ _ _ (by omega) ⟨rfl,_,rfl,rfl,by omega,h,by rw[← hp,show l - (i + rs (s.drop i))=l - i - rs (s.drop i) by omega]; omega⟩
 ·have hge:s.length≤i:=by have:=of_decide_eq_false hge; omega
  rw[List.drop_eq_nil_of_le hge,NC,Nat.add_zero] at hp
  rw[hp]; exact hQ
theorem Nn {B:Base} {TB T8:Nat} {cp cs ct:ak} (hp:Gg B cp) (hs:rX TB T8 cs) (ht:Am TB T8 ct) {M:RM} {s:List UInt8} {Q:ai} (hM:M.base=B) (hl:s.length≤1000000) (hQ:∀ M',ah [] M M'→Q (St (fo 0 s)) M') :
  rO TB cp cs ct (St s) M Q:=by
 unfold rO
 simp only[bn]
 generalize hM2:M.push (.row [.sc (.pointer none),.sc (.slice none 0 0)] false TB 0)=M2
 have hn2:M2.next=M.next + 1:=by rw[← hM2]; rfl
 have hk2:ah [] M M2:=by rw[← hM2]; exact(ah.refl _ _).push _
 have hb0:mJ TB T8 M2.next M2 M.next []:=mJ.new (by rw[← hM2]; simp[go_sem]) (by omega) (Nat.le_refl _)
 have hfl:=yC s.length (u:=0) (s:=s) (Nat.le_refl _)
 refine aS (fun m ys M3=>∃ (t w:List UInt8) (u:Nat),m=t.length∧ys=[St t,N .i64 ((75 - u:Nat) : Int)]∧u≤1∧t.length≤s.length∧mJ TB T8 M2.next M3 M.next w∧w++fo u t=fo 0 s∧jF M2.next [M.next] M2 M3) _
  ⟨s,[],0,rfl,rfl,by omega,Nat.le_refl _,hb0,rfl,jF.refl _ _ _⟩ ?_
 rintro next m ys M3 hnext ⟨t,w,u,rfl,rfl,hu,ht',hB,hw,hK⟩
 have hwl:=Ji hw
 by_cases hne:t=[]
 ·subst hne
  simp only[go_sem,bne_self_eq_false]
  rw[uo,List.append_nil] at hw
  subst hw
  refine ht hB (by omega) fun M4 k4=>hQ M4 ?_
  refine hk2.PL (hK.trans ⟨k4.base,k4.next,fun c h1 h2=>k4.heap c h1 (by simp)⟩) (by omega) fun c hc=>.inl (by simp at hc; omega)
 ·have hne' : (t != [])=true:=by simp[hne]
  simp only[go_sem,hne']
  have hb3:M3.base=B:=by rw[hK.base,hk2.base,hM]
  refine hp hb3 (by omega) (by omega) ?_
  have hpl:=Ph t.length (l:=75 - u) (s:=t) (Nat.le_refl _)
  have hpp:=QN hne (show 4≤75 - u by omega)
  rw[O6 t.length (Nat.le_refl _) (by omega)] at hw
  generalize pc (75 - u) t=n at *
  rw[gm hpl,bi hpl]
  simp only[go_sem]
  have hx:=congrArg List.length hw
  simp only[List.length_append] at hx
  refine hs hB (by omega) fun M4 hB4 k4=>?_
  by_cases hz:t.drop n=[]
  ·rw[hz]
   simp only[go_sem,bne_self_eq_false]
   refine hnext _ _ _ (by simp; exact List.length_pos_iff.2 hne) ⟨[],_,1,rfl,rfl,by omega,Nat.zero_le _,hB4, ?_,hK.trans k4⟩
   rw[if_pos hz] at hw
   rw[uo,← hw]; simp
  ·have hz' : (t.drop n != [])=true:=by simp[hz]
   rw[if_neg hz] at hw hx
   simp only[go_sem,hz']
   simp only[List.length_append,List.length_cons,List.length_nil] at hx
   refine hs (s:=[13,10,32]) hB4 (by simp; omega) fun M5 hB5 k5=>?_
   refine hnext _ _ _ (nL hne hpp) ⟨_,_,1,rfl,rfl,by omega,by simp; omega,hB5, ?_,(hK.trans k4).trans k5⟩
   rw[← hw]; simp
def nl:List UInt8→Option (List UInt8 × List UInt8)
 | []=>none
 | c :: t=>if c.toNat=10 then some ([],t) else(nl t).map fun p=>(c :: p.1,p.2)
theorem GH:∀ s:List UInt8,(nl s=none∧Lib.indexByte s 10=-1)∨∃ a b,nl s=some (a,b)∧Lib.indexByte s 10=(a.length:Int)∧s=a++10 :: b
 | []=>.inl ⟨rfl,rfl⟩
 | c :: t=>by
   by_cases h:c.toNat=10
   ·obtain rfl:c=10:=UInt8.toNat_inj.1 h
    exact .inr ⟨[],t,by simp[nl],by simp[Lib.indexByte],rfl⟩
   ·have hc:(c == (10:UInt8))=false:=by
     simp only[beq_eq_false_iff_ne,ne_eq]
     intro e; subst e; exact h rfl
    rcases GH t with⟨h1,h2⟩ | ⟨a,b,h1,h2,h3⟩
    ·exact .inl ⟨by simp[nl,h,h1],by simp[Lib.indexByte,hc,h2]⟩
    ·refine .inr ⟨c :: a,b,by simp[nl,h,h1], ?_,by rw[h3]; rfl⟩
     have:((a.length:Int) == -1)=false:=by simp
     simp[Lib.indexByte,hc,h2,this]
def strip (s:List UInt8) : List UInt8:=if s.drop (s.length - 1)=[13] then s.take (s.length - 1) else s
theorem Ov (a:List UInt8) : strip (a++[13])=a:=by simp[strip]
theorem Nw (a:List UInt8) : (strip a).length≤a.length:=by
 unfold strip; split
 ·simp
 ·exact Nat.le_refl _
def dw:List UInt8→List UInt8→List (List UInt8)
 | cur,[]=>if cur=[] then[] else[cur]
 | cur,c :: t=>if c.toNat=10 then strip cur :: dw [] t else dw (cur++[c]) t
theorem Eg:∀ (s cur:List UInt8),dw cur s=match nl s with | some (a,b)=>strip (cur++a) :: dw [] b | none=>if cur++s=[] then[] else[cur++s]
 | [],cur=>by simp[dw,nl]
 | c :: t,cur=>by
   by_cases h:c.toNat=10
   ·simp[dw,nl,h]
   ·simp only[dw,nl,if_neg h]
    rw[Eg t (cur++[c])]
    cases nl t with
    | none=>simp
    | some p=>simp
theorem BQ:∀ (s cur:List UInt8),(dw cur s).length≤s.length + 1
 | [],cur=>by simp only[dw]; split <;> simp
 | c :: t,cur=>by
   simp only[dw]
   split
   ·have:=BQ t []
    simp; omega
   ·have:=BQ t (cur++[c])
    simp; omega
theorem EM {a:List UInt8} (ha:∀ b∈a,b.toNat≠10) : ∀ (cur t:List UInt8),dw cur (a++13 :: 10 :: t)=(cur++a) :: dw [] t:=by
 induction a with
 | nil=>intro cur t; simp[dw,Ov]
 | cons c a ih =>
   intro cur t
   have hc:=ha c (by simp)
   simp only[List.cons_append,dw,if_neg hc]
   rw[ih (fun b hb=>ha b (by simp[hb]))]
   simp
theorem Ju {a:List UInt8} (ha:∀ b∈a,b.toNat≠10) : ∀ (cur t:List UInt8),dw cur (a++t)=dw (cur++a) t:=by
 induction a with
 | nil=>intro cur t; simp
 | cons c a ih =>
   intro cur t
   have hc:=ha c (by simp)
   simp only[List.cons_append,dw,if_neg hc]
   rw[ih (fun b hb=>ha b (by simp[hb]))]
   simp
def H9 (c:ak) : Prop:=∀ {M:RM} {s:List UInt8} {Q:ai},Q (N .i64 (Lib.indexByte s 10)) M→c [St s,St [10]] M Q
theorem index_spec {ci x c1 c2:ak} (hi:lg ci) : H9 fun args M Q=>∃ a0 a1,args=[a0,a1]∧dO ci x c1 c2 a0 a1 M Q:=by
 intro M s Q hQ
 refine⟨_,_,rfl, ?_⟩
 unfold dO
 rw[bB,cz,show((([10] : List UInt8).length:Int) == 0)=false from rfl]
 simp only[eu]
 by_cases h:[10]=s
 ·subst h
  simp only[go_sem,beq_self_eq_true]
  exact hQ
 ·have h' : (([10] : List UInt8) == s)=false:=by simp[h]
  simp only[go_sem,h']
  exact⟨fun _=>⟨by omega,10,rfl,hi hQ⟩,fun h=>absurd h (by decide)⟩
def DW (s:List UInt8) : AV:=match nl s with
 | some (a,b)=>.tup [St a,St b,Bo true]
 | none=>.tup [St s,St [],Bo false]
def EB (c:ak) : Prop:=∀ {M:RM} {s:List UInt8} {Q:ai},s.length≤1000000000→Q (DW s) M→c [St s,St [10]] M Q
theorem FN {ci:ak} (hi:H9 ci) : EB fun args M Q=>∃ a0 a1,args=[a0,a1]∧dW ci a0 a1 M Q:=by
 intro M s Q hl hQ
 refine⟨_,_,rfl, ?_⟩
 unfold dW
 refine hi ?_
 unfold DW at hQ
 rcases GH s with⟨h1,h2⟩ | ⟨a,b,h1,h2,h3⟩
 ·rw[h1] at hQ
  simp only[go_sem,h2]
  exact⟨fun h=>absurd h (by decide),fun _=>hQ⟩
 ·rw[h1] at hQ
  have hsl:=congrArg List.length h3
  simp at hsl
  rw[h2,dE,show decide ((a.length:Int) ≥ 0)=true by simp]
  refine⟨fun _=>?_,fun h=>by cases h⟩
  rw[gm (by omega)]
  simp only[go_sem]
  rw[show IntKind.wrap .i64 ((a.length:Int) + ((1:Nat) : Int))=((a.length + 1:Nat) : Int) by rw[kI (by omega) (by omega)]; omega]
  rw[bi (by omega)]
  simp only[go_sem]
  rw[h3]
  rw[show(a++10 :: b).take a.length=a by simp,show(a++10 :: b).drop (a.length + 1)=b by rw[← List.drop_drop]; simp]
  exact hQ
theorem OV {ci:ak} (hi:EB ci) : EB fun args M Q=>∃ a0 a1,args=[a0,a1]∧j5 ci a0 a1 M Q:=by
 intro M s Q hl hQ
 refine⟨_,_,rfl, ?_⟩
 unfold j5
 refine hi hl ?_
 unfold DW at hQ ⊢
 cases h:nl s with
 | none=>rw[h] at hQ; simpa only[go_sem] using hQ
 | some p=>rw[h] at hQ; simpa only[go_sem] using hQ
def vT (c:ak) : Prop:=∀ {M:RM} {s:List UInt8} {Q:ai},s.length≤1000000000→Q (Bo (decide (s.drop (s.length - 1)=[13]))) M→c [St s,St [13]] M Q
theorem EL:vT fun args M Q=>∃ a0 a1,args=[a0,a1]∧fD a0 a1 M Q:=by
 intro M s Q hl hQ
 refine⟨_,_,rfl, ?_⟩
 unfold fD
 simp only[eu]
 rw[bB,bB,dE]
 by_cases h:s=[]
 ·subst h
  simp only[go_sem,show decide ((([] : List UInt8).length:Int) ≥ (([13] : List UInt8).length:Int))=false from rfl]
  exact hQ
 ·have hpos:=List.length_pos_iff.2 h
  rw[show decide ((s.length:Int) ≥ (([13] : List UInt8).length:Int))=true by simp; omega]
  simp only[go_sem]
  rw[show IntKind.wrap .i64 ((s.length:Int) - ((1:Nat) : Int))=((s.length - 1:Nat) : Int) by rw[kI (by omega) (by omega)]; omega]
  rw[bi (by omega)]
  simp only[go_sem]
  have:(s.drop (s.length - 1) == [13])=decide (s.drop (s.length - 1)=[13]):=by
   by_cases e:s.drop (s.length - 1)=[13] <;> simp[e]
  rw[this]; exact hQ
def Aw (c:ak) : Prop:=∀ {M:RM} {s:List UInt8} {Q:ai},s.length≤1000000000→Q (St (strip s)) M→c [St s,St [13]] M Q
theorem En {ch:ak} (hh:vT ch) : Aw fun args M Q=>∃ a0 a1,args=[a0,a1]∧eZ ch a0 a1 M Q:=by
 intro M s Q hl hQ
 refine⟨_,_,rfl, ?_⟩
 unfold eZ
 refine hh hl ?_
 unfold strip at hQ
 by_cases e:s.drop (s.length - 1)=[13]
 ·rw[if_pos e] at hQ
  have hne:s≠[]:=by intro h; subst h; simp at e
  have hpos:=List.length_pos_iff.2 hne
  rw[decide_eq_true e]
  refine⟨fun _=>?_,fun h=>by cases h⟩
  simp only[go_sem]
  rw[show IntKind.wrap .i64 ((s.length:Int) - ((1:Nat) : Int))=((s.length - 1:Nat) : Int) by rw[kI (by omega) (by omega)]; omega]
  rw[gm (by omega)]
  simp only[go_sem]
  exact hQ
 ·rw[if_neg e] at hQ
  rw[decide_eq_false e]
  exact⟨fun h=>(by cases h),fun _=>hQ⟩
theorem Mr {ch:ak} (hh:Aw ch) : Aw fun args M Q=>∃ a0 a1,args=[a0,a1]∧jM ch a0 a1 M Q:=by
 intro M s Q hl hQ
 refine⟨_,_,rfl, ?_⟩
 unfold jM
 exact hh hl hQ
theorem Pt {n0 T:Nat} {M:RM} {v:AV} {xs:List (List UInt8)} {x:List UInt8} {K:AV→RM→Prop} (ho:Ow fZ M n0 T v xs) (hn:n0≤M.next) (hl:xs.length≤2000000000)
  (hK:∀ v' M',Ow fZ M' n0 T v' (xs++[x])→ah (aI v) M M'→(v'=v∨∀ b∈aI v',M.next≤b)→K v' M') :
  ic T 1 [St []] [(0,1,St x)] fun r f=>appW T 1 16 [St []] false v (f M.next) (M.push r) K:=by
 rw[su (x:=St x) (size:=1) rfl rfl rfl]
 exact EE (E:=fZ) (a:=x) ho hn (Nat.le_refl _) (by omega) (by omega) fun v' M' h1 h2 _ h4=>hK v' M' h1 h2 h4
theorem Sk {n0 T:Nat} {M:RM} {v:AV} {xs:List Int} {x:Int} {K:AV→RM→Prop} (ho:Ow INT M n0 T v xs) (hn:n0≤M.next) (hl:xs.length≤2000000000)
  (hK:∀ v' M',Ow INT M' n0 T v' (xs++[x])→ah (aI v) M M'→(v'=v∨∀ b∈aI v',M.next≤b)→K v' M') :
  ic T 1 [N .i64 0] [(0,1,N .i64 x)] fun r f=>appW T 1 8 [N .i64 0] false v (f M.next) (M.push r) K:=by
 rw[su (x:=N .i64 x) (size:=1) rfl rfl rfl]
 exact EE (E:=INT) (a:=x) ho hn (Nat.le_refl _) (by omega) (by omega) fun v' M' h1 h2 _ h4=>hK v' M' h1 h2 h4
theorem Sc {M:RM} {n0 T:Nat} {v:AV} {xs:List (List UInt8)} (ho:Ow fZ M n0 T v xs) (hne:xs≠[]) : ∃ b,v=.slc b 0 xs.length (.op 1)∧Rw fZ M b true T xs∧n0≤b:=by
 have ho' : Own M n0 T 1 v (fZ.row xs) xs.length:=ho
 have hp:=List.length_pos_iff.2 hne
 generalize hcs:fZ.row xs=cs at ho'
 generalize hn:xs.length=n at ho'
 cases ho' with
 | nil=>omega
 | ex0=>omega
 | op b n cs h1 h2 h3 h4=>exact⟨b,rfl,⟨by rw[h3,hcs],h2⟩,h1⟩
theorem RJ {M:RM} {n0 T b:Nat} {xs:List (List UInt8)} (h:Rw fZ M b true T xs) (hb:n0≤b) : Ow fZ M n0 T (.slc b 0 xs.length (.op 1)) xs :=
 Own.op b _ _ hb h.lt h.heap (by rw[fZ.eY])
def isSp:List UInt8→Bool
 | []=>false
 | c :: _=>decide (c.toNat=32) || decide (c.toNat=9)
def glue (acc:List (List UInt8)) (x:List UInt8) : List (List UInt8):=if acc≠[]∧isSp x=true then acc.set (acc.length - 1) (acc.getD (acc.length - 1) []++x.drop 1) else acc++[x]
theorem Ot (acc:List (List UInt8)) (x:List UInt8) : (glue acc x).length≤acc.length + 1:=by
 unfold glue; split <;> simp
theorem Ox {t:List UInt8} (hne:t≠[]) : ∃ l9 rest found,DW t=.tup [St l9,St rest,Bo found]∧rest.length<t.length∧l9.length + rest.length≤t.length∧dw [] t=(if found then strip l9 else l9) :: dw [] rest:=by
 have hp:=List.length_pos_iff.2 hne
 rcases GH t with⟨h1,_⟩ | ⟨a,b,h1,_,h3⟩
 ·exact⟨t,[],false,by simp[DW,h1],by simpa using hp,by simp,by rw[Eg,h1]; simp[hne,dw]⟩
 ·have:=congrArg List.length h3
  simp at this
  exact⟨a,b,true,by simp[DW,h1],by omega,by omega,by rw[Eg,h1]; simp⟩
def mY (s:List UInt8) : Prop:=∀ b∈s,b.toNat≠10
theorem mY.take {s:List UInt8} (h:mY s) (n:Nat) : mY (s.take n):=fun b hb=>h b (List.mem_of_mem_take hb)
theorem mY.drop {s:List UInt8} (h:mY s) (n:Nat) : mY (s.drop n):=fun b hb=>h b (List.mem_of_mem_drop hb)
theorem mY.sp {s:List UInt8} (h:mY s) : mY (32 :: s):=fun b hb=>by
 rcases List.mem_cons.1 hb with rfl | hb
 ·decide
 ·exact h b hb
theorem JI (cur:List UInt8) (u:Nat) : dw cur (fo u []++[13,10])=[cur]:=by
 have:=EM (a:=[]) (by simp) cur []
 simpa [uo,dw] using this
theorem EO {u:Nat} {s:List UInt8} (hne:s≠[]) (h:75<u + rs s) (hs:mY s) (cur:List UInt8) :
  dw cur (fo u s++[13,10])=cur :: dw (32 :: s.take (rs s)) (fo (1 + rs s) (s.drop (rs s))++[13,10]):=by
 rw[uU hne h]
 have h1:=EM (a:=[]) (by simp) cur (32 :: s.take (rs s)++(fo (1 + rs s) (s.drop (rs s))++[13,10]))
 have h2:=Ju (hs.take (rs s)).sp [] (fo (1 + rs s) (s.drop (rs s))++[13,10])
 rw[List.nil_append] at h2
 rw[← h2]
 simpa using h1
theorem Ii {u:Nat} {s:List UInt8} (hne:s≠[]) (h:u + rs s≤75) (hs:mY s) (cur:List UInt8) :
  dw cur (fo u s++[13,10])=dw (cur++s.take (rs s)) (fo (u + rs s) (s.drop (rs s))++[13,10]):=by
 rw[uM hne h,List.append_assoc,Ju (hs.take (rs s))]
theorem Gm (p c:List UInt8) : glue [p] (32 :: c)=[p++c]:=by simp[glue,isSp]
theorem zV:∀ (n:Nat) {u:Nat} {s p c:List UInt8},s.length≤n→mY s→(dw (32 :: c) (fo u s++[13,10])).foldl glue [p]=[p++c++s]
 | n,u,s,p,c,hn,hs=>by
   by_cases hne:s=[]
   ·subst hne
    rw[JI]
    simp[Gm]
   have h1:=lT hne
   have h2:=qo hne
   cases n with
   | zero=>exact absurd (List.eq_nil_of_length_eq_zero (by omega)) hne
   | succ n =>
     by_cases h:75<u + rs s
     ·rw[EO hne h hs,List.foldl_cons,Gm,zV n (by simp; omega) (hs.drop _),List.append_assoc,List.take_append_drop]
     ·rw[Ii hne (by omega) hs,List.cons_append,zV n (by simp; omega) (hs.drop _)]
      simp
theorem Hw:∀ (n:Nat) {u:Nat} {s c:List UInt8},s.length≤n→mY s→(dw c (fo u s++[13,10])).foldl glue []=[c++s]
 | n,u,s,c,hn,hs=>by
   by_cases hne:s=[]
   ·subst hne
    rw[JI]
    simp[glue]
   have h1:=lT hne
   have h2:=qo hne
   cases n with
   | zero=>exact absurd (List.eq_nil_of_length_eq_zero (by omega)) hne
   | succ n =>
     by_cases h:75<u + rs s
     ·rw[EO hne h hs,List.foldl_cons,show glue [] c=[c] by simp[glue],zV n (by simp; omega) (hs.drop _),List.append_assoc,List.take_append_drop]
     ·rw[Ii hne (by omega) hs,Hw n (by simp; omega) (hs.drop _)]
      simp
def MS (B:Base) (c:ak) : Prop:=∀ {M:RM} {s:List UInt8} {Q:ai},M.base=B→s.length≤1000000→(∀ M',ah [] M M'→Q (St (fo 0 s)) M')→c [St s] M Q
def jk (acc:List (List UInt8)) (ns:List Int) (k:Int) : List (List UInt8)→List (List UInt8) × List Int
 | []=>(acc,ns)
 | x :: xs=>jk (glue acc x) (if acc≠[]∧isSp x=true then ns else ns++[k]) (IntKind.i64.wrap (k + 1)) xs
theorem Ha:∀ (xs:List (List UInt8)) (acc:List (List UInt8)) (ns:List Int) (k:Int),(jk acc ns k xs).1=xs.foldl glue acc
 | [],_,_,_=>rfl
 | x :: xs,acc,ns,k=>by rw[jk,Ha xs,List.foldl_cons]
def Cj (T TI:Nat) (c:ak) : Prop:=∀ {M:RM} {s:List UInt8} {Q:ai},s.length≤1000000 →
 (∀ v u M',Ow fZ M' M.next T v (jk [] [] 1 (dw [] s)).1→Ow INT M' M.next TI u (jk [] [] 1 (dw [] s)).2→(∀ b∈aI v,b ∉ aI u)→ah [] M M'→Q (.tup [v,u]) M')→c [St s] M Q
theorem Hu {T TI:Nat} {cc ct:ak} (hc:EB cc) (ht:Aw ct) : Cj T TI fun args M Q=>∃ a0,args=[a0]∧nN cc ct T TI a0 M Q:=by
 intro M s Q hl hQ
 refine⟨_,rfl, ?_⟩
 unfold nN
 simp only[eu,dS]
 refine aS (fun m ys M3=>∃ (t:List UInt8) (v u:AV) (acc:List (List UInt8)) (ns:List Int) (k:Int),m=t.length∧ys=[St t,v,u,N .i64 k]∧acc.length + t.length≤s.length∧(∀ x∈acc,x.length + t.length≤s.length)∧ns.length + t.length≤s.length ∧
   Ow fZ M3 M.next T v acc∧Ow INT M3 M.next TI u ns∧(∀ b∈aI v,b ∉ aI u)∧ah [] M M3∧jk acc ns k (dw [] t)=jk [] [] 1 (dw [] s)) _
  ⟨s,aH,aH,[],[],1,rfl,rfl,by simp,by simp,by simp,.nil,.nil,by simp[aI],ah.refl _ _,rfl⟩ ?_
 rintro next m ys M3 hnext ⟨t,v,u,acc,ns,k,rfl,rfl,hal,hxl,hnl,hv,hu,hd,hK,hf⟩
 by_cases hne:t=[]
 ·subst hne
  simp only[go_sem,bne_self_eq_false]
  simp only[dw,if_true,jk] at hf
  exact hQ v u M3 (by rw[← hf]; exact hv) (by rw[← hf]; exact hu) hd hK
 have hne' : (t != [])=true:=by simp[hne]
 have hpos:=List.length_pos_iff.2 hne
 obtain⟨l9,rest,found,hcut,hrl,hll,hraw⟩:=Ox hne
 simp only[go_sem,hne']
 refine vH ?_
 refine hc (by omega) ?_
 rw[hcut]
 simp only[go_sem]
 refine bY (fun xs M'=>M'=M3∧xs=[St (if found then strip l9 else l9)]) ?_ ?_
 ·rintro _ M0 ⟨hM0,rfl⟩
  subst hM0
  have hlen:(if found then strip l9 else l9).length + rest.length≤t.length:=by
   split
   ·have:=Nw l9; omega
   ·exact hll
  generalize (if found then strip l9 else l9)=line at *
  rw[hraw,jk] at hf
  have app:glue acc line=acc++[line]∧¬ (acc≠[]∧isSp line=true)→ic T 1 [St []] [(0,1,St line)] fun r f=>appW T 1 16 [St []] false v (f M0.next) (M0.push r) fun t54 QF =>
    ic TI 1 [N IntKind.i64 0] [(0,1,N IntKind.i64 k)] fun Uf Tu=>appW TI 1 8 [N IntKind.i64 0] false u (Tu QF.next) (QF.push Uf) fun t58 Uw =>
     next [St rest,t54,t58,N IntKind.i64 (IntKind.i64.wrap (k + 1))] Uw:=fun hg=>by
   refine Pt hv hK.next (by omega) fun v' M4 h4 k4 hv'=>?_
   have hu4:Ow INT M4 M.next TI u ns:=Own.keep hu k4 (fun b hb hb'=>hd b hb' hb)
   have hK4:ah [] M M4:=hK.jP k4 fun c hc=>.inl (hv.blk c hc).1
   have hd4:∀ b∈aI v',b ∉ aI u:=fun b hb hb'=>by
    rcases hv' with rfl | hv'
    ·exact hd b hb hb'
    ·have h1:=hv' b hb
     have h2:=(hu.blk b hb').2
     omega
   refine Sk hu4 hK4.next (by omega) fun u' M5 h5 k5 hu'=>?_
   have hv5:Ow fZ M5 M.next T v' (acc++[line]):=Own.keep h4 k5 hd4
   have hd5:∀ b∈aI v',b ∉ aI u':=fun b hb hb'=>by
    rcases hu' with rfl | hu'
    ·exact hd4 b hb hb'
    ·have h1:=hu' b hb'
     have h2:=(h4.blk b hb).2
     omega
   refine hnext _ _ _ hrl ⟨rest,v',u',_,_,_,rfl,rfl,by simp; omega, ?_,by simp; omega,hv5,h5,hd5,hK4.jP k5 fun c hc=>.inl (hu4.blk c hc).1,by rw[hg.1,if_neg hg.2] at hf; exact hf⟩
   intro x hx
   rcases List.mem_append.1 hx with hx | hx
   ·have:=hxl x hx; omega
   ·have:x=line:=by simpa using hx
    subst this; omega
  by_cases ha:acc=[]
  ·rw[fU.len hv.Bp]
   subst ha
   rw[show((([] : List (List UInt8)).length:Nat) : Int)=0 from rfl,mf,show decide ((0:Int) > 0)=false from rfl]
   simp only[go_sem]
   exact app (by simp[glue])
  have hap:=List.length_pos_iff.2 ha
  rw[fU.len hv.Bp]
  have e0:decide (((acc.length:Nat) : Int) > 0)=true:=by simp; omega
  obtain⟨b,rfl,hrw,hb⟩:=Sc hv ha
  cases line with
  | nil =>
    simp only[go_sem,e0,bne_self_eq_false]
    exact app (by simp[glue,isSp])
  | cons c r =>
    have e1:(c :: r != [])=true:=by simp
    have w1:IntKind.wrap .i64 ((acc.length:Int) - 1)=((acc.length - 1:Nat) : Int):=by rw[kI (by omega) (by omega)]; omega
    have hld:=hrw.av (i:=acc.length - 1) (by omega)
    have Rv:acc.getD (acc.length - 1) []=acc[acc.length - 1]'(by omega):=by
     rw[List.getD_eq_getElem?_getD,List.getElem?_eq_getElem (by omega)]; rfl
    have set:isSp (c :: r)=true→(0≤IntKind.i64.wrap (↑acc.length - 1)∧IntKind.i64.wrap (↑acc.length - 1) < ↑acc.length ∧
      ∃ v,M0.cell b (IntKind.i64.wrap (↑acc.length - 1)).toNat=some v∧bJ (aC (St (c :: r)) (some (N IntKind.i64 1)) none) fun t48=>bF BinOp.add v t48 fun t49 =>
        0≤IntKind.i64.wrap (↑acc.length - 1)∧IntKind.i64.wrap (↑acc.length - 1) < ↑acc.length∧t49.cells.length=1∧∃ M',M0.stores b (IntKind.i64.wrap (↑acc.length - 1)).toNat t49.cells=some M' ∧
          next [St rest,AV.slc b 0 acc.length (Cap.op 1),u,N IntKind.i64 (IntKind.i64.wrap (k + 1))] M'):=fun hs=>by
     obtain⟨hst,QW⟩:=hrw.Hd (i:=acc.length - 1) (by omega) (acc.getD (acc.length - 1) []++r)
     rw[w1,Int.toNat_natCast]
     refine⟨by omega,by omega,_,hld, ?_⟩
     rw[show aC (St (c :: r)) (some (N .i64 1)) none=some (St r) from bi (l:=1) (by simp) .i64]
     rw[Rv] at hst QW
     simp only[go_sem]
     have hxa:=hxl _ (List.getElem_mem (l:=acc) (n:=acc.length - 1) (by omega))
     have hlr:r.length + 1 + rest.length≤t.length:=by simpa using hlen
     refine⟨by omega,by omega,_,hst, ?_⟩
     have hv4:=RJ QW hb
     rw[List.length_set] at hv4
     have hkp:ah [b] M0 (M0.put b (.row (fZ.row (acc.set (acc.length - 1) (acc[acc.length - 1]'(by omega)++r))) true T 0)):=(ah.refl _ _).put _ (.inr (by simp))
     refine hnext _ _ _ hrl ⟨rest,_,u,_,ns,_,rfl,rfl,by simp; omega, ?_,by omega,hv4,Own.keep hu hkp ?_,hd,hK.put _ (.inl hb), ?_⟩
     ·intro x hx
      rcases List.mem_or_eq_of_mem_set hx with hx | rfl
      ·have:=hxl x hx; omega
      ·simp; omega
     ·intro b' hb' hm
      have:b'=b:=by simpa using hm
      subst this
      exact hd b' (by simp[aI]) hb'
     ·rw[if_pos ⟨ha,hs⟩,glue,if_pos ⟨ha,hs⟩,Rv] at hf; exact hf
    simp only[go_sem,e0,e1]
    refine⟨by omega,c,rfl, ?_⟩
    by_cases h32:c.toNat=32
    ·have e32:((c.toNat:Int) == 32)=true:=by simp[h32]
     simp only[e32,go_sem]
     exact set (by simp[isSp,h32])
    ·have e32:((c.toNat:Int) == 32)=false:=by simp; omega
     simp only[e32,go_sem]
     refine⟨by omega,c,rfl, ?_⟩
     by_cases h9:c.toNat=9
     ·have e9:((c.toNat:Int) == 9)=true:=by simp[h9]
      simp only[e9,go_sem]
      exact set (by simp[isSp,h9])
     ·have e9:((c.toNat:Int) == 9)=false:=by simp; omega
      simp only[e9,go_sem]
      exact app (by simp[glue,isSp,h32,h9])
 ·intro J hJ
  cases found with
  | true =>
    refine⟨fun _=>ht (by omega) (hJ _ _ ⟨rfl,rfl⟩),fun h=>by cases h⟩
  | false=>exact⟨fun h=>(by cases h),fun _=>hJ _ _ ⟨rfl,rfl⟩⟩
def aK (x:UInt8) : List UInt8→Bool
 | []=>false
 | c :: _=>c == x
def mD (c:ak) : Prop:=∀ {M:RM} {s:List UInt8} {x:UInt8} {Q:ai},s.length≤1000000000→Q (Bo (aK x s)) M→c [St s,St [x]] M Q
theorem Cn:mD fun args M Q=>∃ a0 a1,args=[a0,a1]∧fC a0 a1 M Q:=by
 intro M s x Q hl hQ
 refine⟨_,_,rfl, ?_⟩
 unfold fC
 simp only[eu]
 rw[bB,bB,dE]
 cases s with
 | nil =>
   rw[show decide ((([] : List UInt8).length:Int) ≥ (([x] : List UInt8).length:Int))=false from rfl]
   simp only[go_sem]
   exact hQ
 | cons c r =>
   rw[show decide (((c :: r).length:Int) ≥ (([x] : List UInt8).length:Int))=true by simp; omega]
   simp only[go_sem]
   rw[show aC (St (c :: r)) none (some (N .i64 ((1:Nat) : Int)))=some (St [c]) from gm (h:=1) (by simp) .i64]
   simp only[go_sem]
   rw[show(([c] : List UInt8) == [x])=(c == x) by simp]
   exact hQ
theorem I1 {ch:ak} (hh:mD ch) : mD fun args M Q=>∃ a0 a1,args=[a0,a1]∧kD ch a0 a1 M Q:=by
 intro M s x Q hl hQ
 refine⟨_,_,rfl, ?_⟩
 unfold kD
 exact hh hl hQ
def bO (c:UInt8) : Bool:=(decide (32≤c.toNat) && decide (c.toNat≠127)) || decide (c.toNat=9)
def qU (c:ak) : Prop:=∀ {M:RM} {x:UInt8} {Q:ai},Q (Bo (bO x)) M→c [By x] M Q
theorem Ka:qU fun args M Q=>∃ a0,args=[a0]∧pF a0 M Q:=by
 intro M x Q hQ
 refine⟨_,rfl, ?_⟩
 unfold pF
 simp only[eu]
 unfold bO at hQ
 by_cases h1:32≤x.toNat
 ·have e1:decide ((x.toNat:Int) ≥ 32)=true:=by simp; omega
  rw[dE,e1]
  by_cases h2:x.toNat=127
  ·have e2:((x.toNat:Int) != 127)=false:=by simp[h2]
   have e9:((x.toNat:Int) == 9)=false:=by simp; omega
   simp only[go_sem,e2,e9]
   simpa [h2] using hQ
  ·have e2:((x.toNat:Int) != 127)=true:=by simp; omega
   simp only[go_sem,e2]
   simpa [h1,h2] using hQ
 ·have e1:decide ((x.toNat:Int) ≥ 32)=false:=by simp; omega
  rw[dE,e1]
  by_cases h9:x.toNat=9
  ·have e9:((x.toNat:Int) == 9)=true:=by simp[h9]
   simp only[go_sem,e9]
   simpa [h1,h9] using hQ
  ·have e9:((x.toNat:Int) == 9)=false:=by simp; omega
   simp only[go_sem,e9]
   simpa [h1,h9] using hQ
def bW (c:UInt8) : UInt8:=if 65≤c.toNat∧c.toNat≤90 then UInt8.ofNat (c.toNat + 32) else c
def uu (c:ak) : Prop:=∀ {M:RM} {s:List UInt8} {Q:ai},s.length≤1000000000→(∀ M',ah [] M M'→Q (St (s.map bW)) M')→c [St s] M Q
theorem Jk {s:List UInt8} {i:Nat} (hi:i<s.length) : ((s.take i).map bW).length=i:=by simp; omega
theorem Hz {s:List UInt8} {i:Nat} (hi:i<s.length) (x:UInt8) : ((s.take i).map bW++s.drop i).set i x=(s.take i).map bW++x :: s.drop (i + 1):=by
 have hl:=Jk hi
 rw[List.drop_eq_getElem_cons hi,List.set_append_right _ _ (by omega),hl,Nat.sub_self,List.set_cons_zero]
theorem wU {s:List UInt8} {i:Nat} (hi:i<s.length) : (s.take (i + 1)).map bW++s.drop (i + 1)=(s.take i).map bW++bW s[i] :: s.drop (i + 1):=by
 rw[List.take_succ_eq_append_getElem hi,List.map_append,List.append_assoc]
 rfl
theorem JR {s:List UInt8} {i:Nat} (hi:i<s.length) (h:i<((s.take i).map bW++s.drop i).length) : ((s.take i).map bW++s.drop i)[i]=s[i]:=by
 have hl:=Jk hi
 rw[List.getElem_append_right (by omega)]
 simp only[hl,Nat.sub_self,List.getElem_drop,Nat.add_zero]
theorem Lh {T8:Nat} : uu fun args M Q=>∃ a0,args=[a0]∧pQ T8 a0 M Q:=by
 intro M s Q hl hQ
 refine⟨_,rfl, ?_⟩
 unfold pQ
 simp only[eu,bn,pg,nI]
 have hk1:ah [] M (M.push (.row (BY.row s) true T8 0)):=(ah.refl _ _).push _
 have hr1:Rw BY (M.push (.row (BY.row s) true T8 0)) M.next true T8 s:=Rw.new M s
 generalize M.push (.row (BY.row s) true T8 0)=M1 at *
 refine aS (fun m ys M3=>∃ i:Nat,m=s.length - i∧ys=[N .i64 i]∧i≤s.length∧Rw BY M3 M.next true T8 ((s.take i).map bW++s.drop i)∧ah [] M M3) _
  ⟨0,rfl,rfl,Nat.zero_le _,by simpa using hr1,hk1⟩ ?_
 rintro next m ys M3 hnext ⟨i,rfl,rfl,hi,hR,hK⟩
 simp only[go_sem]
 refine⟨fun hlt=>?_,fun hge=>?_⟩
 ·have hlt:i<s.length:=by simpa using hlt
  have hlen:i<((s.take i).map bW++s.drop i).length:=by simp; omega
  have hc:=hR.av hlen
  have w1:=fB (show i<9223372036854775807 by omega)
  rw[JR hlt hlen] at hc
  refine⟨by omega,_,hc, ?_⟩
  have same:bW s[i]=s[i]→next [N .i64 ((i + 1:Nat) : Int)] M3:=fun h=>by
   refine hnext _ _ _ (by omega) ⟨i + 1,rfl,rfl,by omega, ?_,hK⟩
   rw[wU hlt,h,← List.drop_eq_getElem_cons hlt]
   exact hR
  have cb:=qx s[i]
  simp only[w1]
  by_cases h1:65≤s[i].toNat
  ·have e1:((s[i].toNat:Int) ≥ 65):=by omega
   by_cases h2:s[i].toNat≤90
   ·have e2:((s[i].toNat:Int)≤90):=by omega
    have hlow:bW s[i]=UInt8.ofNat (s[i].toNat + 32):=by rw[bW,if_pos ⟨h1,h2⟩]
    have wv:N IntKind.u8 (IntKind.u8.wrap (IntKind.u8.wrap ((s[i].toNat:Int) + 97) - 65))=By (bW s[i]):=by
     rw[hlow,By,GL,Nat.mod_eq_of_lt (by omega)]
     congr 1
     rw[show IntKind.u8.wrap ((s[i].toNat:Int) + 97)=(s[i].toNat:Int) + 97 from lI (by omega) (by omega)]
     rw[lI (by omega) (by omega)]; omega
    obtain⟨hs,hR'⟩:=hR.Hd hlen (bW s[i])
    simp only[e1,e2,decide_true,go_sem]
    rw[Hz hlt] at hs hR'
    refine⟨by omega,_,(congrArg (fun x=>M3.stores M.next i [x]) wv).trans hs, ?_⟩
    refine hnext _ _ _ (by omega) ⟨i + 1,rfl,rfl,by omega, ?_,hK.put _ (.inl (Nat.le_refl _))⟩
    rw[wU hlt]
    exact hR'
   ·have e2:¬ ((s[i].toNat:Int)≤90):=by omega
    simp only[e1,e2,decide_true,decide_false,go_sem]
    exact same (by rw[bW,if_neg (by omega)])
  ·have e1:¬ ((s[i].toNat:Int) ≥ 65):=by omega
   simp only[e1,decide_false,go_sem]
   exact same (by rw[bW,if_neg (by omega)])
 ·have:i=s.length:=by simp at hge; omega
  subst this
  rw[List.take_length,List.drop_length,List.append_nil] at hR
  have:=hR.sl (cap:=.op 1)
  rw[List.length_map] at this
  rw[Sl.str this]
  exact hQ M3 hK
theorem Ir (s:List UInt8) (h:s≠[]) : Lib.decodeL s=dec s:=by
 have hp:=List.length_pos_iff.2 h
 have g:∀ i,((⟨⟨s⟩⟩ : ByteArray).get! i).toNat=bt s i:=fun i=>by
  simp only[ByteArray.get!,bt,List.getD_eq_getElem?_getD]
  simp[getElem!_def]
  cases s[i]? <;> rfl
 first
  | (rw[Lib.decodeL]; rw[Lib.decode_at,g,g,g,g]; rfl)
  | (simp only[Lib.decodeL,dec,bt])
theorem Cx:∀ (n:Nat) (s:List UInt8),s.length≤n→Lib.validD s=dJ s
 | n,s,hn=>by
   by_cases hne:s=[]
   ·subst hne; rw[Lib.validD_nil,mG]
   have hrk:rk s=if dec s=(65533,1) then 0 else(dec s).2:=by rw[rk,if_neg hne]; rfl
   rw[Lib.validD_step s hne,Ir s hne]
   have h1:=rf s
   by_cases hb:(dec s).1=65533∧(dec s).2=1
   ·rw[if_pos hb,D8 hne (by rw[hrk,if_pos (Prod.ext hb.1 hb.2)])]
   ·rw[if_neg hb]
    have h0:rk s=(dec s).2:=by
     rw[hrk,if_neg]
     intro e; rw[e] at hb; exact hb ⟨rfl,rfl⟩
    rw[mi (by omega),h0]
    cases n with
    | zero=>exact absurd (List.eq_nil_of_length_eq_zero (by omega)) hne
    | succ n =>
      refine Cx n _ ?_
      have:=nL hne h1
      omega
def DC (B:Base) (c:ak) : Prop:=∀ {M:RM} {s:List UInt8} {Q:ai},M.base=B→s.length≤1000000000→Q (Bo (dJ s)) M→c [St s] M Q
def okB (x:List UInt8) (c:UInt8) : Bool:=bO c && !(decide (c∈x))
def fu (x s:List UInt8) : Bool:=s.all (okB x) && dJ s
def lm (B:Base) (c:ak) : Prop:=∀ {M:RM} {s x:List UInt8} {Q:ai},M.base=B→s.length≤1000000000→(∀ M',ah [] M M'→Q (Bo (fu x s)) M')→c [St s,St x] M Q
theorem Ej {B:Base} {T8:Nat} {cp ci cv:ak} (hp:qU cp) (hi:lg ci) (hv:DC B cv) : lm B fun args M Q=>∃ a0 a1,args=[a0,a1]∧lK T8 cp ci cv a0 a1 M Q:=by
 intro M s x Q hM hl hQ
 refine⟨_,_,rfl, ?_⟩
 unfold lK
 simp only[eu,bn,pg,nI]
 have hk1:ah [] M (M.push (.row (BY.row s) true T8 0)):=(ah.refl _ _).push _
 have hr1:Rw BY (M.push (.row (BY.row s) true T8 0)) M.next true T8 s:=Rw.new M s
 generalize M.push (.row (BY.row s) true T8 0)=M1 at *
 refine aS (fun m ys M3=>M3=M1∧∃ i:Nat,m=s.length - i∧ys=[N .i64 i]∧i≤s.length∧(s.take i).all (okB x)=true) _
  ⟨rfl,0,rfl,rfl,Nat.zero_le _,by simp⟩ ?_
 rintro next m ys M3 hnext ⟨hM3,i,rfl,rfl,hile,hall⟩
 subst hM3
 simp only[go_sem]
 refine⟨fun hlt=>?_,fun hge=>?_⟩
 ·have hlt:i<s.length:=by simpa using hlt
  have hc:=hr1.av hlt
  have htk:=List.take_succ_eq_append_getElem hlt
  have hmem:=List.getElem_mem hlt
  generalize s[i]=c at *
  have w1:=fB (show i<9223372036854775807 by omega)
  have bad:okB x c=false→Q (Bo false) M3:=fun h=>by
   have:fu x s=false:=by
    have h2:s.all (okB x)=false:=by
     rw[List.all_eq_false]
     exact⟨c,hmem,by rw[h]; simp⟩
    rw[fu,h2]; rfl
   rw[← this]; exact hQ M3 hk1
  have good:okB x c=true→next [N .i64 ((i + 1:Nat) : Int)] M3:=fun h=>by
   refine hnext _ _ _ (by omega) ⟨rfl,i + 1,rfl,rfl,by omega, ?_⟩
   rw[htk,List.all_append,hall]
   simp[h]
  refine⟨by omega,By c,hc,hp ?_⟩
  cases hpl:bO c with
  | false =>
    simp only[go_sem]
    exact bad (by simp[okB,hpl])
  | true =>
    simp only[go_sem]
    refine hi ?_
    have hge:=D6 x c
    by_cases hcx:c∈x
    ·have e1:decide (Lib.indexByte x c ≥ 0)=true:=decide_eq_true (hge.2 hcx)
     simp only[go_sem,e1]
     exact bad (by simp[okB,hcx])
    ·have e1:decide (Lib.indexByte x c ≥ 0)=false:=decide_eq_false fun h=>hcx (hge.1 h)
     simp only[go_sem,e1,w1]
     exact good (by simp[okB,hcx,hpl])
 ·have:i=s.length:=by simp at hge; omega
  subst this
  rw[List.take_length] at hall
  refine hv (by rw[hk1.base,hM]) hl ?_
  have:=hQ M3 hk1
  rw[fu,hall,Bool.true_and] at this
  exact this
def KJ (x:UInt8) (s:List UInt8) : AV:=if aK x s then .tup [St (s.drop 1),Bo true] else .tup [St s,Bo false]
def lH (c:ak) : Prop:=∀ {M:RM} {s:List UInt8} {x:UInt8} {Q:ai},s.length≤1000000000→Q (KJ x s) M→c [St s,St [x]] M Q
theorem xQ {ch:ak} (hh:mD ch) : lH fun args M Q=>∃ a0 a1,args=[a0,a1]∧fF ch a0 a1 M Q:=by
 intro M s x Q hl hQ
 refine⟨_,_,rfl, ?_⟩
 unfold fF
 refine hh hl ?_
 unfold KJ at hQ
 cases h:aK x s with
 | false =>
   simp only[h,Bool.false_eq_true,if_false] at hQ
   simp only[go_sem]
   exact hQ
 | true =>
   simp only[h,if_true] at hQ
   have hne:s≠[]:=by intro e; subst e; cases h
   have hp:=List.length_pos_iff.2 hne
   simp only[go_sem]
   rw[show aC (St s) (some (N .i64 ((1:Nat) : Int))) none=some (St (s.drop 1)) from bi (by omega) .i64]
   simp only[go_sem]
   exact hQ
theorem Ed {ch:ak} (hh:lH ch) : lH fun args M Q=>∃ a0 a1,args=[a0,a1]∧kK ch a0 a1 M Q:=by
 intro M s x Q hl hQ
 refine⟨_,_,rfl, ?_⟩
 unfold kK
 refine hh hl ?_
 unfold KJ at hQ ⊢
 cases h:aK x s with
 | false=>rw[h] at hQ; simpa only[go_sem,Bool.false_eq_true,if_false] using hQ
 | true=>rw[h] at hQ; simpa only[go_sem,if_true] using hQ
def dF:List UInt8:=[97,98,99,100,101,102,103,104,105,106,107,108,109,110,111,112,113,114,115,116,117,118,119,120,121,122,48,49,50,51,52,53,54,55,56,57,45]
def Nk (B:Base) (c:ak) : Prop:=∀ {M:RM} {s:List UInt8} {Q:ai},M.base=B→s.length≤1000000000→(∀ M',ah [] M M'→Q (St (s.dropWhile (dF.contains ·))) M')→c [St s,St dF] M Q
theorem l7 {α:Type} (p:α→Bool) : ∀ l:List α,(l.dropWhile p).length≤l.length
 | []=>by simp
 | x :: l=>by
   rw[List.dropWhile_cons]
   have:=l7 p l
   split
   ·simp; omega
   ·exact Nat.le_refl _
def wk (s:List UInt8) : Nat:=s.length - ((s.map bW).dropWhile (dF.contains ·)).length
theorem Ai (s:List UInt8) : wk s≤s.length:=Nat.sub_le _ _
def Km (s:List UInt8) : AV:=.tup [St ((s.take (wk s)).map bW),St (s.drop (wk s))]
def FX (B:Base) (c:ak) : Prop:=∀ {M:RM} {s:List UInt8} {Q:ai},M.base=B→s.length≤1000000000→(∀ M',ah [] M M'→Q (Km s) M')→c [St s] M Q
theorem Nt {B:Base} {cs ct:ak} (hs:uu cs) (ht:Nk B ct) : FX B fun args M Q=>∃ a0,args=[a0]∧rQ cs ct a0 M Q:=by
 intro M s Q hM hl hQ
 refine⟨_,rfl, ?_⟩
 unfold rQ
 rw[bB]
 refine hs hl fun M1 k1=>?_
 refine ht (by rw[k1.base,hM]) (by simpa using hl) fun M2 k2=>?_
 have hd:=l7 (dF.contains ·) (s.map bW)
 rw[List.length_map] at hd
 rw[bB,Ct]
 rw[show IntKind.wrap .i64 ((s.length:Int) - (((s.map bW).dropWhile (dF.contains ·)).length:Int))=((wk s:Nat) : Int) by rw[kI (by omega) (by omega)]; unfold wk; omega]
 rw[gm (Ai s),bi (Ai s)]
 simp only[go_sem]
 have:=Ai s
 refine hs (by simp; omega) fun M3 k3=>?_
 exact hQ M3 ((k1.trans k2).trans k3)
def Gx (B:Base) (f:List UInt8→List UInt8) (c:ak) : Prop:=∀ {M:RM} {s:List UInt8} {Q:ai},M.base=B→s.length≤1000000000→(∀ M',ah [] M M'→Q (St (f s)) M')→c [St s,St dF] M Q
def gq (f:List UInt8→List UInt8) (s:List UInt8) : Bool:=decide (1≤s.length) && decide (s.length≤20) && (f s == [])
def oU (B:Base) (f:List UInt8→List UInt8) (c:ak) : Prop:=∀ {M:RM} {s:List UInt8} {Q:ai},M.base=B→s.length≤1000000000→(∀ M',ah [] M M'→Q (Bo (gq f s)) M')→c [St s] M Q
theorem FE {B:Base} {f:List UInt8→List UInt8} {ct:ak} (ht:Gx B f ct) : oU B f fun args M Q=>∃ a0,args=[a0]∧mh ct a0 M Q:=by
 intro M s Q hM hl hQ
 refine⟨_,rfl, ?_⟩
 unfold mh
 simp only[eu]
 rw[bB,dE]
 unfold gq at hQ
 by_cases h1:1≤s.length
 ·have e1:decide ((s.length:Int) ≥ 1)=true:=by simp; omega
  rw[e1]
  by_cases h2:s.length≤20
  ·have e2:decide ((s.length:Int)≤20)=true:=by simp; omega
   simp only[go_sem,e2]
   refine ht hM hl fun M1 k1=>?_
   simp only[go_sem]
   have:=hQ M1 k1
   simpa [h1,h2] using this
  ·have e2:decide ((s.length:Int)≤20)=false:=by simp; omega
   simp only[go_sem,e2]
   simpa [h1,h2] using hQ M (ah.refl _ _)
 ·have e1:decide ((s.length:Int) ≥ 1)=false:=by simp; omega
  rw[e1]
  simp only[go_sem]
  simpa [h1] using hQ M (ah.refl _ _)
end Go.Ab.Vl
namespace Go.Ab
open Go Go.RowKit
section
variable {P:Program} {ρ:Ren} {M:RM} {w w' : World}
theorem aQ.below {base:Base} {A:AW} (h:aQ P base ρ A w) (hb:Below w.heap.size w w') (hn:base.n≤w.heap.size) : aQ P base ρ A w' where
 dom b i hbi:=⟨(h.dom b i hbi).1,Nat.lt_of_lt_of_le (h.dom b i hbi).2 hb.size⟩
 blk b i x hbi hx:=let ⟨o,ho,hr⟩:=h.blk b i x hbi hx; ⟨o,by rw[hb.block _ (h.dom b i hbi).2]; exact ho,hr⟩
 sep:=h.sep
 top:=h.top
 lo:=h.lo
 inv:=base.low w w' (fun c hc=>hb.block c (Nat.lt_of_lt_of_le hc hn)) h.inv
theorem Step.of_below {base n:Nat} (hb:Below w.heap.size w w') (hn:base≤w.heap.size) : Step base n ρ w ρ w' where
 os:=hb.os
 tape:=hb.tape
 output:=hb.output
 size:=hb.size
 frame c hc _:=hb.block c hc
 ext _ _:=rfl
 fresh b i h:=.inl ⟨b,i,h,rfl⟩
 low c hc:=hb.block c (Nat.lt_of_lt_of_le hc hn)
theorem After.below (h:bP P ρ M w) (hb:Below w.heap.size w w') : After P M ρ w M ρ w':=by
 obtain⟨A,hA⟩:=h
 refine iq hA (Step.of_below hb hA.size) (hA.rel.below hb hA.size) rfl hA.next (Nat.le_refl _) fun b x hx=>?_
 rcases hA.blk b x hx with h | ⟨c,rfl,_⟩
 ·exact .inl h
 ·exact .inr ⟨c,rfl,hx⟩
theorem bP.inv (h:bP P ρ M w) : M.base.inv w:=by
 obtain⟨A,hA⟩:=h
 exact hA.rel.inv
theorem eP.rP {f:FuncId} {args:List AV} {v:AV} {Q:ai} (hP:DV P f)
  (h:∀ (ρ:Ren) (w:World) (us:List Value),aD ρ args us→bP P ρ M w→Calls P f ⟨us⟩ w fun e w'=>∃ v',e=.returned v'∧Below w.heap.size w w'∧af ρ v v') (hQ:Q v M) : eP P f args M Q:=by
 refine⟨hP,fun ρ w us hargs hw=>(h ρ w us hargs hw).mono fun e w' hR=>?_⟩
 obtain⟨v',rfl,hb,hv⟩:=hR
 exact⟨v',v,M,ρ,rfl,After.below hw hb,hv,hQ⟩
end
end Go.Ab
namespace Go.Ab.Vl
open Go Go.Ab
def brk (x:UInt8) : List UInt8→Option (List UInt8 × List UInt8)
 | []=>none
 | c :: t=>if c=x then some ([],t) else(brk x t).map fun p=>(c :: p.1,p.2)
theorem qy (x:UInt8) : ∀ s:List UInt8,(brk x s=none∧Lib.indexByte s x=-1∧x ∉ s)∨∃ a b,brk x s=some (a,b)∧Lib.indexByte s x=(a.length:Int)∧s=a++x :: b∧x ∉ a
 | []=>.inl ⟨rfl,rfl,by simp⟩
 | c :: t=>by
   by_cases h:c=x
   ·subst h
    exact .inr ⟨[],t,by simp[brk],by simp[Lib.indexByte],rfl,by simp⟩
   ·have hc:(c == x)=false:=by simpa using h
    rcases qy x t with⟨h1,h2,h4⟩ | ⟨a,b,h1,h2,h3,h4⟩
    ·exact .inl ⟨by simp[brk,h,h1],by simp[Lib.indexByte,hc,h2],by simp[h4,Ne.symm h]⟩
    ·refine .inr ⟨c :: a,b,by simp[brk,h,h1], ?_,by rw[h3]; rfl,by simp[h4,Ne.symm h]⟩
     have:((a.length:Int) == -1)=false:=by simp
     simp[Lib.indexByte,hc,h2,this]
def EK (x:UInt8) (c:ak) : Prop:=∀ {M:RM} {s:List UInt8} {Q:ai},Q (N .i64 (Lib.indexByte s x)) M→c [St s,St [x]] M Q
theorem IJ {x:UInt8} {ci xx c1 c2:ak} (hi:lg ci) : EK x fun args M Q=>∃ a0 a1,args=[a0,a1]∧dO ci xx c1 c2 a0 a1 M Q:=by
 intro M s Q hQ
 refine⟨_,_,rfl, ?_⟩
 unfold dO
 rw[bB,cz,show((([x] : List UInt8).length:Int) == 0)=false from rfl]
 simp only[eu]
 by_cases h:[x]=s
 ·subst h
  have:Lib.indexByte [x] x=0:=by simp[Lib.indexByte]
  rw[this] at hQ
  simp only[go_sem,beq_self_eq_true]
  exact hQ
 ·have h' : (([x] : List UInt8) == s)=false:=by simp[h]
  simp only[go_sem,h']
  exact⟨fun _=>⟨by omega,x,rfl,hi hQ⟩,fun h=>absurd h (by decide)⟩
def FV (x:UInt8) (s:List UInt8) : AV:=match brk x s with
 | some (a,b)=>.tup [St a,St b,Bo true]
 | none=>.tup [St s,St [],Bo false]
def Ae (x:UInt8) (c:ak) : Prop:=∀ {M:RM} {s:List UInt8} {Q:ai},s.length≤1000000000→Q (FV x s) M→c [St s,St [x]] M Q
theorem Et {x:UInt8} {ci:ak} (hi:EK x ci) : Ae x fun args M Q=>∃ a0 a1,args=[a0,a1]∧dW ci a0 a1 M Q:=by
 intro M s Q hl hQ
 refine⟨_,_,rfl, ?_⟩
 unfold dW
 refine hi ?_
 unfold FV at hQ
 rcases qy x s with⟨h1,h2,_⟩ | ⟨a,b,h1,h2,h3,_⟩
 ·rw[h1] at hQ
  simp only[go_sem,h2]
  exact⟨fun h=>absurd h (by decide),fun _=>hQ⟩
 ·rw[h1] at hQ
  have hsl:=congrArg List.length h3
  simp at hsl
  rw[h2,dE,show decide ((a.length:Int) ≥ 0)=true by simp]
  refine⟨fun _=>?_,fun h=>by cases h⟩
  rw[gm (by omega)]
  simp only[go_sem]
  rw[show IntKind.wrap .i64 ((a.length:Int) + ((1:Nat) : Int))=((a.length + 1:Nat) : Int) by rw[kI (by omega) (by omega)]; omega]
  rw[bi (by omega)]
  simp only[go_sem]
  rw[h3]
  rw[show(a++x :: b).take a.length=a by simp,show(a++x :: b).drop (a.length + 1)=b by rw[← List.drop_drop]; simp]
  exact hQ
theorem Ms {x:UInt8} {ci:ak} (hi:Ae x ci) : Ae x fun args M Q=>∃ a0 a1,args=[a0,a1]∧j5 ci a0 a1 M Q:=by
 intro M s Q hl hQ
 refine⟨_,_,rfl, ?_⟩
 unfold j5
 refine hi hl ?_
 unfold FV at hQ ⊢
 cases h:brk x s with
 | none=>rw[h] at hQ; simpa only[go_sem] using hQ
 | some p=>rw[h] at hQ; simpa only[go_sem] using hQ
theorem get_bt (s:List UInt8) (i:Nat) : ((⟨⟨s⟩⟩ : ByteArray).get! i).toNat=bt s i:=by
 unfold bt
 show((⟨s⟩ : Array UInt8)[i]!).toNat=_
 simp only[getElem!_def]
 rw[List.getElem?_toArray]
 cases h:s[i]? with
 | none=>simp only[List.getD_eq_getElem?_getD,h]; rfl
 | some x=>simp[List.getD_eq_getElem?_getD,h]
theorem zL {s:List UInt8} {i:Nat} (hi:i<s.length) :
  (bt s i<128∧Utf8.decode ⟨⟨s⟩⟩ i=(bt s i,1))∨(128≤bt s i∧128≤(Utf8.decode ⟨⟨s⟩⟩ i).1∧(Utf8.decode ⟨⟨s⟩⟩ i).1<2147483648∧1≤(Utf8.decode ⟨⟨s⟩⟩ i).2∧i + (Utf8.decode ⟨⟨s⟩⟩ i).2≤s.length∧∀ k,i≤k→k<i + (Utf8.decode ⟨⟨s⟩⟩ i).2→128≤bt s k):=by
 have hs:(⟨⟨s⟩⟩ : ByteArray).size=s.length:=rfl
 unfold Utf8.decode
 simp only[get_bt,hs,Nat.add_zero,Utf8.runeError]
 by_cases h0:bt s i<128
 ·exact .inl ⟨h0,by rw[if_pos h0]⟩
 right
 have h8:bt s i<256:=by unfold bt; exact(s.getD i 0).toNat_lt
 refine⟨by omega, ?_⟩
 rw[if_neg h0]
 have one:∀ k,i≤k→k<i + 1→128≤bt s k:=fun k h1 h2=>by
  have:k=i:=by omega
  subst this; omega
 split
 ·rename_i h2
  simp only[Bool.and_eq_true,beq_iff_eq,decide_eq_true_eq] at h2
  split
  ·refine⟨by simpa using ‹_›,by simp; omega,by simp,by simp; omega,fun k h3 h4=>?_⟩
   simp at h4
   rcases Nat.lt_or_ge k (i + 1) with h5 | h5
   ·exact one k h3 h5
   ·have:k=i + 1:=by omega
    subst this; omega
  ·exact⟨by simp,by simp,by simp,by simp; omega,fun k h3 h4=>one k h3 (by simpa using h4)⟩
 ·split
  ·rename_i h3
   simp only[Bool.and_eq_true,beq_iff_eq,decide_eq_true_eq] at h3
   split
   ·rename_i h4
    simp only[Bool.and_eq_true,decide_eq_true_eq,ge_iff_le] at h4
    refine⟨by simp; omega,by simp; omega,by simp,by simp; omega,fun k h5 h6=>?_⟩
    simp at h6
    rcases Nat.lt_or_ge k (i + 1) with h7 | h7
    ·exact one k h5 h7
    ·rcases Nat.lt_or_ge k (i + 2) with h7 | h7
     ·have:k=i + 1:=by omega
      subst this; omega
     ·have:k=i + 2:=by omega
      subst this; omega
   ·exact⟨by simp,by simp,by simp,by simp; omega,fun k h3 h4=>one k h3 (by simpa using h4)⟩
  ·split
   ·rename_i h3
    simp only[Bool.and_eq_true,beq_iff_eq,decide_eq_true_eq] at h3
    split
    ·rename_i h4
     simp only[Bool.and_eq_true,decide_eq_true_eq,ge_iff_le] at h4
     refine⟨by simp; omega,by simp; omega,by simp,by simp; omega,fun k h5 h6=>?_⟩
     simp at h6
     rcases Nat.lt_or_ge k (i + 1) with h7 | h7
     ·exact one k h5 h7
     ·rcases Nat.lt_or_ge k (i + 2) with h7 | h7
      ·have:k=i + 1:=by omega
       subst this; omega
      ·rcases Nat.lt_or_ge k (i + 3) with h7 | h7
       ·have:k=i + 2:=by omega
        subst this; omega
       ·have:k=i + 3:=by omega
        subst this; omega
    ·exact⟨by simp,by simp,by simp,by simp; omega,fun k h3 h4=>one k h3 (by simpa using h4)⟩
   ·exact⟨by simp,by simp,by simp,by simp; omega,fun k h3 h4=>one k h3 (by simpa using h4)⟩
theorem IR {r:Nat} (h:128≤r) : ∃ a x,(Utf8.encode (r:Int)).data.toList=a++[x]∧128≤x.toNat∧1≤a.length∧a.length≤3:=by
 have key:∀ c:Nat,128≤c→∃ a x,(if c<0x80 then(⟨#[UInt8.ofNat c]⟩ : ByteArray) else if c<0x800 then⟨#[UInt8.ofNat (0xC0 + c / 64),UInt8.ofNat (0x80 + c % 64)]⟩
   else if c<0x10000 then⟨#[UInt8.ofNat (0xE0 + c / 4096),UInt8.ofNat (0x80 + c / 64 % 64),UInt8.ofNat (0x80 + c % 64)]⟩
   else⟨#[UInt8.ofNat (0xF0 + c / 262144),UInt8.ofNat (0x80 + c / 4096 % 64),UInt8.ofNat (0x80 + c / 64 % 64),UInt8.ofNat (0x80 + c % 64)]⟩).data.toList=a++[x]∧128≤x.toNat∧1≤a.length∧a.length≤3:=by
  intro c hc
  rw[if_neg (by omega)]
  have hx:128≤(UInt8.ofNat (0x80 + c % 64)).toNat:=by simp; omega
  split
  ·exact⟨[_],_,rfl,hx,by simp,by simp⟩
  ·split
   ·exact⟨[_,_],_,rfl,hx,by simp,by simp⟩
   ·exact⟨[_,_,_],_,rfl,hx,by simp,by simp⟩
 have h2:128≤(if Utf8.valid (r:Int)=true then(r:Int).toNat else Utf8.runeError):=by
  split
  ·simpa using h
  ·decide
 simp only[Utf8.encode]
 generalize (if Utf8.valid (r:Int)=true then(r:Int).toNat else Utf8.runeError)=c at h2 ⊢
 exact key c h2
theorem Fz {s:List UInt8} {x:UInt8} (h:x ∉ s) : Lib.indexByte s x=-1:=by
 rcases qy x s with⟨_,h2,_⟩ | ⟨a,b,_,_,h3,_⟩
 ·exact h2
 ·exact absurd (by rw[h3]; simp) h
def Asc (cs:List UInt8) : Prop:=∀ x∈cs,x.toNat<128
theorem Asc.bt {cs:List UInt8} (h:Asc cs) {i:Nat} (hi:i<cs.length) : bt cs i<128:=by
 rw[← AQ hi]; exact h _ (List.getElem_mem hi)
def wY (c:ak) : Prop:=∀ {M:RM} {r:Nat} {Q:ai},(∀ b,Q (Bo b) M)→c [N .i32 (r:Int)] M Q
theorem Eb:wY fun args M Q=>∃ a0,args=[a0]∧iM a0 M Q:=by
 intro M r Q hQ
 refine⟨_,rfl, ?_⟩
 unfold iM
 simp only[eu,gJ]
 simp only[go_sem,decide_true]
 refine⟨fun _=>hQ _,fun _=>?_⟩
 cases decide ((57343:Int)<(r:Int)) with
 | true=>simp only[go_sem]; exact⟨fun _=>hQ _,fun _=>hQ _⟩
 | false=>simp only[go_sem]; exact hQ _
def AR (cs:List UInt8) (r:Nat) : Int:=if r<128 then Lib.indexByte cs (UInt8.ofNat r) else -1
def wE (cs:List UInt8) (c:ak) : Prop:=∀ {M:RM} {r:Nat} {Q:ai},r<2147483648→(∀ M',ah [] M M'→Q (N .i64 (AR cs r)) M')→c [St cs,N .i32 (r:Int)] M Q
theorem EJ {cs:List UInt8} {ci cv:ak} (hcs:Asc cs) (hl:cs.length≤1000) (hi:lg ci) (hv:wY cv) : wE cs fun args M Q=>∃ a0 a1,args=[a0,a1]∧kM ci cv a0 a1 M Q:=by
 intro M r Q hr hQ
 refine⟨_,_,rfl, ?_⟩
 unfold kM
 simp only[eu,dS,gJ]
 by_cases h1:r<128
 ·have e1:decide ((r:Int)<128)=true:=by simp; omega
  simp only[go_sem,decide_true,e1]
  have:N .u8 (IntKind.wrap .u8 (r:Int))=By (UInt8.ofNat r):=by
   have h2:IntKind.wrap .u8 (r:Int)=(r:Int):=by unfold IntKind.wrap; simp[IntKind.bits,IntKind.signed]; omega
   rw[h2]; simp[By]; omega
  rw[this]
  refine hi ?_
  have:=hQ M (ah.refl _ _)
  rw[AR,if_pos h1] at this
  exact this
 have hm:AR cs r=-1:=by rw[AR,if_neg h1]
 rw[hm] at hQ
 have e1:decide ((r:Int)<128)=false:=by simp; omega
 simp only[go_sem,decide_true,e1]
 refine⟨fun h2=>?_,fun h2=>?_⟩
 ·refine⟨cs,rfl, ?_⟩
  simp only[go_sem]
  refine aS (fun m ys M3=>∃ pos:Nat,m=cs.length - pos∧ys=[]∧M3.heap M.next=some (.gX cs pos)∧ah [] M M3∧M.next<M3.next) _
   ⟨0,rfl,rfl,RM.aY _,(ah.refl _ _).push _,by simp[RM.push]⟩ ?_
  rintro next m ys M3 hnext ⟨pos,rfl,rfl,hh,hk,hlt⟩
  refine⟨_,_,_,rfl,hh, ?_⟩
  split
  ·rename_i hp
   rcases zL hp with⟨d1,d2⟩ | ⟨d1,_⟩
   ·rw[d2]
    simp only[go_sem]
    have e3:((bt cs pos:Int) == 65533)=false:=by simp; omega
    simp only[e3]
    refine⟨fun h=>by simp at h,fun _=>hnext _ _ _ (by omega) ⟨pos + 1,rfl,rfl,RM.jN _ _,hk.put _ (.inl (Nat.le_refl _)),by simpa [RM.lW] using hlt⟩⟩
   ·have:=hcs.bt hp; omega
  ·simp only[go_sem]
   exact hQ M3 hk
 ·refine hv fun b=>?_
  cases b with
  | false=>simp only[go_sem]; exact hQ M (ah.refl _ _)
  | true =>
    simp only[go_sem]
    obtain⟨a,x,hax,hx,ha1,ha2⟩:=IR (r:=r) (by omega)
    rw[hax]
    have w1:IntKind.wrap .i64 (((a++[x]).length:Int) - 1)=((a.length:Nat) : Int):=by simp; rw[kI (by omega) (by omega)]
    have hxn:x ∉ cs:=fun h=>by have:=hcs x h; omega
    rw[w1]
    refine aS (fun m ys M3=>M3=M∧ys=[N .i64 (a.length:Int)]) 0 ⟨rfl,rfl⟩ ?_
    rintro next m ys M3 hnext ⟨rfl,rfl⟩
    simp only[go_sem]
    refine⟨fun h3=>?_,fun h3=>hQ M3 (ah.refl _ _)⟩
    have h3:a.length<cs.length:=by simpa using h3
    have hbt:=hcs.bt h3
    refine vH ?_
    have hla:(a++[x])[a.length]?=some x:=by simp
    refine⟨_,List.getElem?_eq_getElem h3,x,hla,fun _=>?_,fun hne=>?_⟩
    ·rw[show IntKind.wrap .i64 ((a.length:Int) + 1)=((a.length + 1:Nat) : Int) by rw[kI (by omega) (by omega)]; omega]
     rw[bi (by omega)]
     simp only[go_sem]
     refine⟨x,hla,hi ?_⟩
     rw[Fz (fun h=>hxn (List.mem_of_mem_drop h))]
     simp only[go_sem,show decide ((-1:Int)<0)=true from rfl]
     exact hQ M3 (ah.refl _ _)
    ·rw[AQ h3] at hne
     have:((bt cs a.length:Int) != (x.toNat:Int))=true:=by simp; omega
     rw[this] at hne; cases hne
def zT (cs:List UInt8) (B:Base) (c:ak) : Prop:=∀ {M:RM} {s:List UInt8} {Q:ai},M.base=B→s.length≤1000000000→(∀ M',ah [] M M'→Q (N .i64 (Lib.indexAny s cs)) M')→c [St s,St cs] M Q
theorem Ey {cs:List UInt8} {T:Nat} {cr cu cm ct:ak} {M:RM} {s:List UInt8} {Q:ai} (hcs:Asc cs) (h2:2≤cs.length) (hl:cs.length≤1000) (hs:s.length≤8) (hr:wE cs cr)
  (hu:∀ {M:RM} {n:Nat} {Q:ai},Q (Bo (decide (8<n))) M→cu [N .i64 (n:Int)] M Q) (hQ:∀ M',ah [] M M'→Q (N .i64 (Lib.indexAny s cs)) M') : ll cr cu cm T ct (St s) (St cs) M Q:=by
 unfold ll
 have e0:(cs == ([] : List UInt8))=false:=by
  cases cs with
  | nil=>simp at h2
  | cons=>rfl
 have e1:((cs.length:Int) == 1)=false:=by simp; omega
 simp only[dS,go_sem,e0,e1]
 refine vH ?_
 refine hu ?_
 rw[show decide (8<s.length)=false by simp; omega]
 simp only[go_sem]
 refine⟨s,rfl, ?_⟩
 simp only[go_sem]
 refine aS (fun m ys M3=>∃ pos:Nat,m=s.length - pos∧ys=[]∧M3.heap M.next=some (.gX s pos)∧ah [] M M3∧M.next<M3.next∧pos≤s.length∧Lib.NoAny s cs pos) _
  ⟨0,rfl,rfl,RM.aY _,(ah.refl _ _).push _,by simp[RM.push],Nat.zero_le _,Lib.NoAny.zero _ _⟩ ?_
 rintro next m ys M3 hnext ⟨pos,rfl,rfl,hh,hk,hlt,hple,hno⟩
 refine⟨_,_,_,rfl,hh, ?_⟩
 have OT:∀ y,ah [] M (M3.put M.next y):=fun y=>hk.put y (.inl (Nat.le_refl _))
 split
 ·rename_i hp
  rcases zL hp with⟨d1,d2⟩ | ⟨d1,d2,d3,d4,d5,d6⟩
  ·rw[d2]
   simp only[go_sem]
   refine hr (by omega) fun M4 k4=>?_
   rw[AR,if_pos d1]
   have hx:UInt8.ofNat (bt s pos)=s[pos]:=by rw[← AQ hp]; simp
   rw[hx]
   have hc:=Lib.contains_iff_indexByte cs s[pos]
   simp only[go_sem]
   refine⟨fun h=>?_,fun h=>?_⟩
   ·have h:(0:Int)≤Lib.indexByte cs s[pos]:=by simpa using h
    rw[decide_eq_true h] at hc
    have:=hQ M4 ((OT _).trans k4)
    rw[Lib.indexAny_hit hno (List.getElem?_eq_getElem hp) hc] at this
    exact this
   ·have h:¬ (0:Int)≤Lib.indexByte cs s[pos]:=by simpa using h
    rw[decide_eq_false h] at hc
    refine hnext _ _ _ (by omega) ⟨pos + 1,rfl,rfl,k4.aG (RM.jN _ _) (by simpa [RM.lW] using hlt) (by simp),(OT _).trans k4, ?_,by omega,hno.succ (List.getElem?_eq_getElem hp) hc⟩
    have:=k4.next
    simp[RM.lW] at this; omega
  ·generalize Utf8.decode ⟨⟨s⟩⟩ pos=d at *
   obtain⟨r,n⟩:=d
   simp only at d2 d3 d4 d5 d6
   simp only[go_sem]
   refine hr d3 fun M4 k4=>?_
   rw[AR,if_neg (by omega)]
   simp only[go_sem,show decide ((-1:Int) ≥ 0)=false from rfl]
   refine hnext _ _ _ (by omega) ⟨pos + n,rfl,rfl,k4.aG (RM.jN _ _) (by simpa [RM.lW] using hlt) (by simp),(OT _).trans k4, ?_,by omega,fun j b hj hb=>?_⟩
   ·have:=k4.next
    simp[RM.lW] at this; omega
   ·rcases Nat.lt_or_ge j pos with h | h
    ·exact hno j b h hb
    ·have hjl:j<s.length:=(List.getElem?_eq_some_iff.1 hb).1
     have h7:=d6 j h hj
     rw[← AQ hjl] at h7
     have h8:s[j]=b:=(List.getElem?_eq_some_iff.1 hb).2
     rw[h8] at h7
     cases hcb:cs.contains b with
     | false=>rfl
     | true =>
       have:=hcs b (by simpa using hcb)
       omega
 ·simp only[go_sem]
  have:pos=s.length:=by omega
  subst this
  rw[Lib.indexAny_none hno] at hQ
  exact hQ M3 hk
end Go.Ab.Vl
namespace Go.Ab
open Go Go.RowKit
structure lh (α:Type) where
 size:Nat
 rel:RM→List AV→α→(Nat→Prop)→Prop
 len:∀ {M cs a S},rel M cs a S→cs.length=size
 one:∀ {M cs a S},rel M cs a S→cs.all oneCell=true
 mono:∀ {M cs a S S'},rel M cs a S→(∀ b,S b→S' b)→rel M cs a S'
 lt:∀ {M cs a S},rel M cs a S→rel M cs a (fun b=>S b∧b<M.next)
 keep:∀ {M M' cs a S bs},rel M cs a S→ah bs M M'→(∀ b∈bs,¬ S b)→rel M' cs a S
def Enc.kV {α:Type} (E:Enc α) : lh α where
 size:=E.size
 rel _ cs a _:=cs=E.cells a
 len h:=by subst h; exact E.len _
 one h:=by subst h; exact E.one _
 mono h _:=h
 lt h:=h
 keep h _ _:=h
inductive dZ {α:Type} (R:lh α) (M:RM) (S:Nat→Prop) : List AV→List α→Prop
 | nil:dZ R M S [] []
 | cons {cs ds:List AV} {a:α} {xs:List α} : R.rel M cs a S→dZ R M S ds xs→dZ R M S (cs++ds) (a :: xs)
section
variable {α:Type} {R:lh α} {M M' : RM} {S S' : Nat→Prop} {cs ds:List AV} {xs ys:List α} {a:α}
theorem dZ.len (h:dZ R M S cs xs) : cs.length=xs.length * R.size:=by
 induction h with
 | nil=>simp
 | cons h1 _ ih=>rw[List.length_append,R.len h1,ih,List.length_cons,Nat.succ_mul,Nat.add_comm]
theorem dZ.one (h:dZ R M S cs xs) : cs.all oneCell=true:=by
 induction h with
 | nil=>rfl
 | cons h1 _ ih=>rw[List.all_append,R.one h1,ih]; rfl
theorem dZ.mono (h:dZ R M S cs xs) (hs:∀ b,S b→S' b) : dZ R M S' cs xs:=by
 induction h with
 | nil=>exact .nil
 | cons h1 _ ih=>exact .cons (R.mono h1 hs) ih
theorem dZ.lt (h:dZ R M S cs xs) : dZ R M (fun b=>S b∧b<M.next) cs xs:=by
 induction h with
 | nil=>exact .nil
 | cons h1 _ ih=>exact .cons (R.lt h1) ih
theorem dZ.keep {bs:List Nat} (h:dZ R M S cs xs) (hk:ah bs M M') (hb:∀ b∈bs,¬ S b) : dZ R M' S cs xs:=by
 induction h with
 | nil=>exact .nil
 | cons h1 _ ih=>exact .cons (R.keep h1 hk hb) ih
theorem dZ.append (h:dZ R M S cs xs) (k:dZ R M S ds ys) : dZ R M S (cs++ds) (xs++ys):=by
 induction h with
 | nil=>exact k
 | cons h1 _ ih=>rw[List.append_assoc]; exact .cons h1 ih
theorem dZ.single (h:R.rel M cs a S) : dZ R M S cs [a]:=by
 have:=dZ.cons h .nil
 simpa using this
theorem dZ.get (h:dZ R M S cs xs) : ∀ {i:Nat} (hi:i<xs.length),R.rel M ((cs.drop (i * R.size)).take R.size) xs[i] S:=by
 induction h with
 | nil=>intro i hi; simp at hi
 | cons h1 h2 ih =>
   rename_i c1 d1 a1 x1
   intro i hi
   cases i with
   | zero =>
     rw[Nat.zero_mul,List.drop_zero,List.take_append_of_le_length (by rw[R.len h1]; exact Nat.le_refl _),List.take_of_length_le (by rw[R.len h1]; exact Nat.le_refl _)]
     exact h1
   | succ i =>
     rw[Nat.succ_mul,Nat.add_comm,← List.drop_drop,List.drop_left' (R.len h1)]
     exact ih (by simpa using hi)
theorem dZ.cells {E:Enc α} : ∀ {cs:List AV} {xs:List α},dZ E.kV M S cs xs→cs=E.row xs
 | _,_,.nil=>rfl
 | _,_,.cons h1 h2=>by rw[Enc.jU,dZ.cells h2]; rw[show _=_ from h1]
theorem dZ.of_cells {E:Enc α} : ∀ (xs:List α),dZ E.kV M S (E.row xs) xs
 | []=>.nil
 | x :: xs=>by rw[Enc.jU]; exact .cons rfl (dZ.of_cells xs)
def df (R:lh α) (M:RM) (v:AV) (xs:List α) (S:Nat→Prop) : Prop :=
 ∃ cs,fU M R.size v cs xs.length∧(∀ b∈aI v,S b)∧dZ R M S cs xs
theorem fU.lt {size n:Nat} {v:AV} (h:fU M size v cs n) : ∀ b∈aI v,b<M.next:=by
 cases h with
 | nil=>intro b hb; simp[aI] at hb
 | emp=>intro b hb; simp[aI] at hb
 | slc b o n cap cs hb _=>intro c hc; simp[aI] at hc; omega
theorem fU.one {size n:Nat} {v:AV} (h:fU M size v cs n) : oneCell v=true:=by
 cases h <;> rfl
theorem fU.cells {size n:Nat} {v:AV} (h:fU M size v cs n) : v.cells=[v]:=by
 cases h <;> rfl
variable {v:AV}
theorem df.mono (h:df R M v xs S) (hs:∀ b,S b→S' b) : df R M v xs S':=let ⟨cs,h1,h2,h3⟩:=h; ⟨cs,h1,fun b hb=>hs b (h2 b hb),h3.mono hs⟩
theorem df.lt (h:df R M v xs S) : df R M v xs (fun b=>S b∧b<M.next):=let ⟨cs,h1,h2,h3⟩:=h; ⟨cs,h1,fun b hb=>⟨h2 b hb,h1.lt b hb⟩,h3.lt⟩
theorem df.keep {bs:List Nat} (h:df R M v xs S) (hk:ah bs M M') (hb:∀ b∈bs,¬ S b) : df R M' v xs S :=
 let ⟨cs,h1,h2,h3⟩:=h; ⟨cs,h1.keep hk (fun b hv hbs=>hb b hbs (h2 b hv)),h2,h3.keep hk hb⟩
theorem df.len (h:df R M v xs S) {K:AV→Prop} : d9 v K=K (N .i64 xs.length):=let ⟨cs,h1,_,_⟩:=h; h1.len
theorem df.one (h:df R M v xs S) : oneCell v=true:=let ⟨cs,h1,_,_⟩:=h; h1.one
theorem df.cells (h:df R M v xs S) : v.cells=[v]:=let ⟨cs,h1,_,_⟩:=h; h1.cells
theorem df.nil:df R M aH [] S:=⟨[],.nil,by simp[aI],.nil⟩
theorem df.sl {E:Enc α} (h:df E.kV M v xs S) : Sl E M v xs:=by
 obtain⟨cs,h1,h2,h3⟩:=h
 rw[h3.cells] at h1
 exact h1
theorem df.Pn {E:Enc α} (h:Sl E M v xs) (hs:∀ b∈aI v,S b) : df E.kV M v xs S:=⟨_,h,hs,dZ.of_cells xs⟩
theorem df.at (h:df R M v xs S) {i:Nat} (sz:Nat) (j:Int) (hi:i<xs.length) (hsz:R.size=sz:=by rfl) (hj:j=(i:Int):=by rfl) :
  ∃ b o cs,b<M.next∧b∈aI v∧(∀ (kd:IntKind) (K:AV→Prop),bN v (N kd j) sz K=K (.ptr b o))∧M.loads b o sz=some cs∧R.rel M cs xs[i] S:=by
 subst hsz hj
 obtain⟨cs,h1,h2,h3⟩:=h
 obtain⟨b,o,cap,rfl,hb,hl⟩:=h1.pos (by omega)
 have hsum:i * R.size + R.size≤xs.length * R.size:=by rw[← Nat.succ_mul]; exact Nat.mul_le_mul_right _ hi
 refine⟨b,o + i * R.size,(cs.drop (i * R.size)).take R.size,hb,by simp[aI],fun kd K=>?_, ?_,h3.get hi⟩
 ·rw[vX]
  simp only[Int.toNat_natCast]
  exact propext ⟨fun h=>h.2.2,fun h=>⟨by omega,by omega,h⟩⟩
 ·rw[Fj hl (i * R.size) R.size hsum]
def lh.slice (R:lh α) : lh (List α) where
 size:=1
 rel M cs xs S:=∃ v,cs=[v]∧df R M v xs S
 len h:=by obtain⟨v,rfl,_⟩:=h; rfl
 one h:=by obtain⟨v,rfl,h⟩:=h; simp[h.one]
 mono h hs:=by obtain⟨v,rfl,h⟩:=h; exact⟨v,rfl,h.mono hs⟩
 lt h:=by obtain⟨v,rfl,h⟩:=h; exact⟨v,rfl,h.lt⟩
 keep h hk hb:=by obtain⟨v,rfl,h⟩:=h; exact⟨v,rfl,h.keep hk hb⟩
def gD (R:lh α) (M:RM) (base el:Nat) (v:AV) (xs:List α) (S:Nat→Prop) : Prop :=
 ∃ cs,Own M base el R.size v cs xs.length∧dZ R M S cs xs
theorem gD.nil {base el:Nat} : gD R M base el aH [] S:=⟨[],.nil,.nil⟩
theorem gD.mono {base el:Nat} (h:gD R M base el v xs S) (hs:∀ b,S b→S' b) : gD R M base el v xs S':=let ⟨cs,h1,h2⟩:=h; ⟨cs,h1,h2.mono hs⟩
theorem gD.lt {base el:Nat} (h:gD R M base el v xs S) : gD R M base el v xs (fun b=>S b∧b<M.next):=let ⟨cs,h1,h2⟩:=h; ⟨cs,h1,h2.lt⟩
theorem gD.keep {base el:Nat} {bs:List Nat} (h:gD R M base el v xs S) (hk:ah bs M M') (hb:∀ b∈bs,¬ S b) (hv:∀ b∈aI v,b ∉ bs) : gD R M' base el v xs S :=
 let ⟨cs,h1,h2⟩:=h; ⟨cs,h1.keep hk hv,h2.keep hk hb⟩
theorem gD.len {base el:Nat} (h:gD R M base el v xs S) {K:AV→Prop} : d9 v K=K (N .i64 xs.length):=let ⟨cs,h1,_⟩:=h; h1.Bp.len
theorem gD.blk {base el:Nat} (h:gD R M base el v xs S) : ∀ b∈aI v,base≤b∧b<M.next:=let ⟨cs,h1,_⟩:=h; h1.blk
theorem gD.MN {base el:Nat} (h:gD R M base el v xs S) (hs:∀ b,base≤b→b<M.next→S b) : df R M v xs S :=
 let ⟨cs,h1,h2⟩:=h; ⟨cs,h1.Bp,fun b hb=>hs b (h1.blk b hb).1 (h1.blk b hb).2,h2⟩
theorem gD.cells {base el:Nat} (h:gD R M base el v xs S) : v.cells=[v]:=let ⟨cs,h1,_⟩:=h; h1.cells
theorem gD.one {base el:Nat} (h:gD R M base el v xs S) : oneCell v=true:=let ⟨cs,h1,_⟩:=h; h1.one
theorem gD.app {base T bytes:Nat} {zs:List AV} {K:ai} (ho:gD R M base T v xs S) (ha:R.rel M cs a S) (hb:base≤M.next) (hs:1≤R.size)
  (hd:∀ b∈aI v,¬ S b) (hS:∀ b,S b→b<M.next)
  (hn:(xs.length + 1) * bytes≤140737488355328) (hn2:xs.length + 1≤140737488355328)
  (hK:∀ v' M',gD R M' base T v' (xs++[a]) S→ah (aI v) M M'→M.next≤M'.next→(v'=v∨∀ b∈aI v',M.next≤b)→(∀ b∈aI v',¬ S b)→K v' M') :
  appW T R.size bytes zs false v (.slc M.next 0 1 (.ex 1)) (M.push (.row cs false T 0)) K:=by
 obtain⟨ds,h1,h2⟩:=ho
 have hk:ah [] M (M.push (.row cs false T 0)):=(ah.refl _ _).push _
 have hl:=R.len ha
 have hnl:lL (M.push (.row cs false T 0)) R.size zs false (.slc M.next 0 1 (.ex 1))=some (1,cs):=by
  simp only[lL,Nat.one_mul]
  rw[RM.oN (RM.aY _) (by omega),List.drop_zero,← hl,List.take_length]
 refine uS (h1.keep hk (by simp)) (Nat.le_trans hb hk.next) hs hnl (by rw[hl,Nat.one_mul]) (R.one ha) hn hn2 ?_
 intro v' M' q1 q2 q3 q4
 have kk:ah (aI v) M M':=(hk.mono (by simp)).trans q2
 refine hK v' M' ⟨_,by simpa using q1, ?_⟩ kk (Nat.le_trans hk.next q3) (q4.imp id fun h b hb=>Nat.le_trans hk.next (h b hb)) ?_
 ·exact(h2.keep kk hd).append (dZ.single (R.keep ha kk hd))
 ·rcases q4 with rfl | q4
  ·exact hd
  ·intro b hb hSb
   have:=q4 b hb
   have:=hS b hSb
   simp only[RM.push] at *
   omega
end
section
variable {M M' : RM} {b i n e f:Nat} {l:List AV} {p:Bool} {x:AV}
theorem ax {K:AV→Prop} (h:M.heap b=some (.row l p e f)) (hx:l[i]?=some x) : av M (.ptr b i) K=K x:=by
 rw[cZ,RM.cell_of h,hx]; simp
theorem dN {K:AV→Prop} (h:M.heap b=some (.row l p e f)) (hn:l.length=n) : bg M (.ptr b 0) n K=K (.agg l):=by
 rw[zZ,RM.NU h]
 have:qY (some l) 0 n=some l:=by simp[qY,← hn]
 rw[this]; simp
theorem zy {K:RM→Prop} (h:M.heap b=some (.row l p e 0)) (hi:i<l.length) (hc:x.cells=[x]) (h1:oneCell x=true) : aO M (.ptr b i) x 1 K=K (M.put b (.row (l.set i x) p e 0)):=by
 rw[wN,hc,RM.jI h,gV (by simp only[List.length_cons,List.length_nil]; omega) (Nat.zero_le _) (by simp[h1])]
 have:l.take i++[x]++l.drop (i + 1)=l.set i x:=by
  rw[List.set_eq_take_append_cons_drop,if_pos hi]; simp
 simp[this]
theorem eU {K:RM→Prop} (l' : List AV) (h:M.heap b=some (.row l p e 0)) (hi:i<l.length) (hc:x.cells=[x]) (h1:oneCell x=true) (hl:l.set i x=l') : aO M (.ptr b i) x 1 K=K (M.put b (.row l' p e 0)):=by
 rw[zy h hi hc h1,hl]
theorem aX {K:AV→Prop} : aF (.ptr b 0) n K=K (.ptr b n):=by rw[eT,Nat.zero_add]
theorem eH {K:RM→Prop} (h:M.heap b=some (.row l p e 0)) (hn:x.cells.length=n) (hl:l.length=n) (h1:x.cells.all oneCell=true) : aO M (.ptr b 0) x n K=K (M.put b (.row x.cells p e 0)):=by
 rw[wN,RM.jI h,FM (by rw[hn,hl]) h1]
 simp[hn]
theorem bR {c:Nat} {y z:RB} (h:M.heap b=some y) (hb:b≠c) : (M.put c z).heap b=some y:=by
 simp only[RM.put]; rw[if_neg hb]; exact h
theorem aV (y:RB) : (M.put b y).heap b=some y:=RM.jN _ _
theorem iI {y z:RB} (h:M.heap b=some y) (hb:b<M.next) : (M.push z).heap b=some y:=by
 simp only[RM.push]; rw[if_neg (by omega)]; exact h
theorem dK (y:RB) : (M.push y).next=M.next + 1:=rfl
theorem iG (c:Nat) (y:RB) : (M.put c y).next=M.next:=rfl
theorem ah.new {bs:List Nat} (h:ah bs M M') {b:Nat} (y:RB) (hb:M.next≤b) : ah bs M (M'.put b y):=h.put y (.inl hb)
end
variable {M:RM}
theorem jy {a:AV} {l:List AV} {K:AV→Prop} : bD (.tup (a :: l)) 0 K=K a:=by rw[Ce]; simp
theorem jv {a b:AV} {l:List AV} {K:AV→Prop} : bD (.tup (a :: b :: l)) 1 K=K b:=by rw[Ce]; simp
theorem Aj {a b c:AV} {l:List AV} {K:AV→Prop} : bD (.tup (a :: b :: c :: l)) 2 K=K c:=by rw[Ce]; simp
theorem bf {p q:Prop} : aj (Bo true) p q=p:=by simp[wT]
theorem bI {p q:Prop} : aj (Bo false) p q=q:=by simp[wT]
theorem bU {b:Bool} {p q:Prop} (h1:b=true→p) (h2:b=false→q) : aj (Bo b) p q:=⟨h1,h2⟩
theorem bz {f g:ai→Prop} {k:ai} : aa (Bo true) true f g k=f k:=rfl
theorem aZ {f g:ai→Prop} {k:ai} : aa (Bo false) false f g k=f k:=rfl
theorem aR {f g:ai→Prop} {k:ai} : aa (Bo true) false f g k=g k:=rfl
theorem bT {f g:ai→Prop} {k:ai} : aa (Bo false) true f g k=g k:=rfl
theorem EN {f g:KR→Prop} {k:KR} : dx (Bo true) true f g k=f k:=rfl
theorem Nv {f g:KR→Prop} {k:KR} : dx (Bo false) false f g k=f k:=rfl
theorem MW {f g:KR→Prop} {k:KR} : dx (Bo true) false f g k=g k:=rfl
theorem fT {w:Bool} {f g:ai→Prop} {k:ai} : aa .undef w f g k=g k:=rfl
theorem bu {a b:AV} {K:AV→Prop} : ay (Bo true) a b K=K a:=by rw[Hf]; rfl
theorem bX {a b:AV} {K:AV→Prop} : ay (Bo false) a b K=K b:=by rw[Hf]; rfl
theorem fU.known {size:Nat} {v:AV} {cs:List AV} {n:Nat} (h:fU M size v cs n) : known v=true:=by
 cases h <;> rfl
theorem df.known {α:Type} {R:lh α} {v:AV} {xs:List α} {S:Nat→Prop} (h:df R M v xs S) : known v=true:=let ⟨_,h1,_,_⟩:=h; h1.known
theorem jL {t:TypeId} {cs:List AV} {K:RB→(Nat→AV)→Prop} (h1:cs.all oneCell=true) (h2:1≤cs.length) : nX t (.agg cs) K=K (.row cs false t 0) (fun b=>.ptr b 0):=by
 unfold nX
 exact propext ⟨fun h=>h.2.2,fun h=>⟨h1,h2,h⟩⟩
theorem Q7 {x y a b:AV} (h1:known x=true) (h2:x.cells=[x]) (h3:known y=true) (h4:y.cells=[y]) : vK [a,b] [(0,1,x),(1,1,y)]=some [x,y]:=by
 simp[vK,h1,h2,h3,h4]
def lh.pre {α β:Type} (E:Enc α) (R:lh β) : lh (α × β) where
 size:=E.size + R.size
 rel M cs a S:=∃ ds,cs=E.cells a.1++ds∧R.rel M ds a.2 S
 len h:=by obtain⟨ds,rfl,h⟩:=h; rw[List.length_append,E.len,R.len h]
 one h:=by obtain⟨ds,rfl,h⟩:=h; rw[List.all_append,E.one,R.one h]; rfl
 mono h hs:=by obtain⟨ds,rfl,h⟩:=h; exact⟨ds,rfl,R.mono h hs⟩
 lt h:=by obtain⟨ds,rfl,h⟩:=h; exact⟨ds,rfl,R.lt h⟩
 keep h hk hb:=by obtain⟨ds,rfl,h⟩:=h; exact⟨ds,rfl,R.keep h hk hb⟩
def lh.post {α β:Type} (R:lh α) (E:Enc β) : lh (α × β) where
 size:=R.size + E.size
 rel M cs a S:=∃ ds,cs=ds++E.cells a.2∧R.rel M ds a.1 S
 len h:=by obtain⟨ds,rfl,h⟩:=h; rw[List.length_append,E.len,R.len h]
 one h:=by obtain⟨ds,rfl,h⟩:=h; rw[List.all_append,E.one,R.one h]; rfl
 mono h hs:=by obtain⟨ds,rfl,h⟩:=h; exact⟨ds,rfl,R.mono h hs⟩
 lt h:=by obtain⟨ds,rfl,h⟩:=h; exact⟨ds,rfl,R.lt h⟩
 keep h hk hb:=by obtain⟨ds,rfl,h⟩:=h; exact⟨ds,rfl,R.keep h hk hb⟩
def lh.map {α β:Type} (R:lh α) (g:β→α) : lh β where
 size:=R.size
 rel M cs a S:=R.rel M cs (g a) S
 len h:=R.len h
 one h:=R.one h
 mono h hs:=R.mono h hs
 lt h:=R.lt h
 keep h hk hb:=R.keep h hk hb
end Go.Ab
namespace Go.Ab.Vl
open Go Go.Ab
def fA:List UInt8:=[44,59,58]
def iL (s:List UInt8) : List UInt8 × List UInt8 × Bool :=
 if aK 34 s then match brk 34 (s.drop 1) with
  | some (a,b)=>(a,b,fu [] a)
  | none=>(s.drop 1,[],false)
 else if Lib.indexAny s fA<0 then([],[],false)
 else(s.take (Lib.indexAny s fA).toNat,s.drop (Lib.indexAny s fA).toNat,fu [34] (s.take (Lib.indexAny s fA).toNat))
theorem Bg:∀ (s cs:List UInt8),Lib.indexAny s cs<(s.length:Int)∨Lib.indexAny s cs=-1
 | [],cs=>.inr rfl
 | b :: s,cs=>by
   have:=Bg s cs
   rw[Lib.indexAny]
   split
   ·left; simp only[List.length_cons]; omega
   ·split
    ·right; rfl
    ·rename_i h1 h2
     left
     rcases this with h | h
     ·simp only[List.length_cons]; omega
     ·rw[h] at h2; simp at h2
theorem qZ (s:List UInt8) : (iL s).1.length≤s.length∧(iL s).2.1.length≤s.length:=by
 unfold iL
 split
 ·rcases qy 34 (s.drop 1) with⟨h1,_⟩ | ⟨a,b,h1,_,h3,_⟩
  ·rw[h1]; simp
  ·rw[h1]
   have:=congrArg List.length h3
   simp at this ⊢; omega
 ·split
  ·simp
  ·simp; omega
def Ih (B:Base) (c:ak) : Prop:=∀ {M:RM} {s:List UInt8} {Q:ai},M.base=B→s.length≤1000000→(∀ M',ah [] M M'→Q (.tup [St (iL s).1,St (iL s).2.1,Bo (iL s).2.2]) M')→c [St s] M Q
theorem K8 {B:Base} {cp cc cg ci:ak} (hp:lH cp) (hc:Ae 34 cc) (hg:lm B cg) (hi:zT fA B ci) : Ih B fun args M Q=>∃ a0,args=[a0]∧pE cp cc cg ci a0 M Q:=by
 intro M s Q hM hl hQ
 refine⟨_,rfl, ?_⟩
 unfold pE
 refine hp (by omega) ?_
 unfold KJ
 unfold iL at hQ
 cases hh:aK 34 s with
 | true =>
   simp only[hh,if_true] at hQ
   simp only[go_sem,eu]
   refine hc (by simp; omega) ?_
   unfold FV
   cases hb:brk 34 (s.drop 1) with
   | none =>
     simp only[hb] at hQ
     simp only[go_sem]
     exact hQ M (ah.refl _ _)
   | some p =>
     obtain⟨a,b⟩:=p
     simp only[hb] at hQ
     have:=qZ s
     unfold iL at this
     simp only[hh,if_true,hb] at this
     simp only[go_sem]
     refine hg hM (by omega) fun M1 k1=>?_
     exact hQ M1 k1
 | false =>
   simp only[hh,Bool.false_eq_true,if_false] at hQ
   simp only[go_sem,Bool.false_eq_true,if_false]
   refine hi hM (by omega) fun M1 k1=>?_
   have hlt:=Bg s fA
   generalize Lib.indexAny s fA=n at *
   simp only[go_sem]
   refine⟨fun h=>?_,fun h=>?_⟩
   ·have h:n<0:=by simpa using h
    simp only[h,if_true] at hQ
    exact hQ M1 k1
   ·have h:¬ n<0:=by simpa using h
    simp only[h,if_false] at hQ
    obtain⟨k,rfl⟩ : ∃ k:Nat,n=(k:Int):=⟨n.toNat,by omega⟩
    simp only[Int.toNat_natCast] at hQ
    have hk:k≤s.length:=by omega
    rw[gm hk,bi hk]
    simp only[go_sem]
    refine hg (by rw[k1.base,hM]) (by simp; omega) fun M2 k2=>?_
    exact hQ M2 (k1.trans k2)
abbrev jr:=List UInt8 × List (List UInt8)
def iT:lh jr:=lh.pre fZ fZ.kV.slice
theorem u6 {M:RM} {n:List UInt8} {v:AV} {vs:List (List UInt8)} {S:Nat→Prop} (h:df fZ.kV M v vs S) : iT.rel M [St n,v] (n,vs) S:=⟨[v],rfl,v,rfl,h⟩
def gP:Nat→List UInt8→List (List UInt8)→Option (List (List UInt8) × List UInt8)
 | 0,_,_=>none
 | k + 1,s,acc=>match iL (s.drop 1) with
   | (v,after,ok)=>if ok then(if aK 44 after then gP k after (acc++[v]) else some (acc++[v],after)) else none
def kZ (f:List UInt8→List UInt8) : Nat→List UInt8→List jr→Option (List jr × List UInt8)
 | 0,_,_=>none
 | k + 1,s,acc=>if aK 59 s then
     (if gq f (((s.drop 1).take (wk (s.drop 1))).map bW) && aK 61 ((s.drop 1).drop (wk (s.drop 1))) then
      match gP ((s.drop 1).drop (wk (s.drop 1))).length ((s.drop 1).drop (wk (s.drop 1))) [] with
      | some (vs,s3)=>kZ f k s3 (acc++[(((s.drop 1).take (wk (s.drop 1))).map bW,vs)])
      | none=>none
     else none)
   else some (acc,s)
theorem bC {x:UInt8} {s:List UInt8} (h:aK x s=true) : 1≤s.length:=by
 cases s with
 | nil=>cases h
 | cons=>simp
theorem oV:∀ (k:Nat) (s:List UInt8) (acc vs:List (List UInt8)) (r:List UInt8),1≤s.length→gP k s acc=some (vs,r)→r.length + vs.length≤s.length + acc.length
 | 0,_,_,_,_,_,h=>by cases h
 | k + 1,s,acc,vs,r,h1,h=>by
   rw[gP] at h
   have hl:=qZ (s.drop 1)
   generalize iL (s.drop 1)=x at *
   obtain⟨v,after,ok⟩:=x
   simp only[List.length_drop] at hl h
   split at h
   ·split at h
    ·rename_i hh
     have:=oV k after _ vs r (bC hh) h
     simp at this; omega
    ·cases h; simp; omega
   ·cases h
theorem vC:∀ (n:Nat) (s:List UInt8) (acc:List (List UInt8)) (k:Nat),s.length≤n→1≤s.length→s.length≤k→gP k s acc=gP s.length s acc
 | 0,s,acc,k,h1,h2,h3=>by omega
 | n + 1,s,acc,k,h1,h2,h3=>by
   obtain⟨j,hj⟩ : ∃ j,s.length=j + 1:=⟨s.length - 1,by omega⟩
   obtain⟨i,rfl⟩ : ∃ i,k=i + 1:=⟨k - 1,by omega⟩
   rw[hj,gP,gP]
   have hl:=qZ (s.drop 1)
   generalize iL (s.drop 1)=x at *
   obtain⟨v,after,ok⟩:=x
   simp only[List.length_drop] at hl ⊢
   split
   ·split
    ·rename_i hh
     have h4:=bC hh
     rw[vC n after _ i (by omega) h4 (by omega),vC n after _ j (by omega) h4 (by omega)]
    ·rfl
   ·rfl
theorem yV (f:List UInt8→List UInt8) : ∀ (n:Nat) (s:List UInt8) (acc:List jr) (k:Nat),s.length≤n→s.length + 1≤k→kZ f k s acc=kZ f (s.length + 1) s acc
 | n,s,acc,k,h1,h3=>by
   obtain⟨i,rfl⟩ : ∃ i,k=i + 1:=⟨k - 1,by omega⟩
   rw[kZ,kZ]
   split
   ·rename_i h59
    have hpos:=bC h59
    split
    ·rename_i hc
     simp only[Bool.and_eq_true] at hc
     have h61:=bC hc.2
     cases hv:gP ((s.drop 1).drop (wk (s.drop 1))).length ((s.drop 1).drop (wk (s.drop 1))) [] with
     | none=>rfl
     | some p =>
       obtain⟨vs,s3⟩:=p
       have:=oV _ _ _ _ _ h61 hv
       simp at this
       simp only
       cases n with
       | zero=>omega
       | succ n =>
         rw[yV f n s3 _ i (by omega) (by omega),yV f n s3 _ s.length (by omega) (by omega)]
    ·rfl
   ·rfl
def oD (f:List UInt8→List UInt8) (s:List UInt8) : Option (List jr × List UInt8):=kZ f (s.length + 1) s []
def Ew (B:Base) (f:List UInt8→List UInt8) (TP:Nat) (c:ak) : Prop:=∀ {M:RM} {s:List UInt8} {Q:ai},M.base=B→s.length≤100000 →
 (∀ M',ah [] M M'→oD f s=none→Q (.tup [aH,St [],Bo false]) M') →
 (∀ v M' ps r,ah [] M M'→oD f s=some (ps,r)→df iT M' v ps (fun b=>M.next≤b)→ps.length + r.length≤s.length→Q (.tup [v,St r,Bo true]) M')→c [St s] M Q
theorem II {B:Base} {f:List UInt8→List UInt8} {TP TS:Nat} {ch cw cg cv:ak} (hh:mD ch) (hw:FX B cw) (hg:oU B f cg) (hv:Ih B cv) :
  Ew B f TP fun args M Q=>∃ a0,args=[a0]∧nW ch TP cw cg cv TS a0 M Q:=by
 intro M s Q hM hl hN hS
 refine⟨_,rfl, ?_⟩
 unfold nW
 simp only[eu,dS]
 refine aS (fun m ys M3=>∃ (t:List UInt8) (v:AV) (acc:List jr),m=t.length∧ys=[St t,v]∧acc.length + t.length≤s.length∧ah [] M M3 ∧
   gD iT M3 M.next TP v acc (fun b=>M.next≤b∧b<M3.next∧b ∉ aI v)∧kZ f (t.length + 1) t acc=oD f s) _
  ⟨s,aH,[],rfl,rfl,by simp,ah.refl _ _,.nil,rfl⟩ ?_
 rintro next m ys M3 hnext ⟨t,v,acc,rfl,rfl,hal,hK,ho,hp⟩
 have hM3:M3.base=B:=by rw[hK.base,hM]
 rw[kZ] at hp
 dsimp only[ae]
 refine hh (by omega) ?_
 cases h59:aK 59 t with
 | false =>
   simp only[h59,Bool.false_eq_true,if_false] at hp
   rw[bI]
   refine hS v M3 acc t hK hp.symm ((ho.mono (fun b h=>h.1)).MN (fun b hb _=>hb)) hal
 | true =>
   simp only[h59,if_true] at hp
   have htl:=bC h59
   rw[bf,bn,show aC (St t) (some (N .i64 1)) none=some (St (t.drop 1)) from bi (l:=1) (by omega) .i64,dL]
   have hb5:(M3.push (.row [St [],aH] false TP 0)).heap M3.next=some (.row [St [],aH] false TP 0):=RM.aY _
   refine hw (by rw[RM.Nr,hM3]) (by simp; omega) fun M4 k4=>?_
   have hb5:=k4.aG hb5 (by simp[RM.push]) (by simp)
   have hn4:M3.next<M4.next:=by have:=k4.next; simp[RM.push] at this; omega
   have kk4:ah [] M3 M4:=((ah.refl _ _).push _).trans k4
   unfold Km
   rw[jy,jv,eT,Nat.zero_add,zy hb5 (by decide) rfl rfl,eT,Nat.zero_add,ax (aV _) rfl]
   generalize ht1:t.drop 1=t1 at *
   have ht1l:t1.length + 1=t.length:=by rw[← ht1]; simp; omega
   have hwk:=Ai t1
   generalize wk t1=k at *
   refine hg (by rw[RM.N9,kk4.base,hM3]) (by simp; omega) fun M5 k5=>?_
   rw[dh]
   have fail:oD f s=none→Q (.tup [aH,St [],Bo false]) M5:=fun h=>hN M5 ((hK.trans kk4).new _ hK.next |>.trans k5) h
   cases hgn:gq f ((t1.take k).map bW) with
   | false =>
     simp only[hgn,Bool.false_and,Bool.false_eq_true,if_false] at hp
     rw[Bool.not_false,aR]
     dsimp only
     rw[bu,bf]
     exact fail hp.symm
   | true =>
   rw[Bool.not_true,aZ]
   refine hh (by simp; omega) ?_
   rw[dh]
   cases h61:aK 61 (t1.drop k) with
   | false =>
     simp only[h61,Bool.and_false,Bool.false_eq_true,if_false] at hp
     rw[Bool.not_false,bX,bf]
     exact fail hp.symm
   | true =>
   simp only[hgn,h61,Bool.and_self,if_true] at hp
   rw[Bool.not_true,bX,bI]
   generalize ht2:t1.drop k=t2 at *
   have ht2l:t2.length≤t1.length:=by rw[← ht2]; simp
   generalize hnm:(t1.take k).map bW=nm at *
   -- the block of this parameter
   have hb5:M5.heap M3.next=some (.row [St nm,aH] false TP 0):=k5.aG (aV _) (by rw[iG]; exact hn4) (by simp)
   have kk5:ah [] M3 M5:=(kk4.new _ (Nat.le_refl _)).trans k5
   have hn5:M3.next<M5.next:=by have:=k5.next; rw[iG] at this; omega
   refine aS (fun m zs M6=>∃ (u:List UInt8) (vs:List (List UInt8)) (w:AV) (more:Bool),m=2 * u.length + (if more then 1 else 0)∧zs=[St u,v,Bo more]∧u.length + vs.length≤t2.length∧ah [] M3 M6∧M5.next≤M6.next ∧
     M6.heap M3.next=some (.row [St nm,w] false TP 0)∧gD fZ.kV M6 M5.next TS w vs (fun _=>False) ∧
     (more=true→1≤u.length∧gP u.length u vs=gP t2.length t2 [])∧(more=false→gP t2.length t2 []=some (vs,u))) _
    ⟨t2,[],aH,true,rfl,rfl,by simp,kk5,Nat.le_refl _,hb5,.nil,fun _=>⟨bC h61,rfl⟩,fun h=>by cases h⟩ ?_
   rintro wV m zs M6 iF ⟨u,vs,w,more,rfl,rfl,hul,hk6,hn6,hb6,how,hm1,hm2⟩
   dsimp only[ae]
   have hM6:M6.base=B:=by rw[hk6.base,hM3]
   cases more with
   | true =>
     obtain⟨hu1,hvf⟩:=hm1 rfl
     obtain⟨j,hj⟩ : ∃ j,u.length=j + 1:=⟨u.length - 1,by omega⟩
     rw[hj,gP] at hvf
     rw[bf,show aC (St u) (some (N .i64 1)) none=some (St (u.drop 1)) from bi (l:=1) (by omega) .i64,dL]
     have hvl:=qZ (u.drop 1)
     refine hv hM6 (by simp; omega) fun M7 k7=>?_
     generalize iL (u.drop 1)=x at *
     obtain⟨a,after,ok⟩:=x
     simp only[List.length_drop] at hvl hvf
     rw[jy,jv,Aj,dh]
     dsimp only
     cases ok with
     | false =>
       simp only[Bool.false_eq_true,if_false] at hvf
       rw[Bool.not_false,bf]
       refine hN M7 (hK.trans (hk6.trans k7)) ?_
       rw[← hp,← hvf]
     | true =>
     simp only[if_true] at hvf
     have hb7:=k7.aG hb6 (by omega) (by simp)
     rw[Bool.not_true,bI,eT,Nat.zero_add,ax hb7 rfl,su (x:=St a) (size:=1) rfl rfl rfl,bn]
     have Ux:=how.keep k7 (by simp) (by simp)
     refine gD.app (R:=fZ.kV) (a:=a) (cs:=[St a]) Ux rfl (by have:=k7.next; omega) (Nat.le_refl _) (by simp) (by simp) (by omega) (by omega) ?_
     intro w' M8 o8 k8 n8 hw8 _
     have hwb:∀ b∈aI w,M5.next≤b:=fun b hb=>(how.blk b hb).1
     have hb8:=k8.aG hb7 (by have:=k7.next; omega) (fun h=>by have:=hwb _ h; omega)
     have TK:∀ b∈aI w',M5.next≤b:=fun b hb=>(o8.blk b hb).1
     rw[eT,Nat.zero_add,zy hb8 (by simp) o8.cells o8.one]
     refine hh (by omega) ?_
     have k9:ah [] M3 (M8.put M3.next (.row [St nm,w'] false TP 0)):=ah.new ((hk6.trans k7).jP k8 fun c hc=>.inl (by have:=hwb c hc; omega)) _ (Nat.le_refl _)
     refine iF _ _ _ ?_ ⟨after,vs++[a],w',aK 44 after,rfl,rfl,by simp; omega,k9,by rw[iG]; have:=k7.next; omega,aV _, ?_, ?_, ?_⟩
     ·split <;> simp <;> omega
     ·refine o8.keep (bs:=[M3.next]) ((ah.refl _ _).put _ (.inr (by simp))) (by simp) fun b hb=>?_
      have:=TK b hb
      simp; omega
     ·intro hmo
      rw[if_pos hmo] at hvf
      refine⟨bC hmo, ?_⟩
      rw[← hvf,vC after.length after _ j (Nat.le_refl _) (bC hmo) (by omega)]
     ·intro hmo
      rw[hmo] at hvf
      simp only[Bool.false_eq_true,if_false] at hvf
      exact hvf.symm
   | false =>
     rw[hm2 rfl] at hp
     simp only at hp
     rw[bI,dN (n:=2) hb6 rfl,su (x:=.agg [St nm,w]) (size:=2) rfl (by simp[AV.cells,how.one]; rfl) rfl,bn]
     have hvl:=ho.blk
     let S' : Nat→Prop:=fun b=>M.next≤b∧b<M6.next∧b ∉ aI v
     have ho6:gD iT M6 M.next TP v acc S':=(ho.keep hk6 (by simp) (by simp)).mono fun b h=>⟨h.1,by have:=hk6.next; omega,h.2.2⟩
     have hel:iT.rel M6 [St nm,w] (nm,vs) S':=u6 ((how.mono (S':=S') (fun _ h=>h.elim)).MN (fun b h1 h2=>⟨by have:=hK.next; omega,h2,fun hb=>by have:=(hvl b hb).2; omega⟩))
     refine gD.app (R:=iT) ho6 hel (by have:=hK.next; have:=hk6.next; omega) (by decide) (fun b hb h=>h.2.2 hb) (fun b h=>h.2.1) (by omega) (by omega) ?_
     intro v' M7 o7 k7 n7 hv7 hd7
     have hvs:=oV _ _ _ _ _ (bC h61) (hm2 rfl)
     simp at hvs
     refine hnext _ _ _ (by omega) ⟨u,v',acc++[(nm,vs)],rfl,rfl,by simp; omega, ?_, ?_, ?_⟩
     ·exact(hK.trans hk6).jP k7 fun c hc=>.inl (hvl c hc).1
     ·exact o7.mono fun b h=>⟨h.1,by omega,fun hb=>hd7 b hb h⟩
     ·rw[← hp,yV f u.length u _ t.length (Nat.le_refl _) (by omega)]
structure Ln where
 g:List UInt8
 n:List UInt8
 ps:List jr
 v:List UInt8
 deriving DecidableEq
def gF:lh (Ln × Int) where
 size:=5
 rel M cs a S:=∃ v,cs=[St a.1.g,St a.1.n,v,St a.1.v,N .i64 a.2]∧df iT M v a.1.ps S
 len h:=by obtain⟨v,rfl,h⟩:=h; rfl
 one h:=by obtain⟨v,rfl,h⟩:=h; simp[h.one,gG]
 mono h hs:=by obtain⟨v,rfl,h⟩:=h; exact⟨v,rfl,h.mono hs⟩
 lt h:=by obtain⟨v,rfl,h⟩:=h; exact⟨v,rfl,h.lt⟩
 keep h hk hb:=by obtain⟨v,rfl,h⟩:=h; exact⟨v,rfl,h.keep hk hb⟩
abbrev lz:List AV:=[St [],St [],aH,St [],N .i64 0]
def cB (s:List UInt8) : List UInt8:=(s.take (wk s)).map bW
theorem Ig (s:List UInt8) : Km s=.tup [St (cB s),St (s.drop (wk s))]:=rfl
def sI (f:List UInt8→List UInt8) (s:List UInt8) : Option (List UInt8 × List UInt8 × List UInt8) :=
 if aK 46 (s.drop (wk s)) then
  (if gq f (cB s) then some (cB s,cB ((s.drop (wk s)).drop 1),((s.drop (wk s)).drop 1).drop (wk ((s.drop (wk s)).drop 1))) else none)
 else some ([],cB s,s.drop (wk s))
def AP (f:List UInt8→List UInt8) (g n s:List UInt8) : Option Ln :=
 match oD f s with
 | none=>none
 | some (ps,r)=>if gq f n && aK 58 r && fu [] (r.drop 1) then some ⟨g,n,ps,r.drop 1⟩ else none
def oz (f:List UInt8→List UInt8) (s:List UInt8) : Option Ln :=
 if dJ s then(match sI f s with
  | none=>none
  | some (g,n,r)=>AP f g n r)
 else none
def Q9 (B:Base) (f:List UInt8→List UInt8) (c:ak) : Prop:=∀ {M:RM} {s:List UInt8} {Q:ai},M.base=B→s.length≤10000 →
 (∀ M',ah [] M M'→oz f s=none→Q (.tup [.agg lz,Bo false]) M') →
 (∀ cs M' L,ah [] M M'→oz f s=some L→gF.rel M' cs (L,0) (fun b=>M.next≤b)→Q (.tup [.agg cs,Bo true]) M')→c [St s] M Q
theorem Kr {M:RM} {b T:Nat} {l:List AV} {Q:ai} (h:M.heap b=some (.row l false T 0)) (hl:l.length=5) (hQ:Q (.tup [.agg lz,Bo false]) (M.put b (.row lz false T 0))) :
  j4 lz [] fun t=>aO M (.ptr b 0) t 5 fun M1=>bg M1 (.ptr b 0) 5 fun res=>Q (.tup [res,Bo false]) M1:=by
 rw[oL]
 refine⟨_,rfl, ?_⟩
 rw[eH (n:=5) h rfl hl rfl,dN (n:=5) (aV _) rfl]
 exact hQ
theorem Mj {B:Base} {f:List UInt8→List UInt8} {TP TL:Nat} {cvs cw ch cg cp cv:ak} (hvs:DC B cvs) (hw:FX B cw) (hh:mD ch) (hg:oU B f cg) (hp:Ew B f TP cp) (hv:lm B cv) :
  Q9 B f fun args M Q=>∃ a0,args=[a0]∧rD TL cvs cw ch cg cp cv a0 M Q:=by
 intro M s Q hM hl hN hS
 refine⟨_,rfl, ?_⟩
 unfold rD
 simp only[eu,dS]
 rw[bn]
 have h2:(M.push (.row lz false TL 0)).heap M.next=some (.row lz false TL 0):=RM.aY _
 have k1:ah [] M (M.push (.row lz false TL 0)):=(ah.refl _ _).push _
 have n1:(M.push (.row lz false TL 0)).next=M.next + 1:=rfl
 generalize M.push (.row lz false TL 0)=M1 at *
 refine hvs (by rw[k1.base,hM]) (by omega) ?_
 rw[dh]
 unfold oz at hN hS
 cases hf:dJ s with
 | false =>
   rw[Bool.not_false,bf]
   exact Kr h2 rfl (hN _ (k1.new _ (Nat.le_refl _)) (by simp[hf]))
 | true =>
 simp only[hf,if_true] at hN hS
 rw[Bool.not_true,bI,bn]
 have h4:(M1.push (.row lz false TL 0)).heap (M.next + 1)=some (.row lz false TL 0):=by rw[← n1]; exact RM.aY _
 have h2:(M1.push (.row lz false TL 0)).heap M.next=some (.row lz false TL 0):=iI h2 (by omega)
 have k2:ah [] M (M1.push (.row lz false TL 0)):=k1.push _
 have n2:(M1.push (.row lz false TL 0)).next=M.next + 2:=by rw[dK,n1]
 rw[n1]
 generalize M1.push (.row lz false TL 0)=M2 at *
 refine hw (by rw[k2.base,hM]) (by omega) fun M3 k3=>?_
 rw[Ig]
 have h2:=k3.aG h2 (by omega) (by simp)
 have h4:=k3.aG h4 (by omega) (by simp)
 have n3:=k3.next
 rw[jy,jv,aX,eU [St [],St (cB s),aH,St [],N .i64 0] h4 (by simp) rfl rfl rfl]
 have k4:ah [] M (M3.put (M.next + 1) (.row [St [],St (cB s),aH,St [],N .i64 0] false TL 0)):=(k2.trans k3).new _ (by omega)
 have h2:=bR (z:=.row [St [],St (cB s),aH,St [],N .i64 0] false TL 0) h2 (show M.next≠M.next + 1 by omega)
 have h4:(M3.put (M.next + 1) (.row [St [],St (cB s),aH,St [],N .i64 0] false TL 0)).heap (M.next + 1)=some (.row [St [],St (cB s),aH,St [],N .i64 0] false TL 0):=aV _
 have n4:M.next + 2≤(M3.put (M.next + 1) (.row [St [],St (cB s),aH,St [],N .i64 0] false TL 0)).next:=by rw[iG]; omega
 generalize M3.put (M.next + 1) (.row [St [],St (cB s),aH,St [],N .i64 0] false TL 0)=M4 at *
 have hdl:=Ai s
 refine bY (fun xs M'=>∃ g n r,xs=[St r]∧sI f s=some (g,n,r)∧r.length≤s.length∧n.length≤s.length∧ah [] M M'∧M.next + 2≤M'.next∧M'.heap M.next=some (.row lz false TL 0) ∧
   M'.heap (M.next + 1)=some (.row [St g,St n,aH,St [],N .i64 0] false TL 0)) ?_ ?_
 ·rintro _ M5 ⟨g,n,r,rfl,hhd,hrl,hnl,k5,n5,h2,h4⟩
  rw[hhd] at hN hS
  simp only at hN hS
  unfold AP at hN hS
  dsimp only[ae]
  have stop:∀ M',ah [] M5 M'→oD f r=none∨(∃ ps q,oD f r=some (ps,q)∧(gq f n && aK 58 q && fu [] (q.drop 1))=false)→j4 lz [] fun t=>aO M' (.ptr M.next 0) t 5 fun M1=>bg M1 (.ptr M.next 0) 5 fun res=>Q (.tup [res,Bo false]) M1:=by
   intro M' k' hc
   refine Kr (k'.aG h2 (by omega) (by simp)) rfl (hN _ ((k5.trans k').new _ (Nat.le_refl _)) ?_)
   rcases hc with hc | ⟨ps,q,hc,hc2⟩
   ·simp[hc]
   ·rw[hc]; simp only[hc2,Bool.false_eq_true,if_false]
  refine hp (by rw[k5.base,hM]) (by omega) ?_ ?_
  ·intro M6 k6 hpn
   rw[jy,jv,Aj,dh,Bool.not_false,aR]
   dsimp only
   rw[bu,aR]
   dsimp only
   rw[bu,aR]
   dsimp only
   rw[bu,bf]
   exact stop M6 k6 (.inl hpn)
  ·intro v M6 ps q k6 hps hsl hlen
   have h4:=k6.aG h4 (by omega) (by simp)
   have n6:=k6.next
   rw[jy,jv,Aj,dh,Bool.not_true,aZ,aX,ax h4 rfl]
   refine hg (by rw[k6.base,k5.base,hM]) (by omega) fun M7 k7=>?_
   have h4:=k7.aG h4 (by omega) (by simp)
   have n7:=k7.next
   have k67:=k6.trans k7
   rw[dh]
   dsimp only
   rw[bX]
   cases hgn:gq f n with
   | false =>
     rw[Bool.not_false,aR]
     dsimp only
     rw[bu,aR]
     dsimp only
     rw[bu,bf]
     exact stop M7 k67 (.inr ⟨ps,q,hps,by rw[hgn]; rfl⟩)
   | true =>
   rw[Bool.not_true,aZ]
   refine hh (by omega) ?_
   rw[dh]
   dsimp only
   rw[bX]
   cases h58:aK 58 q with
   | false =>
     rw[Bool.not_false,aR]
     dsimp only
     rw[bu,bf]
     exact stop M7 k67 (.inr ⟨ps,q,hps,by rw[hgn,h58]; rfl⟩)
   | true =>
   have hq1:=bC h58
   rw[Bool.not_true,aZ,show aC (St q) (some (N .i64 1)) none=some (St (q.drop 1)) from bi (l:=1) hq1 .i64,dL]
   refine hv (by rw[k7.base,k6.base,k5.base,hM]) (by simp; omega) fun M8 k8=>?_
   have h4:=k8.aG h4 (by omega) (by simp)
   have n8:=k8.next
   have k68:=k67.trans k8
   rw[dh]
   dsimp only
   rw[bX]
   cases hgv:fu [] (q.drop 1) with
   | false =>
     rw[Bool.not_false,bf]
     exact stop M8 k68 (.inr ⟨ps,q,hps,by rw[hgn,h58,hgv]; rfl⟩)
   | true =>
   have hs8:=hsl.keep (k7.trans k8) (by simp)
   rw[Bool.not_true,bI,dL,aX,eU [St g,St n,v,St [],N .i64 0] h4 (by simp) hs8.cells hs8.one rfl,dL]
   refine⟨rfl, ?_⟩
   rw[aX,eU [St g,St n,v,St (q.drop 1),N .i64 0] (aV _) (by simp) rfl rfl rfl,dN (n:=5) (aV _) rfl]
   have h2:=bR (z:=.row [St g,St n,v,St (q.drop 1),N .i64 0] false TL 0) (bR (z:=.row [St g,St n,v,St [],N .i64 0] false TL 0) (k68.aG h2 (by omega) (by simp)) (show M.next≠M.next + 1 by omega)) (show M.next≠M.next + 1 by omega)
   rw[eH (n:=5) h2 rfl rfl (by simp[AV.cells,gG,hs8.one]),dN (n:=5) (aV _) rfl]
   refine hS _ _ ⟨g,n,ps,q.drop 1⟩ ?_ (by rw[hps]; simp only[hgn,h58,hgv,Bool.and_self,if_true]) ⟨v,rfl, ?_⟩
   ·exact(((k5.trans k68).new _ (by omega)).new _ (by omega)).new _ (Nat.le_refl _)
   ·refine(hs8.keep (bs:=[M.next,M.next + 1]) ((((ah.refl _ _).put _ (.inr (by simp))).put _ (.inr (by simp))).put _ (.inr (by simp))) ?_).mono fun b hb=>by omega
    intro b hb h
    simp at hb
    omega
 ·intro J hJ
  refine hh (by simp; omega) ?_
  unfold sI at hJ hN
  cases h46:aK 46 (s.drop (wk s)) with
  | false =>
    rw[bI]
    simp only[h46,Bool.false_eq_true,if_false] at hJ
    exact hJ _ _ ⟨[],cB s,_,rfl,rfl,by simp,by simp[cB]; omega,k4,n4,h2,h4⟩
  | true =>
    simp only[h46,if_true] at hJ hN
    rw[bf,aX,ax h4 rfl,aX,eU [St (cB s),St (cB s),aH,St [],N .i64 0] h4 (by simp) rfl rfl rfl,aX,ax (aV _) rfl]
    have k5:ah [] M (M4.put (M.next + 1) (.row [St (cB s),St (cB s),aH,St [],N .i64 0] false TL 0)):=k4.new _ (by omega)
    have h2:=bR (z:=.row [St (cB s),St (cB s),aH,St [],N .i64 0] false TL 0) h2 (show M.next≠M.next + 1 by omega)
    have h4:(M4.put (M.next + 1) (.row [St (cB s),St (cB s),aH,St [],N .i64 0] false TL 0)).heap (M.next + 1)=some (.row [St (cB s),St (cB s),aH,St [],N .i64 0] false TL 0):=aV _
    have n5:M.next + 2≤(M4.put (M.next + 1) (.row [St (cB s),St (cB s),aH,St [],N .i64 0] false TL 0)).next:=n4
    generalize M4.put (M.next + 1) (.row [St (cB s),St (cB s),aH,St [],N .i64 0] false TL 0)=M5 at *
    refine hg (by rw[k5.base,hM]) (by simp[cB]; omega) fun M6 k6=>?_
    have h2:=k6.aG h2 (by omega) (by simp)
    have h4:=k6.aG h4 (by omega) (by simp)
    have n6:=k6.next
    rw[dh]
    cases hgn:gq f (cB s) with
    | false =>
      rw[Bool.not_false,bf]
      refine Kr h2 rfl (hN _ ((k5.trans k6).new _ (Nat.le_refl _)) (by simp[hgn]))
    | true =>
      simp only[hgn,if_true] at hJ
      rw[Bool.not_true,bI,show aC (St (s.drop (wk s))) (some (N .i64 1)) none=some (St ((s.drop (wk s)).drop 1)) from bi (l:=1) (bC h46) .i64,dL]
      refine hw (by rw[k6.base,k5.base,hM]) (by simp; omega) fun M7 k7=>?_
      have h2:=k7.aG h2 (by omega) (by simp)
      have h4:=k7.aG h4 (by omega) (by simp)
      have n7:=k7.next
      rw[Ig,jy,jv,aX,eU [St (cB s),St (cB ((s.drop (wk s)).drop 1)),aH,St [],N .i64 0] h4 (by simp) rfl rfl rfl]
      have Ri:=Ai ((s.drop (wk s)).drop 1)
      refine hJ _ _ ⟨cB s,cB ((s.drop (wk s)).drop 1),_,rfl,rfl,by simp,by simp[cB]; omega,((k5.trans k6).trans k7).new _ (by omega),by rw[iG]; omega,bR h2 (by omega),aV _⟩
inductive SK where
 | ok (l:List (Ln × Int))
 | bad (k:Int) (e:Int)
def kW (f:List UInt8→List UInt8) : List (List UInt8 × Int)→List (Ln × Int)→SK
 | [],acc=>.ok acc
 | (s,k) :: r,acc=>if s=[] then kW f r acc else if 912<s.length then .bad k 2 else match oz f s with
   | none=>.bad k 3
   | some L=>kW f r (acc++[(L,k)])
def Oy (s:List UInt8) : List (List UInt8 × Int):=(jk [] [] 1 (dw [] s)).1.zip (jk [] [] 1 (dw [] s)).2
def Mm (f:List UInt8→List UInt8) (s:List UInt8) : SK:=kW f (Oy s) []
theorem IC (acc:List (List UInt8)) (x:List UInt8) : (glue acc x).length=if acc≠[]∧isSp x=true then acc.length else acc.length + 1:=by
 unfold glue
 split
 ·rename_i h; simp
 ·rename_i h; simp
theorem Bw:∀ (xs:List (List UInt8)) (acc:List (List UInt8)) (ns:List Int) (k:Int),acc.length=ns.length→(jk acc ns k xs).1.length=(jk acc ns k xs).2.length
 | [],acc,ns,k,h=>h
 | x :: xs,acc,ns,k,h=>by
   rw[jk]
   refine Bw xs _ _ _ ?_
   rw[IC]
   split <;> simp[h]
theorem JK:∀ (xs:List (List UInt8)) (acc:List (List UInt8)) (ns:List Int) (k:Int),(jk acc ns k xs).1.length≤acc.length + xs.length
 | [],acc,ns,k=>by simp[jk]
 | x :: xs,acc,ns,k=>by
   rw[jk]
   have:=JK xs (glue acc x) (if acc≠[]∧isSp x=true then ns else ns++[k]) (IntKind.i64.wrap (k + 1))
   have h:=Ot acc x
   simp only[List.length_cons]
   omega
def qF (B:Base) (f:List UInt8→List UInt8) (c:ak) : Prop:=∀ {M:RM} {s:List UInt8} {Q:ai},M.base=B→s.length≤100000 →
 (∀ v M' ls,ah [] M M'→Mm f s=.ok ls→df gF M' v ls (fun b=>M.next≤b)→ls.length≤s.length + 1→Q (.tup [v,N .i64 0,N .i64 0]) M') →
 (∀ M' k e,ah [] M M'→Mm f s=.bad k e→Q (.tup [aH,N .i64 k,N .i64 e]) M')→c [St s] M Q
theorem GG {B:Base} {f:List UInt8→List UInt8} {T TI TL:Nat} {cu cr:ak} (hu:Cj T TI cu) (hr:Q9 B f cr) : qF B f fun args M Q=>∃ a0,args=[a0]∧rM cu cr TL a0 M Q:=by
 intro M s Q hM hl hS hN
 refine⟨_,rfl, ?_⟩
 unfold rM
 simp only[eu,dS]
 refine hu (by omega) fun v u M1 ho1 ho2 hd k1=>?_
 have s1:=ho1.Bp
 have s2:=ho2.Bp
 have hlen:=Bw (dw [] s) [] [] 1 rfl
 have hle:=JK (dw [] s) [] [] 1
 have hrl:=BQ s []
 simp only[List.length_nil,Nat.zero_add] at hle
 unfold Mm Oy at hS hN
 generalize (jk [] [] 1 (dw [] s)).1=xs at *
 generalize (jk [] [] 1 (dw [] s)).2=ns at *
 rw[jy,jv,fU.len s1]
 refine aS (fun m ys M3=>∃ (i:Nat) (w:AV) (acc:List (Ln × Int)),m=xs.length - i∧ys=[w,N .i64 i]∧i≤xs.length∧acc.length≤i∧ah [] M1 M3 ∧
   gD gF M3 M1.next TL w acc (fun b=>M1.next≤b∧b<M3.next∧b ∉ aI w)∧kW f ((xs.zip ns).drop i) acc=kW f (xs.zip ns) []) _
  ⟨0,aH,[],rfl,rfl,Nat.zero_le _,Nat.le_refl _,ah.refl _ _,.nil,rfl⟩ ?_
 rintro next m ys M3 hnext ⟨i,w,acc,rfl,rfl,hi,hal,hK,ho,hp⟩
 dsimp only[ae]
 rw[eD]
 refine bU (fun hlt=>?_) (fun hge=>?_)
 ·have hlt:i<xs.length:=by simpa using hlt
  have t1:=fU.keep s1 hK (by simp)
  have t2:=fU.keep s2 hK (by simp)
  have hz:(xs.zip ns).drop i=(xs[i],ns[i]'(by omega)) :: (xs.zip ns).drop (i + 1):=by
   rw[List.drop_eq_getElem_cons (by simp; omega)]; simp
  rw[hz,kW] at hp
  refine bY (fun zs M'=>∃ (w' : AV) (acc' : List (Ln × Int)),zs=[w']∧acc'.length≤i + 1∧ah [] M1 M'∧gD gF M' M1.next TL w' acc' (fun b=>M1.next≤b∧b<M'.next∧b ∉ aI w')∧kW f ((xs.zip ns).drop (i + 1)) acc'=kW f (xs.zip ns) []) ?_ ?_
  ·rintro _ M4 ⟨w',acc',rfl,h1,h2,h3,h4⟩
   dsimp only[ae]
   rw[ek,fB (by omega)]
   exact hnext _ _ _ (by omega) ⟨i + 1,w',acc',rfl,rfl,by omega,h1,h2,h3,h4⟩
  ·intro J hJ
   obtain⟨b,o,hb,hbm,hidx,hc⟩:=Sl.Nj (E:=fZ) t1 (i:Int) hlt
   have hc:=hc _ rfl
   rw[hidx,cZ]
   refine⟨_,hc, ?_⟩
   rw[NJ]
   obtain⟨b2,o2,hb2,hbm2,K5,hc2⟩:=Sl.Nj (E:=INT) t2 (i:Int) (show i<ns.length by omega)
   have hc2:=hc2 _ rfl
   generalize hxi:xs[i]=x at *
   generalize hni:ns[i]'(by omega)=k at *
   refine bU (fun he=>?_) (fun hne=>?_)
   ·have he:x=[]:=by simpa using he
    rw[if_pos he] at hp
    exact hJ _ _ ⟨w,acc,rfl,by omega,hK,ho,hp⟩
   ·have hne:¬ x=[]:=by simpa using hne
    rw[if_neg hne] at hp
    rw[bB,mf]
    refine bU (fun hg=>?_) (fun hg=>?_)
    ·have hg:912<x.length:=by simp at hg; omega
     rw[if_pos hg] at hp
     rw[K5,cZ]
     exact⟨_,hc2,hN M3 k 2 (k1.trans hK) hp.symm⟩
    ·have hg:¬ 912<x.length:=by simp at hg; omega
     rw[if_neg hg] at hp
     have hM3:M3.base=B:=by rw[hK.base,k1.base,hM]
     refine hr hM3 (by omega) ?_ ?_
     ·intro M4 k4 hrd
      rw[hrd] at hp
      rw[jy,jv,bn,eH (n:=5) (RM.aY _) rfl rfl rfl,dh,Bool.not_false,bf,K5,cZ]
      have kk:ah [] M3 ((M4.push (.row lz false TL 0)).put M4.next (.row lz false TL 0)):=(k4.push _).new _ k4.next
      exact⟨_,(kk.cell hb2 (by simp)).trans hc2,hN _ k 3 ((k1.trans hK).trans kk) hp.symm⟩
     ·intro cs M4 L k4 hrd hrel
      rw[hrd] at hp
      obtain⟨pv,rfl,hpv⟩:=hrel
      simp only at hpv hp
      have TW:([St L.g,St L.n,pv,St L.v,N .i64 0] : List AV).all oneCell=true:=by simp[gG,hpv.one]
      have Ur:([St L.g,St L.n,pv,St L.v,N .i64 k] : List AV).all oneCell=true:=by simp[gG,hpv.one]
      rw[jy,jv,bn,eH (n:=5) (x:=.agg [St L.g,St L.n,pv,St L.v,N .i64 0]) (l:=lz) (RM.aY _) rfl rfl TW,dh,Bool.not_true,bI,K5,cZ]
      have k45:ah [] M4 (((M4.push (.row lz false TL 0)).put M4.next (.row [St L.g,St L.n,pv,St L.v,N .i64 0] false TL 0)).put M4.next (.row [St L.g,St L.n,pv,St L.v,N .i64 k] false TL 0)) :=
       (((ah.refl _ _).push _).new _ (Nat.le_refl _)).new _ (Nat.le_refl _)
      have k4' : ah [] M3 ((M4.push (.row lz false TL 0)).put M4.next (.row [St L.g,St L.n,pv,St L.v,N .i64 0] false TL 0)):=(k4.push _).new _ k4.next
      refine⟨_,(k4'.cell hb2 (by simp)).trans hc2, ?_⟩
      rw[aX,eU [St L.g,St L.n,pv,St L.v,N .i64 k] (aV _) (by simp[AV.cells]) rfl rfl rfl,dN (n:=5) (aV _) rfl,su (x:=.agg [St L.g,St L.n,pv,St L.v,N .i64 k]) (size:=5) rfl Ur rfl,bn]
      have n5:(((M4.push (.row lz false TL 0)).put M4.next (.row [St L.g,St L.n,pv,St L.v,N .i64 0] false TL 0)).put M4.next (.row [St L.g,St L.n,pv,St L.v,N .i64 k] false TL 0)).next=M4.next + 1:=rfl
      have n4:=k4.next
      have n3:=hK.next
      have hvl:=ho.blk
      let S' : Nat→Prop:=fun b=>M1.next≤b∧b<M4.next + 1∧b ∉ aI w
      have ho5:=(ho.keep (k4.trans k45) (by simp) (by simp)).mono (S':=S') fun b h=>⟨h.1,by omega,h.2.2⟩
      have hel:=(show gF.rel _ _ (L,k) _ from⟨pv,rfl,(hpv.lt.keep k45 (by simp)).mono (S':=S') fun b h=>⟨by omega,by omega,fun hb=>by have:=(hvl b hb).2; omega⟩⟩)
      refine gD.app (R:=gF) ho5 hel (show M1.next≤M4.next + 1 by omega) (by decide) (fun b hb h=>h.2.2 hb) (fun b h=>(show b<M4.next + 1 from h.2.1)) (by omega) (by omega) ?_
      intro w' M6 o6 k6 n6 _ hd6
      have n6:M4.next + 1≤M6.next:=n6
      refine hJ _ _ ⟨w',acc++[(L,k)],rfl,by simp; omega, ?_,o6.mono fun b h=>⟨h.1,by have:=h.2.1; omega,fun hb=>hd6 b hb h⟩,hp⟩
      exact(hK.trans (k4.trans k45)).jP k6 fun c hc=>.inl (hvl c hc).1
 ·have hge:i=xs.length:=by simp at hge; omega
  subst hge
  rw[List.drop_of_length_le (by simp; omega)] at hp
  refine hS w M3 acc (k1.trans hK) hp.symm ((ho.mono (fun b h=>h.1)).MN (fun b hb _=>hb) |>.mono fun b hb=>Nat.le_trans k1.next hb) (by omega)
def Rh (c:ak) : Prop:=∀ {M:RM} {cs:List AV} {L:Ln} {k:Int} {S:Nat→Prop} {Q:ai},gF.rel M cs (L,k) S→L.ps.length≤1000000000 →
 (∀ cs' M',ah [] M M'→gF.rel M' cs' (L,k) (fun b=>S b∨M.next≤b)→Q (.agg cs') M')→c [.agg cs] M Q
theorem PT {T1 T2 T3:Nat} : Rh fun args M Q=>∃ a0,args=[a0]∧wX T1 T2 T3 a0 M Q:=by
 intro M cs L k S Q hrel hpl hQ
 refine⟨_,rfl, ?_⟩
 obtain⟨v,rfl,hv⟩:=hrel
 simp only at hv
 have hv0:=hv
 have hall:([St L.g,St L.n,v,St L.v,N .i64 k] : List AV).all oneCell=true:=by simp[gG,hv.one]
 unfold wX
 rw[jL hall (by simp),bn,bn]
 have h1:((M.push (.row [St L.g,St L.n,v,St L.v,N .i64 k] false T1 0)).push (.row lz false T2 0)).heap M.next=some (.row [St L.g,St L.n,v,St L.v,N .i64 k] false T1 0):=iI (RM.aY _) (by simp[RM.push])
 have h2:((M.push (.row [St L.g,St L.n,v,St L.v,N .i64 k] false T1 0)).push (.row lz false T2 0)).heap (M.next + 1)=some (.row lz false T2 0):=RM.aY _
 have kk:ah [] M ((M.push (.row [St L.g,St L.n,v,St L.v,N .i64 k] false T1 0)).push (.row lz false T2 0)):=((ah.refl _ _).push _).push _
 have nn:((M.push (.row [St L.g,St L.n,v,St L.v,N .i64 k] false T1 0)).push (.row lz false T2 0)).next=M.next + 2:=rfl
 rw[dK]
 generalize (M.push (.row [St L.g,St L.n,v,St L.v,N .i64 k] false T1 0)).push (.row lz false T2 0)=M1 at *
 rw[aX,ax h1 rfl,aX,ax h1 rfl,aX,ax h1 rfl,aX,ax h1 rfl,oL]
 refine⟨[St L.g,St L.n,aH,St L.v,N .i64 k],rfl, ?_⟩
 rw[bn,eH (n:=5) (l:=lz) (RM.aY _) rfl rfl rfl]
 have h1:((M1.push (.row lz false T2 0)).put M1.next (.row [St L.g,St L.n,aH,St L.v,N .i64 k] false T2 0)).heap M.next=some (.row [St L.g,St L.n,v,St L.v,N .i64 k] false T1 0):=bR (iI h1 (by omega)) (by omega)
 have h2:((M1.push (.row lz false T2 0)).put M1.next (.row [St L.g,St L.n,aH,St L.v,N .i64 k] false T2 0)).heap (M.next + 1)=some (.row lz false T2 0):=bR (iI h2 (by omega)) (by omega)
 have h3:((M1.push (.row lz false T2 0)).put M1.next (.row [St L.g,St L.n,aH,St L.v,N .i64 k] false T2 0)).heap (M.next + 2)=some (.row [St L.g,St L.n,aH,St L.v,N .i64 k] false T2 0):=by rw[← nn]; exact aV _
 have kk:ah [] M ((M1.push (.row lz false T2 0)).put M1.next (.row [St L.g,St L.n,aH,St L.v,N .i64 k] false T2 0)):=(kk.push _).new _ (by omega)
 have n3:((M1.push (.row lz false T2 0)).put M1.next (.row [St L.g,St L.n,aH,St L.v,N .i64 k] false T2 0)).next=M.next + 3:=by rw[iG,dK,nn]
 change bQ _ _ ((M1.push (.row lz false T2 0)).put M1.next (.row [St L.g,St L.n,aH,St L.v,N .i64 k] false T2 0))
 generalize (M1.push (.row lz false T2 0)).put M1.next (.row [St L.g,St L.n,aH,St L.v,N .i64 k] false T2 0)=M2 at *
 rw[nn]
 refine aS (fun m ys M3=>∃ (i:Nat) (w:AV),m=L.ps.length - i∧ys=[N .i64 i]∧i≤L.ps.length∧ah [] M M3∧M.next + 3≤M3.next∧M3.heap M.next=some (.row [St L.g,St L.n,v,St L.v,N .i64 k] false T1 0) ∧
   M3.heap (M.next + 1)=some (.row lz false T2 0)∧M3.heap (M.next + 2)=some (.row [St L.g,St L.n,w,St L.v,N .i64 k] false T2 0)∧gD iT M3 (M.next + 3) T3 w (L.ps.take i) (fun b=>S b∧b<M.next)) _
  ⟨0,aH,rfl,rfl,Nat.zero_le _,kk,by omega,h1,h2,h3,.nil⟩ ?_
 rintro next m ys M3 hnext ⟨i,w,rfl,rfl,hi,hK,n3,h1,h2,h3,ho⟩
 have hv3:=hv0.lt.keep hK (by simp)
 dsimp only[ae]
 rw[aX,ax h1 rfl,hv3.len,eD]
 refine bU (fun hlt=>?_) (fun hge=>?_)
 ·have hlt:i<L.ps.length:=by simpa using hlt
  rw[aX,ax h3 rfl,aX,ax h1 rfl]
  obtain⟨b,o,cs,hb,hbm,hidx,hld,hrel⟩:=df.at hv3 2 (i:Int) hlt
  obtain⟨ds,rfl,pv,rfl,hpv⟩:=hrel
  rw[hidx,eT,cZ]
  refine⟨St L.ps[i].1,fe hld (j:=0) rfl, ?_⟩
  rw[aX,ax h1 rfl,hidx,eT,cZ]
  refine⟨pv,fe hld (j:=1) rfl, ?_⟩
  rw[oL]
  refine⟨[St L.ps[i].1,pv],Q7 rfl rfl hpv.known hpv.cells, ?_⟩
  rw[su (x:=.agg [St L.ps[i].1,pv]) (size:=2) rfl (by simp[gG,AV.cells,hpv.one]) rfl,PS]
  have hvl:=ho.blk
  refine gD.app (R:=iT) (a:=L.ps[i]) ho (u6 hpv) n3 (by decide) (fun b hb h=>by have:=hvl b hb; omega) (fun b h=>by omega) (by simp; omega) (by simp; omega) ?_
  intro w' M4 o4 k4 n4 _ _
  have g3:=k4.aG h3 (by omega) (fun h=>by have:=hvl _ h; omega)
  rw[aX,eU [St L.g,St L.n,w',St L.v,N .i64 k] g3 (by simp) o4.cells o4.one rfl,ek,fB (by omega)]
  refine hnext _ _ _ (by omega) ⟨i + 1,w',rfl,rfl,by omega, ?_,by rw[iG]; omega, ?_, ?_,aV _, ?_⟩
  ·exact(hK.jP k4 fun c hc=>.inl (by have:=hvl c hc; omega)).new _ (by omega)
  ·exact bR (k4.aG h1 (by omega) (fun h=>by have:=hvl _ h; omega)) (by omega)
  ·exact bR (k4.aG h2 (by omega) (fun h=>by have:=hvl _ h; omega)) (by omega)
  ·rw[List.take_succ_eq_append_getElem hlt]
   refine o4.keep (bs:=[M.next + 2]) ((ah.refl _ _).put _ (.inr (by simp))) (fun b hb h=>by simp at hb; omega) fun b hb h=>?_
   have:=o4.blk b hb
   simp at h; omega
 ·have hge:i=L.ps.length:=by simp at hge; omega
  subst hge
  rw[List.take_length] at ho
  have hw:=ho.one
  rw[dN (n:=5) h3 rfl,eH (n:=5) (x:=.agg [St L.g,St L.n,w,St L.v,N .i64 k]) h2 rfl rfl (by simp[gG,AV.cells,hw]),dN (n:=5) (aV _) rfl]
  refine hQ _ _ (hK.new _ (by omega)) ⟨w,rfl, ?_⟩
  have hk1:=ho.keep (bs:=[M.next + 1]) ((ah.refl _ M3).put (b:=M.next + 1) (.row (AV.agg [St L.g,St L.n,w,St L.v,N .i64 k]).cells false T2 0) (.inr (by simp))) (fun b hb h=>by simp at hb; omega) (fun b hb h=>by have:=ho.blk b hb; simp at h; omega)
  exact(hk1.mono (S':=fun b=>S b∨M.next≤b) fun b h=>.inl h.1).MN fun b h1 _=>.inr (by omega)
def F8 (c:ak) : Prop:=∀ {M:RM} {cs ds:List AV} {L L' : Ln} {k k' : Int} {S S' : Nat→Prop} {Q:ai},gF.rel M cs (L,k) S→gF.rel M ds (L',k') S'→L.ps.length≤1000000000→(∀ p∈L.ps,p.2.length≤1000000000) →
 (∀ M',ah [] M M'→Q (Bo (decide (L=L'))) M')→c [.agg cs,.agg ds] M Q
theorem take_eq_all {α:Type} {xs ys:List α} (h:xs.length=ys.length) (ht:xs.take xs.length=ys.take xs.length) : xs=ys:=by
 rw[List.take_length,h,List.take_length] at ht; exact ht
theorem xZ {α:Type} {xs ys:List α} {i:Nat} (h1:i<xs.length) (h2:i<ys.length) (h:xs.take i=ys.take i) (he:xs[i]=ys[i]) : xs.take (i + 1)=ys.take (i + 1):=by
 rw[List.take_succ_eq_append_getElem h1,List.take_succ_eq_append_getElem h2,h,he]
theorem MZ {T:Nat} : F8 fun args M Q=>∃ a0 a1,args=[a0,a1]∧q9 T a0 a1 M Q:=by
 intro M cs ds L L' k k' S S' Q hr1 hr2 hpl hpv hQ
 refine⟨_,_,rfl, ?_⟩
 obtain⟨v,rfl,hv⟩:=hr1
 obtain⟨v',rfl,hv'⟩:=hr2
 simp only at hv hv'
 have hall:([St L.g,St L.n,v,St L.v,N .i64 k] : List AV).all oneCell=true:=by simp[gG,hv.one]
 have SA:([St L'.g,St L'.n,v',St L'.v,N .i64 k'] : List AV).all oneCell=true:=by simp[gG,hv'.one]
 unfold q9
 simp only[eu,Py]
 rw[jL hall (by simp),bn,jL SA (by simp),bn]
 have h1:((M.push (.row [St L.g,St L.n,v,St L.v,N .i64 k] false T 0)).push (.row [St L'.g,St L'.n,v',St L'.v,N .i64 k'] false T 0)).heap M.next=some (.row [St L.g,St L.n,v,St L.v,N .i64 k] false T 0):=iI (RM.aY _) (by simp[RM.push])
 have h2:((M.push (.row [St L.g,St L.n,v,St L.v,N .i64 k] false T 0)).push (.row [St L'.g,St L'.n,v',St L'.v,N .i64 k'] false T 0)).heap (M.next + 1)=some (.row [St L'.g,St L'.n,v',St L'.v,N .i64 k'] false T 0):=RM.aY _
 have kk:ah [] M ((M.push (.row [St L.g,St L.n,v,St L.v,N .i64 k] false T 0)).push (.row [St L'.g,St L'.n,v',St L'.v,N .i64 k'] false T 0)):=((ah.refl _ _).push _).push _
 rw[dK]
 generalize (M.push (.row [St L.g,St L.n,v,St L.v,N .i64 k] false T 0)).push (.row [St L'.g,St L'.n,v',St L'.v,N .i64 k'] false T 0)=M1 at *
 have g1:=hv.keep kk (by simp)
 have g2:=hv'.keep kk (by simp)
 have no:L≠L'→Q (Bo false) M1:=fun h=>by have:=hQ M1 kk; rwa [decide_eq_false h] at this
 rw[aX,ax h1 rfl,aX,ax h2 rfl,jR]
 have e2:M1.heap (M.next + 1)=_:=h2
 by_cases hg:L.g=L'.g
 ·have b1:(L.g != L'.g)=false:=by simp[hg]
  rw[b1,aZ,aX,ax h1 rfl,aX,ax h2 rfl,jR]
  dsimp only
  rw[bX]
  by_cases hn:L.n=L'.n
  ·have b1:(L.n != L'.n)=false:=by simp[hn]
   rw[b1,aZ,aX,ax h1 rfl,aX,ax h2 rfl,jR]
   dsimp only
   rw[bX]
   by_cases hva:L.v=L'.v
   ·have b1:(L.v != L'.v)=false:=by simp[hva]
    rw[b1,aZ,aX,ax h1 rfl,g1.len,aX,ax h2 rfl,g2.len,gI]
    dsimp only
    rw[bX]
    by_cases hln:L.ps.length=L'.ps.length
    ·have b1:((L.ps.length:Int) != (L'.ps.length:Int))=false:=by simp[hln]
     rw[b1,bI]
     refine aS (fun m ys M3=>M3=M1∧∃ i:Nat,m=L.ps.length - i∧ys=[N .i64 i]∧i≤L.ps.length∧L.ps.take i=L'.ps.take i) _
      ⟨rfl,0,rfl,rfl,Nat.zero_le _,by simp⟩ ?_
     rintro next m ys M3 hnext ⟨rfl,i,rfl,rfl,hi,ht⟩
     dsimp only[ae]
     rw[aX,ax h1 rfl,g1.len,eD]
     refine bU (fun hlt=>?_) (fun hge=>?_)
     ·have hlt:i<L.ps.length:=by simpa using hlt
      obtain⟨b,o,c1,hb,hbm,hidx,hld,hrel⟩:=df.at g1 2 (i:Int) hlt
      obtain⟨_,rfl,pv,rfl,hpv1⟩:=hrel
      obtain⟨b',o',c2,hb',hbm',K9,QO,hrel'⟩:=df.at g2 2 (i:Int) (show i<L'.ps.length by omega)
      obtain⟨_,rfl,pv',rfl,hpv2⟩:=hrel'
      have hc0:M3.cell b (o + 0)=some (St L.ps[i].1):=fe hld (j:=0) rfl
      have hc1:M3.cell b (o + 1)=some pv:=fe hld (j:=1) rfl
      have hc0' : M3.cell b' (o' + 0)=some (St (L'.ps[i]'(by omega)).1):=fe QO (j:=0) rfl
      have hc1' : M3.cell b' (o' + 1)=some pv':=fe QO (j:=1) rfl
      have hm:=hpv L.ps[i] (List.getElem_mem hlt)
      have noi:L.ps[i]≠L'.ps[i]'(by omega)→L≠L':=fun h e=>by subst e; exact h rfl
      generalize hp1:L.ps[i]=p at *
      generalize hp2:L'.ps[i]'(by omega)=p' at *
      rw[aX,ax h1 rfl,hidx,eT,cZ]
      refine⟨_,hc0, ?_⟩
      rw[aX,ax h2 rfl,K9,eT,cZ]
      refine⟨_,hc0', ?_⟩
      rw[jR]
      by_cases he:p.1=p'.1
      ·have b1:(p.1 != p'.1)=false:=by simp[he]
       rw[b1,Nv,aX,ax h1 rfl,hidx,eT,cZ]
       refine⟨_,hc1, ?_⟩
       rw[hpv1.len,aX,ax h2 rfl,K9,eT,cZ]
       refine⟨_,hc1', ?_⟩
       rw[hpv2.len,gI]
       dsimp only
       rw[bX]
       by_cases hl2:p.2.length=p'.2.length
       ·have b1:((p.2.length:Int) != (p'.2.length:Int))=false:=by simp[hl2]
        rw[b1,bI]
        refine aS (fun m ys M4=>M4=M3∧∃ j:Nat,m=p.2.length - j∧ys=[N .i64 j]∧j≤p.2.length∧p.2.take j=p'.2.take j) _
         ⟨rfl,0,rfl,rfl,Nat.zero_le _,by simp⟩ ?_
        rintro wV m ys M4 iF ⟨rfl,j,rfl,rfl,hj,ht2⟩
        dsimp only[ae]
        rw[aX,ax h1 rfl,hidx,eT,cZ]
        refine⟨_,hc1, ?_⟩
        rw[hpv1.len,eD]
        refine bU (fun hlt2=>?_) (fun pz=>?_)
        ·have hlt2:j<p.2.length:=by simpa using hlt2
         rw[aX,ax h1 rfl,hidx,eT,cZ]
         refine⟨_,hc1, ?_⟩
         obtain⟨b3,o3,_,_,Sq,hc3⟩:=Sl.Nj (E:=fZ) hpv1.sl (j:Int) hlt2
         have hc3:=hc3 _ rfl
         rw[Sq,cZ]
         refine⟨_,hc3, ?_⟩
         rw[aX,ax h2 rfl,K9,eT,cZ]
         refine⟨_,hc1', ?_⟩
         obtain⟨b4,o4,_,_,Sa,hc4⟩:=Sl.Nj (E:=fZ) hpv2.sl (j:Int) (show j<p'.2.length by omega)
         have hc4:=hc4 _ rfl
         rw[Sa,cZ]
         refine⟨_,hc4, ?_⟩
         rw[jR]
         refine bU (fun h=>?_) (fun h=>?_)
         ·refine no (noi fun e=>?_)
          subst e
          simp at h
         ·have h:p.2[j]=p'.2[j]'(by omega):=by simpa using h
          rw[ek,fB (by omega)]
          exact iF _ _ _ (by omega) ⟨rfl,j + 1,rfl,rfl,by omega,xZ hlt2 (by omega) ht2 h⟩
        ·have pz:j=p.2.length:=by simp at pz; omega
         subst pz
         have:=take_eq_all hl2 ht2
         rw[ek,fB (by omega)]
         exact hnext _ _ _ (by omega) ⟨rfl,i + 1,rfl,rfl,by omega,xZ hlt (by omega) ht (by rw[hp1,hp2]; exact Prod.ext he this)⟩
       ·have b1:((p.2.length:Int) != (p'.2.length:Int))=true:=by simp; omega
        rw[b1,bf]
        exact no (noi fun e=>hl2 (by rw[e]))
      ·have b1:(p.1 != p'.1)=true:=by simp[he]
       rw[b1,MW]
       dsimp only
       rw[bu,bf]
       exact no (noi fun e=>he (by rw[e]))
     ·have hge:i=L.ps.length:=by simp at hge; omega
      subst hge
      have hps:=take_eq_all hln ht
      have:=hQ M3 kk
      rwa [decide_eq_true (show L=L' by
       obtain⟨a1,a2,a3,a4⟩:=L
       obtain⟨b1,b2,b3,b4⟩:=L'
       simp only at hg hn hva hps
       rw[hg,hn,hva,hps])] at this
    ·have b1:((L.ps.length:Int) != (L'.ps.length:Int))=true:=by simp; omega
     rw[b1,bf]
     exact no fun e=>hln (by rw[e])
   ·have b1:(L.v != L'.v)=true:=by simp[hva]
    rw[b1,aR]
    dsimp only
    rw[bu,bf]
    exact no fun e=>hva (by rw[e])
  ·have b1:(L.n != L'.n)=true:=by simp[hn]
   rw[b1,aR]
   dsimp only
   rw[bu,aR]
   dsimp only
   rw[bu,bf]
   exact no fun e=>hn (by rw[e])
 ·have b1:(L.g != L'.g)=true:=by simp[hg]
  rw[b1,aR]
  dsimp only
  rw[bu,aR]
  dsimp only
  rw[bu,aR]
  dsimp only
  rw[bu,bf]
  exact no fun e=>hg (by rw[e])
theorem Gb (f:List UInt8→List UInt8) (N:Nat) : ∀ (k:Nat) (s:List UInt8) (acc ps:List jr) (r:List UInt8),s.length≤N→(∀ p∈acc,p.2.length≤N)→kZ f k s acc=some (ps,r)→ps.length + r.length≤acc.length + s.length∧∀ p∈ps,p.2.length≤N
 | 0,s,acc,ps,r,_,_,h=>by cases h
 | k + 1,s,acc,ps,r,hN,ha,h=>by
   rw[kZ] at h
   split at h
   ·rename_i h59
    have hpos:=bC h59
    split at h
    ·rename_i hc
     simp only[Bool.and_eq_true] at hc
     have h61:=bC hc.2
     generalize hk:((s.drop 1).drop (wk (s.drop 1))).length=kk at h
     cases hv:gP kk ((s.drop 1).drop (wk (s.drop 1))) [] with
     | none=>rw[hv] at h; cases h
     | some p =>
       obtain⟨vs,s3⟩:=p
       rw[hv] at h
       have h2:=oV _ _ _ _ _ h61 hv
       simp at h2
       simp only at h
       have:=Gb f N k s3 _ ps r (by omega) (fun p hp=>by
        rcases List.mem_append.1 hp with hp | hp
        ·exact ha p hp
        ·simp at hp; subst hp; simp; omega) h
       refine⟨?_,this.2⟩
       have h3:=this.1
       simp at h3
       omega
    ·cases h
   ·cases h
    exact⟨Nat.le_refl _,ha⟩
def Small (N:Nat) (L:Ln) : Prop:=L.ps.length≤N∧∀ p∈L.ps,p.2.length≤N
theorem Bv {f:List UInt8→List UInt8} {s:List UInt8} {L:Ln} {N:Nat} (hN:s.length≤N) (h:oz f s=some L) : Small N L:=by
 unfold oz at h
 split at h
 ·cases hh:sI f s with
  | none=>rw[hh] at h; cases h
  | some x =>
    obtain⟨g,n,r⟩:=x
    rw[hh] at h
    simp only[AP] at h
    have hr:r.length≤N:=by
     unfold sI at hh
     split at hh
     ·split at hh
      ·cases hh; simp; omega
      ·cases hh
     ·cases hh; simp; omega
    unfold oD at h
    cases hp:kZ f (r.length + 1) r [] with
    | none=>rw[hp] at h; cases h
    | some y =>
      obtain⟨ps,q⟩:=y
      rw[hp] at h
      simp only at h
      split at h
      ·cases h
       have:=Gb f N _ r [] ps q hr (by simp) hp
       refine⟨?_,this.2⟩
       have h3:=this.1
       simp at h3 ⊢; omega
      ·cases h
 ·cases h
theorem qE {f:List UInt8→List UInt8} : ∀ (l:List (List UInt8 × Int)) (acc ls:List (Ln × Int)),(∀ x∈acc,Small 912 x.1)→kW f l acc=.ok ls→∀ x∈ls,Small 912 x.1
 | [],acc,ls,ha,h=>by cases h; exact ha
 | (s,k) :: r,acc,ls,ha,h=>by
   rw[kW] at h
   split at h
   ·exact qE r acc ls ha h
   ·split at h
    ·cases h
    ·cases hr:oz f s with
     | none=>rw[hr] at h; cases h
     | some L =>
       rw[hr] at h
       refine qE r _ ls (fun x hx=>?_) h
       rcases List.mem_append.1 hx with hx | hx
       ·exact ha x hx
       ·simp at hx; subst hx
        exact Bv (by omega) hr
set_option maxRecDepth 10000
theorem FC:qU fun args M Q=>∃ a0,args=[a0]∧pK a0 M Q:=by
 intro M x Q hQ
 refine⟨_,rfl, ?_⟩
 unfold pK
 simp only[eu]
 unfold bO at hQ
 by_cases h9:x.toNat=9
 ·have e9:((x.toNat:Int) == 9)=true:=by simp[h9]
  simp only[go_sem,e9]
  simpa [h9] using hQ
 ·have e9:((x.toNat:Int) == 9)=false:=by simp; omega
  by_cases h1:32≤x.toNat
  ·have e1:decide ((x.toNat:Int) ≥ 32)=true:=by simp; omega
   by_cases h2:x.toNat=127
   ·have e2:((x.toNat:Int) != 127)=false:=by simp[h2]
    simp only[go_sem,e9,e1,e2]
    simpa [h2] using hQ
   ·have e2:((x.toNat:Int) != 127)=true:=by simp; omega
    simp only[go_sem,e9,e1,e2]
    simpa [h1,h2,h9] using hQ
  ·have e1:decide ((x.toNat:Int) ≥ 32)=false:=by simp; omega
   simp only[go_sem,e9,e1]
   simpa [h1,h9] using hQ
def iZ (c:UInt8) : Bool:=(decide (97≤c.toNat) && decide (c.toNat≤122)) || (decide (65≤c.toNat) && decide (c.toNat≤90)) || (decide (48≤c.toNat) && decide (c.toNat≤57)) || decide (c.toNat=45)
def wn (s:List UInt8) : Nat:=(s.takeWhile iZ).length
theorem F3 (s:List UInt8) : wn s≤s.length:=by
 unfold wn
 induction s with
 | nil=>simp
 | cons c s ih =>
   rw[List.takeWhile_cons]
   split <;> simp <;> omega
def Hy (c:ak) : Prop:=∀ {M:RM} {s:List UInt8} {Q:ai},s.length≤1000000000→Q (N .i64 ((wn s:Nat) : Int)) M→c [St s] M Q
theorem j3 {α:Type} {p:α→Bool} : ∀ {s:List α} {i:Nat},i≤s.length→(s.take i).all p=true→(i=s.length∨∃ c,s[i]?=some c∧p c=false)→(s.takeWhile p).length=i
 | [],i,h,_,_=>by simp at h; simp[h]
 | c :: s,0,_,_,h=>by
   rcases h with h | ⟨d,h1,h2⟩
   ·simp at h
   ·simp at h1; subst h1
    simp[List.takeWhile_cons,h2]
 | c :: s,i + 1,h,ha,hs=>by
   simp only[List.take_succ_cons,List.all_cons,Bool.and_eq_true] at ha
   rw[List.takeWhile_cons,if_pos ha.1,List.length_cons,j3 (i:=i) (by simpa using h) ha.2 (by simpa using hs)]
theorem Io:Hy fun args M Q=>∃ a0,args=[a0]∧rW a0 M Q:=by
 intro M s Q hl hQ
 refine⟨_,rfl, ?_⟩
 unfold rW
 simp only[eu]
 refine aS (fun m ys M3=>M3=M∧∃ i:Nat,m=s.length - i∧ys=[N .i64 i]∧i≤s.length∧(s.take i).all iZ=true) _ ⟨rfl,0,rfl,rfl,Nat.zero_le _,rfl⟩ ?_
 rintro next m ys M3 hnext ⟨rfl,i,rfl,rfl,hi,ha⟩
 dsimp only[ae]
 rw[bB,eD]
 by_cases hlt:i<s.length
 ·have e1:decide ((i:Int)<(s.length:Int))=true:=by simpa using hlt
  have hg:s[i]?=some s[i]:=List.getElem?_eq_getElem hlt
  have htk:=List.take_succ_eq_append_getElem hlt
  generalize s[i]=c at *
  have w1:=fB (show i<9223372036854775807 by omega)
  have fin:iZ c=true→next [N .i64 ((i + 1:Nat) : Int)] M3:=fun h=>hnext _ _ _ (by omega) ⟨rfl,i + 1,rfl,rfl,by omega,by rw[htk,List.all_append,ha]; simp[h]⟩
  have stop:iZ c=false→Q (N .i64 (i:Int)) M3:=fun h=>by
   have:=j3 hi ha (.inr ⟨c,hg,h⟩)
   have h2:=hQ
   unfold wn at h2
   rw[this] at h2
   exact h2
  have h8:=qx c
  have idx:∀ K:AV→Prop,bL (St s) (N .i64 (i:Int)) K=K (N .u8 c.toNat):=fun K=>by
   rw[Jo]
   apply propext
   constructor
   ·rintro⟨_,b,hb,hk⟩; rw[Int.toNat_natCast,hg] at hb; cases hb; exact hk
   ·intro hk; exact⟨by omega,c,by rw[Int.toNat_natCast]; exact hg,hk⟩
  rw[e1]
  by_cases a:97≤c.toNat
  ·have ea:decide ((c.toNat:Int) ≥ 97)=true:=by simp; omega
   by_cases b:c.toNat≤122
   ·have eb:decide ((c.toNat:Int)≤122)=true:=by simp; omega
    simp only[fT,bz,aR,bT,aZ,bu,bX,bf,bI,idx,dE,gJ,cz,ea,eb]
    rw[ek,w1]
    exact fin (by simp[iZ,a,b])
   ·have eb:decide ((c.toNat:Int)≤122)=false:=by simp; omega
    have e2:decide ((c.toNat:Int) ≥ 65)=true:=by simp; omega
    have e3:decide ((c.toNat:Int)≤90)=false:=by simp; omega
    have e4:decide ((c.toNat:Int) ≥ 48)=true:=by simp; omega
    have e5:decide ((c.toNat:Int)≤57)=false:=by simp; omega
    have e6:((c.toNat:Int) == 45)=false:=by simp; omega
    simp only[fT,bz,aR,bT,aZ,bu,bX,bf,bI,idx,dE,gJ,cz,ea,eb,e2,e3,e4,e5,e6]
    exact stop (by simp[iZ]; omega)
  ·have ea:decide ((c.toNat:Int) ≥ 97)=false:=by simp; omega
   by_cases b:65≤c.toNat
   ·have eb:decide ((c.toNat:Int) ≥ 65)=true:=by simp; omega
    by_cases d:c.toNat≤90
    ·have ed:decide ((c.toNat:Int)≤90)=true:=by simp; omega
     simp only[fT,bz,aR,bT,aZ,bu,bX,bf,bI,idx,dE,gJ,cz,ea,eb,ed]
     rw[ek,w1]
     exact fin (by simp[iZ,b,d])
    ·have ed:decide ((c.toNat:Int)≤90)=false:=by simp; omega
     have e4:decide ((c.toNat:Int) ≥ 48)=true:=by simp; omega
     have e5:decide ((c.toNat:Int)≤57)=false:=by simp; omega
     have e6:((c.toNat:Int) == 45)=false:=by simp; omega
     simp only[fT,bz,aR,bT,aZ,bu,bX,bf,bI,idx,dE,gJ,cz,ea,eb,ed,e4,e5,e6]
     exact stop (by simp[iZ]; omega)
   ·have eb:decide ((c.toNat:Int) ≥ 65)=false:=by simp; omega
    by_cases d:48≤c.toNat
    ·have ed:decide ((c.toNat:Int) ≥ 48)=true:=by simp; omega
     by_cases g:c.toNat≤57
     ·have eg:decide ((c.toNat:Int)≤57)=true:=by simp; omega
      simp only[fT,bz,aR,bT,aZ,bu,bX,bf,bI,idx,dE,gJ,cz,ea,eb,ed,eg]
      rw[ek,w1]
      exact fin (by simp[iZ,d,g])
     ·have eg:decide ((c.toNat:Int)≤57)=false:=by simp; omega
      have e6:((c.toNat:Int) == 45)=false:=by simp; omega
      simp only[fT,bz,aR,bT,aZ,bu,bX,bf,bI,idx,dE,gJ,cz,ea,eb,ed,eg,e6]
      exact stop (by simp[iZ]; omega)
    ·have ed:decide ((c.toNat:Int) ≥ 48)=false:=by simp; omega
     by_cases g:c.toNat=45
     ·have eg:((c.toNat:Int) == 45)=true:=by simp; omega
      simp only[fT,bz,aR,bT,aZ,bu,bX,bf,bI,idx,dE,gJ,cz,ea,eb,ed,eg]
      rw[ek,w1]
      exact fin (by simp[iZ,g])
     ·have eg:((c.toNat:Int) == 45)=false:=by simp; omega
      simp only[fT,bz,aR,bT,aZ,bu,bX,bf,bI,idx,dE,gJ,cz,ea,eb,ed,eg]
      exact stop (by simp[iZ]; omega)
 ·have hge:i=s.length:=by omega
  have e1:decide ((i:Int)<(s.length:Int))=false:=by simp; omega
  rw[e1]
  simp only[fT,bz,aR,bT,aZ,bu,bX,bf,bI]
  have:=j3 hi ha (.inl hge)
  have h2:=hQ
  unfold wn at h2
  rw[this] at h2
  exact h2
theorem IM {T8:Nat} : uu fun args M Q=>∃ a0,args=[a0]∧tN T8 a0 M Q:=by
 intro M s Q hl hQ
 refine⟨_,rfl, ?_⟩
 unfold tN
 simp only[eu,dS]
 rw[pg,bn]
 have hk1:ah [] M (M.push (.row (BY.row s) true T8 0)):=(ah.refl _ _).push _
 have hr1:Rw BY (M.push (.row (BY.row s) true T8 0)) M.next true T8 s:=Rw.new M s
 generalize M.push (.row (BY.row s) true T8 0)=M1 at *
 refine aS (fun m ys M3=>∃ i:Nat,m=s.length - i∧ys=[N .i64 i]∧i≤s.length∧Rw BY M3 M.next true T8 ((s.take i).map bW++s.drop i)∧ah [] M M3) _
  ⟨0,rfl,rfl,Nat.zero_le _,by simpa using hr1,hk1⟩ ?_
 rintro next m ys M3 hnext ⟨i,rfl,rfl,hi,hR,hK⟩
 dsimp only[ae]
 rw[nI,eD]
 refine bU (fun hlt=>?_) (fun hge=>?_)
 ·have hlt:i<s.length:=by simpa using hlt
  have hlen:i<((s.take i).map bW++s.drop i).length:=by simp; omega
  have hc:=hR.av hlen
  have w1:=fB (show i<9223372036854775807 by omega)
  rw[JR hlt hlen] at hc
  have idx:∀ K:AV→Prop,bN (.slc M.next 0 s.length (.op 1)) (N .i64 (i:Int)) 1 K=K (.ptr M.next i):=fun K=>by
   rw[vX]
   simp only[Int.toNat_natCast,Nat.mul_one,Nat.zero_add]
   exact propext ⟨fun h=>h.2.2,fun h=>⟨by omega,by omega,h⟩⟩
  have ld:∀ K:AV→Prop,av M3 (.ptr M.next i) K=K (By s[i]):=fun K=>by
   rw[cZ,hc]; simp
  refine bY (fun xs M'=>xs=[]∧Rw BY M' M.next true T8 ((s.take (i + 1)).map bW++s.drop (i + 1))∧ah [] M M') ?_ ?_
  ·rintro _ M4 ⟨rfl,h1,h2⟩
   rw[ek,w1]
   exact hnext _ _ _ (by omega) ⟨i + 1,rfl,rfl,by omega,h1,h2⟩
  ·intro J hJ
   have same:bW s[i]=s[i]→J [] M3:=fun h=>by
    refine hJ _ _ ⟨rfl, ?_,hK⟩
    rw[wU hlt,h,← List.drop_eq_getElem_cons hlt]
    exact hR
   have cb:=qx s[i]
   rw[idx,ld,dE]
   by_cases h1:65≤s[i].toNat
   ·have e1:decide ((s[i].toNat:Int) ≥ 65)=true:=by simp; omega
    rw[e1,bz,idx,ld,gJ]
    dsimp only
    rw[bu]
    by_cases h2:s[i].toNat≤90
    ·have e2:decide ((s[i].toNat:Int)≤90)=true:=by simp; omega
     have hlow:bW s[i]=UInt8.ofNat (s[i].toNat + 32):=by rw[bW,if_pos ⟨h1,h2⟩]
     have wv:N IntKind.u8 (IntKind.u8.wrap ((s[i].toNat:Int) + 32))=By (bW s[i]):=by
      rw[hlow,By,GL,Nat.mod_eq_of_lt (by omega)]
      congr 1
      rw[lI (by omega) (by omega)]; omega
     obtain⟨hs,hR'⟩:=hR.Hd hlen (bW s[i])
     rw[Hz hlt] at hs hR'
     rw[e2,bf,idx,ld,ek,wv,idx,wN]
     refine⟨rfl,_,hs,hJ _ _ ⟨rfl, ?_,hK.put _ (.inl (Nat.le_refl _))⟩⟩
     rw[wU hlt]
     exact hR'
    ·have e2:decide ((s[i].toNat:Int)≤90)=false:=by simp; omega
     rw[e2,bI]
     exact same (by rw[bW,if_neg (by omega)])
   ·have e1:decide ((s[i].toNat:Int) ≥ 65)=false:=by simp; omega
    rw[e1,bT]
    dsimp only
    rw[bX,bI]
    exact same (by rw[bW,if_neg (by omega)])
 ·have:i=s.length:=by simp at hge; omega
  subst this
  rw[List.take_length,List.drop_length,List.append_nil] at hR
  have:=hR.sl (cap:=.op 1)
  rw[List.length_map] at this
  rw[Sl.str this]
  exact hQ M3 hK
theorem Mt {c:UInt8} {r:List UInt8} {kd:IntKind} {K:AV→Prop} : bL (St (c :: r)) (N kd 0) K=K (By c):=ko (s:=c :: r) (i:=0) (by simp) kd K
theorem oH {a b:UInt8} : (((a.toNat:Int)) != (b.toNat:Int))=(a != b):=by
 by_cases h:a=b
 ·subst h; simp
 ·have:a.toNat≠b.toNat:=fun e=>h (UInt8.toNat_inj.1 e)
  have h2:(a != b)=true:=by simp[h]
  rw[h2]; simp; omega
theorem MG {a b:UInt8} : (((a.toNat:Int)) == (b.toNat:Int))=(a == b):=by
 by_cases h:a=b
 ·subst h; simp
 ·have:a.toNat≠b.toNat:=fun e=>h (UInt8.toNat_inj.1 e)
  have h2:(a == b)=false:=by simp[h]
  rw[h2]; simp; omega
theorem headW {x:UInt8} {n:Int} (hn:(x.toNat:Int)=n) {t:List UInt8} {M:RM} {K:AV→RM→Prop} :
  (aa (Bo (decide ((t.length:Int) > 0))) true (fun k'=>bL (St t) (N .i64 0) fun a=>ag .eql a (N .u8 n) fun b=>k' b M) (fun k=>k .undef M) fun b M1=>ay (Bo (decide ((t.length:Int) > 0))) b (Bo false) fun d=>K d M1)=K (Bo (aK x t)) M:=by
 subst hn
 cases t with
 | nil =>
   rw[show decide (((([] : List UInt8).length:Nat) : Int) > 0)=false from rfl,bT]
   dsimp only
   rw[bX]; rfl
 | cons c r =>
   rw[show decide ((((c :: r).length:Nat) : Int) > 0)=true by simp,bz,Mt,cz,MG]
   dsimp only
   rw[bu]; rfl
theorem LU {x:UInt8} {n:Int} (hn:(x.toNat:Int)=n) {t:List UInt8} {M:RM} {K:AV→RM→Prop} :
  (aa (Bo ((t.length:Int) == 0)) false (fun k'=>bL (St t) (N .i64 0) fun a=>ag .neq a (N .u8 n) fun b=>k' b M) (fun k=>k .undef M) fun b M1=>ay (Bo ((t.length:Int) == 0)) (Bo true) b fun d=>K d M1)=K (Bo (!aK x t)) M:=by
 subst hn
 cases t with
 | nil =>
   rw[show(((([] : List UInt8).length:Nat) : Int) == 0)=true from rfl,aR]
   dsimp only
   rw[bu]; rfl
 | cons c r =>
   rw[show((((c :: r).length:Nat) : Int) == 0)=false by simp; omega,aZ,Mt,gI,oH]
   dsimp only
   rw[bX]; rfl
def jE (c:UInt8) : Bool:=c != 34 && bO c
def j6 (c:UInt8) : Bool:=bO c && c != 34 && c != 44 && c != 59 && c != 58
def kN (s:List UInt8) : Option (List UInt8 × List UInt8) :=
 if aK 34 s then
  (if aK 34 ((s.drop 1).dropWhile jE) then some ((s.drop 1).takeWhile jE,((s.drop 1).dropWhile jE).drop 1) else none)
 else some (s.takeWhile j6,s.dropWhile j6)
def iB:Nat→List UInt8→List (List UInt8)→Option (List (List UInt8) × List UInt8)
 | 0,_,_=>none
 | k + 1,s,acc=>match kN s with
   | none=>none
   | some (v,r)=>if aK 44 r then iB k (r.drop 1) (acc++[v]) else some (acc++[v],r)
theorem kQ {α:Type} (p:α→Bool) : ∀ s:List α,s.drop (s.takeWhile p).length=s.dropWhile p∧s.take (s.takeWhile p).length=s.takeWhile p
 | []=>by simp
 | c :: s=>by
   rw[List.takeWhile_cons,List.dropWhile_cons]
   split
   ·have:=kQ p s
    simp[this.1,this.2]
   ·simp
theorem ET {s v r:List UInt8} (h:kN s=some (v,r)) : r.length≤s.length:=by
 unfold kN at h
 split at h
 ·split at h
  ·cases h
   have:=l7 jE (s.drop 1)
   simp at this ⊢; omega
  ·cases h
 ·cases h
  exact l7 j6 s
theorem wL:∀ (n:Nat) (s:List UInt8) (acc:List (List UInt8)) (k:Nat),s.length≤n→s.length + 1≤k→iB k s acc=iB (s.length + 1) s acc
 | n,s,acc,k,h1,h3=>by
   obtain⟨i,rfl⟩ : ∃ i,k=i + 1:=⟨k - 1,by omega⟩
   rw[iB,iB]
   cases hv:kN s with
   | none=>rfl
   | some p =>
     obtain⟨v,r⟩:=p
     have hl:=ET hv
     simp only
     split
     ·rename_i hh
      have h4:=bC hh
      cases n with
      | zero=>omega
      | succ n=>rw[wL n (r.drop 1) _ i (by simp; omega) (by simp; omega),wL n (r.drop 1) _ s.length (by simp; omega) (by simp; omega)]
     ·rfl
def C9 (s:List UInt8) : Option (List (List UInt8) × List UInt8):=iB (s.length + 1) s []
theorem zM:∀ (k:Nat) (s:List UInt8) (acc vs:List (List UInt8)) (r:List UInt8),iB k s acc=some (vs,r)→r.length + vs.length≤s.length + acc.length + 1
 | 0,_,_,_,_,h=>by cases h
 | k + 1,s,acc,vs,r,h=>by
   rw[iB] at h
   cases hv:kN s with
   | none=>rw[hv] at h; cases h
   | some p =>
     obtain⟨v,t⟩:=p
     have hl:=ET hv
     rw[hv] at h
     simp only at h
     split at h
     ·rename_i hh
      have h4:=bC hh
      have:=zM k _ _ _ _ h
      simp at this; omega
     ·cases h; simp; omega
def BV (T:Nat) (c:ak) : Prop:=∀ {M:RM} {s:List UInt8} {Q:ai},s.length≤1000000000 →
 (∀ M',ah [] M M'→C9 s=none→Q (.tup [aH,St [],Bo false]) M') →
 (∀ v M' vs r,ah [] M M'→C9 s=some (vs,r)→Ow fZ M' M.next T v vs→Q (.tup [v,St r,Bo true]) M')→c [St s] M Q
theorem I9 {T:Nat} {cp:ak} (hp:qU cp) : BV T fun args M Q=>∃ a0,args=[a0]∧om cp T a0 M Q:=by
 intro M s Q hl hN hS
 refine⟨_,rfl, ?_⟩
 unfold om
 simp only[eu,dS]
 refine aS (fun m ys M3=>∃ (t:List UInt8) (v:AV) (acc:List (List UInt8)),m=t.length∧ys=[St t,v]∧t.length + acc.length≤s.length∧ah [] M M3∧Ow fZ M3 M.next T v acc∧iB (t.length + 1) t acc=C9 s) _
  ⟨s,aH,[],rfl,rfl,by simp,ah.refl _ _,.nil,rfl⟩ ?_
 rintro next m ys M3 hnext ⟨t,v,acc,rfl,rfl,htl,hK,ho,hrv⟩
 rw[iB] at hrv
 dsimp only[ae]
 refine bY (fun xs M'=>M'=M3∧∃ (k:Nat) (w:List UInt8),xs=[N .i64 (k:Int),St w]∧k≤t.length∧kN t=some (w,t.drop k)) ?_ ?_
 ·rintro _ M4 ⟨rfl,k,w,rfl,hk,hv⟩
  rw[hv] at hrv
  simp only at hrv
  dsimp only[ae]
  refine Pt ho hK.next (by omega) fun v' M5 o5 k5 _=>?_
  have kk:ah [] M M5:=hK.jP k5 fun c hc=>.inl (ho.blk c hc).1
  rw[bi hk,dL,bB,cz]
  have hdl:(t.drop k).length≤t.length:=by simp
  generalize t.drop k=r at *
  rw[LU (x:=44) (n:=44) rfl]
  cases hh:aK 44 r with
  | false =>
    rw[Bool.not_false,bf]
    rw[if_neg (by rw[hh]; simp)] at hrv
    exact hS v' M5 _ _ kk hrv.symm o5
  | true =>
    rw[if_pos hh] at hrv
    have hr1:=bC hh
    rw[Bool.not_true,bI,show aC (St r) (some (N .i64 1)) none=some (St (r.drop 1)) from bi (l:=1) hr1 .i64,dL]
    refine hnext _ _ _ (by simp; omega) ⟨r.drop 1,v',acc++[w],rfl,rfl,by simp; omega,kk,o5, ?_⟩
    rw[← hrv,wL (r.drop 1).length (r.drop 1) _ t.length (Nat.le_refl _) (by simp; omega)]
 ·intro J hJ
  rw[bB,mf,headW (x:=34) (n:=34) rfl]
  unfold kN at hJ hrv
  cases h34:aK 34 t with
  | true =>
    simp only[h34,if_true] at hJ hrv
    rw[bf]
    obtain⟨c,t1,rfl⟩ : ∃ c t1,t=c :: t1:=by
     cases t with
     | nil=>cases h34
     | cons c t1=>exact⟨c,t1,rfl⟩
    simp only[List.drop_succ_cons,List.drop_zero] at hJ hrv
    simp only[List.length_cons] at htl
    refine aS (fun m ys M4=>M4=M3∧∃ n:Nat,m=t1.length - n∧ys=[N .i64 ((n + 1:Nat) : Int)]∧n≤t1.length∧(t1.take n).all jE=true) _ ⟨rfl,0,rfl,rfl,Nat.zero_le _,rfl⟩ ?_
    rintro wV m ys M4 iF ⟨rfl,n,rfl,rfl,hn,ha⟩
    dsimp only[ae]
    rw[bB,eD]
    have hle:(c :: t1).length=t1.length + 1:=rfl
    have w1:=fB (show n + 1<9223372036854775807 by omega)
    have done:(n=t1.length∨∃ c,t1[n]?=some c∧jE c=false)→n=(t1.takeWhile jE).length∧t1.drop n=t1.dropWhile jE∧t1.take n=t1.takeWhile jE:=fun h=>by
     have h1:=j3 hn ha h
     have h2:=kQ jE t1
     rw[h1] at h2
     exact⟨h1.symm,h2⟩
    have stop:(n=t1.length∨∃ c,t1[n]?=some c∧jE c=false)→aP (St (c :: t1)) fun t36=>ag .eql (N .i64 ((n + 1:Nat) : Int)) t36 fun t37 =>
      aa t37 false (fun k'=>bL (St (c :: t1)) (N .i64 ((n + 1:Nat) : Int)) fun t41=>ag .neq t41 (N .u8 34) fun t42=>k' t42 M4) (fun k=>k .undef M4) fun Rj Rn =>
      ay t37 (Bo true) Rj fun t43=>aj t43 (Q (.tup [aH,St [],Bo false]) Rn) (bJ (aC (St (c :: t1)) (some (N .i64 1)) (some (N .i64 ((n + 1:Nat) : Int)))) fun t46=>ag .add (N .i64 ((n + 1:Nat) : Int)) (N .i64 1) fun t48=>J [t48,t46] Rn):=fun h=>by
     obtain⟨h1,h2,h3⟩:=done h
     rw[bB,cz]
     by_cases he:n=t1.length
     ·rw[show(((n + 1:Nat) : Int) == ((c :: t1).length:Int))=true by simp[he],aR]
      dsimp only
      rw[bu,bf]
      refine hN M4 hK ?_
      rw[he,List.drop_length] at h2
      rw[← hrv,← h2]
      rfl
     ·have hlt:n<t1.length:=by omega
      rw[show(((n + 1:Nat) : Int) == ((c :: t1).length:Int))=false by simp; omega,aZ,ko (s:=c :: t1) (i:=n + 1) (by simp; omega) .i64,gI]
      dsimp only
      rw[bX,show(c :: t1)[n + 1]'(by simp; omega)=t1[n] from rfl,show((t1[n].toNat:Int) != 34)=(t1[n] != 34) from oH (b:=34)]
      have hhd:aK 34 (t1.dropWhile jE)=(t1[n] == 34):=by rw[← h2,List.drop_eq_getElem_cons hlt]; rfl
      cases hq:t1[n] == 34 with
      | false =>
        rw[show(t1[n] != 34)=true by rw[bne,hq]; rfl,bf]
        refine hN M4 hK ?_
        rw[hhd,hq] at hrv
        simpa using hrv.symm
      | true =>
        rw[show(t1[n] != 34)=false by rw[bne,hq]; rfl,bI]
        rw[show aC (St (c :: t1)) (some (N .i64 1)) (some (N .i64 ((n + 1:Nat) : Int)))=some (St (t1.take n)) from by
         have:=Bq (s:=c :: t1) (l:=1) (h:=n + 1) (by omega) (by simp; omega) .i64 .i64
         simpa using this]
        rw[dL,ek,fB (show n + 1<9223372036854775807 by omega)]
        refine hJ _ _ ⟨rfl,n + 1 + 1,t1.take n,rfl,by simp; omega, ?_⟩
        rw[hhd,hq,if_pos rfl,← h3,← h2]
        simp
    by_cases hlt:n<t1.length
    ·have e1:decide (((n + 1:Nat) : Int)<((c :: t1).length:Int))=true:=by simp; omega
     rw[e1,bz,ko (s:=c :: t1) (i:=n + 1) (by simp; omega) .i64,gI]
     dsimp only
     rw[bu,show(c :: t1)[n + 1]'(by simp; omega)=t1[n] from rfl,show((t1[n].toNat:Int) != 34)=(t1[n] != 34) from oH (b:=34)]
     have hg:t1[n]?=some t1[n]:=List.getElem?_eq_getElem hlt
     have htk:=List.take_succ_eq_append_getElem hlt
     cases hq:t1[n] != 34 with
     | false =>
       rw[bT]
       dsimp only
       rw[bX,bI]
       exact stop (.inr ⟨_,hg,by simp[jE,hq]⟩)
     | true =>
       rw[bz,ko (s:=c :: t1) (i:=n + 1) (by simp; omega) .i64]
       refine hp ?_
       dsimp only
       rw[bu,show(c :: t1)[n + 1]'(by simp; omega)=t1[n] from rfl]
       cases hpl:bO t1[n] with
       | false =>
         rw[bI]
         exact stop (.inr ⟨_,hg,by simp[jE,hpl]⟩)
       | true =>
         rw[bf,ek,w1]
         exact iF _ _ _ (by omega) ⟨rfl,n + 1,rfl,rfl,by omega,by rw[htk,List.all_append,ha]; simp[jE,hq,hpl]⟩
    ·have e1:decide (((n + 1:Nat) : Int)<((c :: t1).length:Int))=false:=by simp; omega
     rw[e1,bT]
     dsimp only
     rw[bX,bT]
     dsimp only
     rw[bX,bI]
     exact stop (.inl (by omega))
  | false =>
    simp only[h34,Bool.false_eq_true,if_false] at hJ hrv
    rw[bI]
    refine aS (fun m ys M4=>M4=M3∧∃ n:Nat,m=t.length - n∧ys=[N .i64 (n:Int)]∧n≤t.length∧(t.take n).all j6=true) _ ⟨rfl,0,rfl,rfl,Nat.zero_le _,rfl⟩ ?_
    rintro wV m ys M4 iF ⟨rfl,n,rfl,rfl,hn,ha⟩
    dsimp only[ae]
    rw[bB,eD]
    have w1:=fB (show n<9223372036854775807 by omega)
    have stop:(n=t.length∨∃ c,t[n]?=some c∧j6 c=false)→bJ (aC (St t) none (some (N .i64 (n:Int)))) fun t87=>J [N .i64 (n:Int),t87] M4:=fun h=>by
     have h1:=j3 hn ha h
     have h2:=kQ j6 t
     rw[h1] at h2
     rw[gm hn,dL]
     exact hJ _ _ ⟨rfl,n,t.take n,rfl,hn,by rw[h2.1,h2.2]⟩
    by_cases hlt:n<t.length
    ·have e1:decide ((n:Int)<(t.length:Int))=true:=by simpa using hlt
     have hg:t[n]?=some t[n]:=List.getElem?_eq_getElem hlt
     have htk:=List.take_succ_eq_append_getElem hlt
     have idx:∀ K:AV→Prop,bL (St t) (N .i64 (n:Int)) K=K (By t[n]):=fun K=>ko hlt .i64 K
     generalize t[n]=c at *
     rw[e1,bz,idx]
     refine hp ?_
     dsimp only
     rw[bu]
     cases hpl:bO c with
     | false =>
       simp only[fT,bz,aR,bT,aZ,bu,bX,bf,bI]
       exact stop (.inr ⟨_,hg,by simp[j6,hpl]⟩)
     | true =>
       rw[bz,idx,gI,show((c.toNat:Int) != 34)=(c != 34) from oH (b:=34)]
       dsimp only
       rw[bu]
       cases h1:c != 34 with
       | false =>
         simp only[fT,bz,aR,bT,aZ,bu,bX,bf,bI]
         exact stop (.inr ⟨_,hg,by simp[j6,h1]⟩)
       | true =>
         rw[bz,idx,gI,show((c.toNat:Int) != 44)=(c != 44) from oH (b:=44)]
         dsimp only
         rw[bu]
         cases h2:c != 44 with
         | false =>
           simp only[fT,bz,aR,bT,aZ,bu,bX,bf,bI]
           exact stop (.inr ⟨_,hg,by simp[j6,h2]⟩)
         | true =>
           rw[bz,idx,gI,show((c.toNat:Int) != 59)=(c != 59) from oH (b:=59)]
           dsimp only
           rw[bu]
           cases h3:c != 59 with
           | false =>
             simp only[fT,bz,aR,bT,aZ,bu,bX,bf,bI]
             exact stop (.inr ⟨_,hg,by simp[j6,h3]⟩)
           | true =>
             rw[bz,idx,gI,show((c.toNat:Int) != 58)=(c != 58) from oH (b:=58)]
             dsimp only
             rw[bu]
             cases h4:c != 58 with
             | false =>
               rw[bI]
               exact stop (.inr ⟨_,hg,by simp[j6,h4]⟩)
             | true =>
               rw[bf,ek,w1]
               exact iF _ _ _ (by omega) ⟨rfl,n + 1,rfl,rfl,by omega,by rw[htk,List.all_append,ha]; simp[j6,hpl,h1,h2,h3,h4]⟩
    ·have e1:decide ((n:Int)<(t.length:Int))=false:=by simp; omega
     rw[e1]
     simp only[fT,bz,aR,bT,aZ,bu,bX,bf,bI]
     exact stop (.inl (by omega))
def bad (n:Nat) : Bool:=decide (n<1) || decide (20<n)
def dB (n:Nat) (s:List UInt8) : List UInt8:=(s.take n).map bW
def AJ (s:List UInt8) : Option (List UInt8 × List UInt8) :=
 if aK 46 (s.drop (wn s)) then(if bad (wn s) then none else some (dB (wn s) s,s.drop (wn s + 1))) else some ([],s)
def iR:Nat→List UInt8→List jr→Option (List jr × List UInt8)
 | 0,_,_=>none
 | k + 1,s,acc=>if aK 59 s then
     (if bad (wn (s.drop 1)) then none else if aK 61 ((s.drop 1).drop (wn (s.drop 1))) then
      match C9 ((s.drop 1).drop (wn (s.drop 1) + 1)) with
      | some (vs,r)=>iR k r (acc++[(dB (wn (s.drop 1)) (s.drop 1),vs)])
      | none=>none
     else none)
   else some (acc,s)
def Ag (g s:List UInt8) : Option Ln :=
 if bad (wn s) then none else match iR ((s.drop (wn s)).length + 1) (s.drop (wn s)) [] with
  | none=>none
  | some (ps,r)=>if aK 58 r && (r.drop 1).all bO then some ⟨g,dB (wn s) s,ps,r.drop 1⟩ else none
def xE (s:List UInt8) : Option Ln :=
 if dJ s then(match AJ s with
  | none=>none
  | some (g,r)=>Ag g r)
 else none
theorem qa:∀ (n:Nat) (s:List UInt8) (acc:List jr) (k:Nat),s.length≤n→s.length + 1≤k→iR k s acc=iR (s.length + 1) s acc
 | n,s,acc,k,h1,h3=>by
   obtain⟨i,rfl⟩ : ∃ i,k=i + 1:=⟨k - 1,by omega⟩
   rw[iR,iR]
   split
   ·rename_i h59
    have hpos:=bC h59
    split
    ·rfl
    ·split
     ·rename_i h61
      have hp2:=bC h61
      cases hv:C9 ((s.drop 1).drop (wn (s.drop 1) + 1)) with
      | none=>rfl
      | some p =>
        obtain⟨vs,r⟩:=p
        have:=zM _ _ _ _ _ hv
        have hv0:1≤vs.length:=by
         unfold C9 at hv
         exact yI _ _ _ _ _ hv
        simp at this hp2
        simp only
        cases n with
        | zero=>omega
        | succ n=>rw[qa n r _ i (by omega) (by omega),qa n r _ s.length (by omega) (by omega)]
     ·rfl
   ·rfl
 where
 yI:∀ (k:Nat) (s:List UInt8) (acc vs:List (List UInt8)) (r:List UInt8),iB k s acc=some (vs,r)→1≤vs.length
 | 0,_,_,_,_,h=>by cases h
 | k + 1,s,acc,vs,r,h=>by
   rw[iB] at h
   cases hv:kN s with
   | none=>rw[hv] at h; cases h
   | some p =>
     obtain⟨v,t⟩:=p
     rw[hv] at h
     simp only at h
     split at h
     ·exact yI k _ _ _ _ h
     ·cases h; simp
theorem U8 {x:UInt8} {n:Int} (hn:(x.toNat:Int)=n) {t:List UInt8} {k:Nat} {M:RM} {K:AV→RM→Prop} :
  (aa (Bo (decide ((k:Int)<(t.length:Int)))) true (fun k'=>bL (St t) (N .i64 (k:Int)) fun a=>ag .eql a (N .u8 n) fun b=>k' b M) (fun k=>k .undef M) fun b M1=>ay (Bo (decide ((k:Int)<(t.length:Int)))) b (Bo false) fun d=>K d M1)=K (Bo (aK x (t.drop k))) M:=by
 subst hn
 by_cases h:k<t.length
 ·rw[decide_eq_true (by omega:(k:Int)<(t.length:Int)),bz,ko h,cz,MG]
  dsimp only
  rw[bu,List.drop_eq_getElem_cons h]; rfl
 ·rw[decide_eq_false (by omega:¬ (k:Int)<(t.length:Int)),bT]
  dsimp only
  rw[bX,List.drop_of_length_le (by omega)]; rfl
theorem NK {n:Nat} {M:RM} {K:AV→RM→Prop} :
  (aa (Bo (decide ((n:Int)<1))) false (fun k'=>ag .gtr (N .i64 (n:Int)) (N .i64 20) fun b=>k' b M) (fun k=>k .undef M) fun b M1=>ay (Bo (decide ((n:Int)<1))) (Bo true) b fun d=>K d M1)=K (Bo (bad n)) M:=by
 by_cases h:n<1
 ·rw[decide_eq_true (by omega:(n:Int)<1),aR]
  dsimp only
  rw[bu]; simp[bad,h]
 ·rw[decide_eq_false (by omega:¬ (n:Int)<1),aZ,mf]
  dsimp only
  rw[bX,show decide ((n:Int) > 20)=bad n by simp[bad,h]; omega]
def O1 (c:ak) : Prop:=∀ {M:RM} {s:List UInt8} {Q:ai},s.length≤1000000000 →
 (∀ cs M',ah [] M M'→xE s=none→cs.length=5→cs.all oneCell=true→Q (.tup [.agg cs,Bo false]) M') →
 (∀ cs M' L,ah [] M M'→xE s=some L→gF.rel M' cs (L,0) (fun b=>M.next≤b)→Q (.tup [.agg cs,Bo true]) M')→c [St s] M Q
theorem qV {M:RM} {b b' T:Nat} {l l' : List AV} {Q:ai} {r:Bool} (h:M.heap b=some (.row l false T 0)) (hl:l.length=5) (h' : M.heap b'=some (.row l' false T 0)) (hl' : l'.length=5) (h1:l'.all oneCell=true)
  (hQ:Q (.tup [.agg l',Bo r]) (M.put b (.row l' false T 0))) :
  bg M (.ptr b' 0) 5 fun t=>aO M (.ptr b 0) t 5 fun M1=>bg M1 (.ptr b 0) 5 fun res=>Q (.tup [res,Bo r]) M1:=by
 rw[dN (n:=5) h' hl',eH (n:=5) (x:=.agg l') h hl' hl h1,show(AV.agg l').cells=l' from rfl,dN (n:=5) (aV _) hl']
 exact hQ
theorem Lv {TL TP TS:Nat} {cf cw cl cv cp:ak} (hf:D5 cf) (hw:Hy cw) (hlo:uu cl) (hv:BV TS cv) (hp:qU cp) :
  O1 fun args M Q=>∃ a0,args=[a0]∧pM TL cf cw cl TP cv cp a0 M Q:=by
 intro M s Q hl hN hS
 refine⟨_,rfl, ?_⟩
 unfold pM
 simp only[eu,dS]
 rw[bn,oL]
 refine⟨lz,rfl, ?_⟩
 rw[bn]
 have h2:((M.push (.row lz false TL 0)).push (.row lz false TL 0)).heap M.next=some (.row lz false TL 0):=iI (RM.aY _) (by simp[RM.push])
 have h4:((M.push (.row lz false TL 0)).push (.row lz false TL 0)).heap (M.next + 1)=some (.row lz false TL 0):=RM.aY _
 have kk:ah [] M ((M.push (.row lz false TL 0)).push (.row lz false TL 0)):=((ah.refl _ _).push _).push _
 have nn:((M.push (.row lz false TL 0)).push (.row lz false TL 0)).next=M.next + 2:=rfl
 rw[dK]
 generalize (M.push (.row lz false TL 0)).push (.row lz false TL 0)=M1 at *
 rw[eH (n:=5) (x:=.agg lz) h4 rfl rfl rfl]
 have h2:=bR (z:=.row lz false TL 0) h2 (show M.next≠M.next + 1 by omega)
 have h4:(M1.put (M.next + 1) (.row lz false TL 0)).heap (M.next + 1)=some (.row lz false TL 0):=aV _
 have kk:ah [] M (M1.put (M.next + 1) (.row lz false TL 0)):=kk.new _ (by omega)
 have nn:(M1.put (M.next + 1) (.row lz false TL 0)).next=M.next + 2:=nn
 change cf _ (M1.put (M.next + 1) (.row lz false TL 0)) _
 generalize M1.put (M.next + 1) (.row lz false TL 0)=M2 at *
 refine hf (by omega) ?_
 rw[dh]
 unfold xE at hN hS
 cases hfm:dJ s with
 | false =>
   rw[Bool.not_false,bf]
   exact qV h2 rfl h4 rfl rfl (hN _ _ (kk.new _ (Nat.le_refl _)) (by rw[hfm]; rfl) rfl rfl)
 | true =>
 simp only[hfm,if_true] at hN hS
 rw[Bool.not_true,bI]
 refine hw (by omega) ?_
 have hwl:=F3 s
 refine bY (fun xs M'=>∃ g r,xs=[St r,N .i64 ((wn r:Nat) : Int)]∧AJ s=some (g,r)∧r.length≤s.length∧ah [] M M'∧M.next + 2≤M'.next∧M'.heap M.next=some (.row lz false TL 0) ∧
   M'.heap (M.next + 1)=some (.row [St g,St [],aH,St [],N .i64 0] false TL 0)) ?_ ?_
 ·rintro _ M5 ⟨g,r,rfl,hhd,hrl,k5,n5,h2,h4⟩
  rw[hhd] at hN hS
  simp only at hN hS
  unfold Ag at hN hS
  dsimp only[ae]
  have hrw:=F3 r
  rw[eD,NK]
  cases hb:bad (wn r) with
  | true =>
    rw[bf]
    exact qV h2 rfl h4 rfl rfl (hN _ _ (k5.new _ (Nat.le_refl _)) (by rw[hb]; rfl) rfl rfl)
  | false =>
  simp only[hb,Bool.false_eq_true,if_false] at hN hS
  rw[bI,gm hrw,dL]
  refine hlo (by simp; omega) fun M6 k6=>?_
  have h2:=k6.aG h2 (by omega) (by simp)
  have h4:=k6.aG h4 (by omega) (by simp)
  have n6:=k6.next
  rw[aX,eU [St g,St (dB (wn r) r),aH,St [],N .i64 0] h4 (by simp) rfl rfl rfl,bi hrw,dL]
  have k7:ah [] M (M6.put (M.next + 1) (.row [St g,St (dB (wn r) r),aH,St [],N .i64 0] false TL 0)):=(k5.trans k6).new _ (by omega)
  have h2:=bR (z:=.row [St g,St (dB (wn r) r),aH,St [],N .i64 0] false TL 0) h2 (show M.next≠M.next + 1 by omega)
  have h4:(M6.put (M.next + 1) (.row [St g,St (dB (wn r) r),aH,St [],N .i64 0] false TL 0)).heap (M.next + 1)=_:=aV _
  have n7:M.next + 2≤(M6.put (M.next + 1) (.row [St g,St (dB (wn r) r),aH,St [],N .i64 0] false TL 0)).next:=by rw[iG]; omega
  generalize M6.put (M.next + 1) (.row [St g,St (dB (wn r) r),aH,St [],N .i64 0] false TL 0)=M7 at *
  generalize hnm:dB (wn r) r=nm at *
  have hdl:(r.drop (wn r)).length≤s.length:=by simp; omega
  generalize r.drop (wn r)=q at *
  refine aS (fun m ys M8=>∃ (t:List UInt8) (v:AV) (acc:List jr),m=t.length∧ys=[St t]∧acc.length + t.length≤s.length∧ah [] M M8∧M.next + 2≤M8.next∧M8.heap M.next=some (.row lz false TL 0) ∧
    M8.heap (M.next + 1)=some (.row [St g,St nm,v,St [],N .i64 0] false TL 0)∧gD iT M8 (M.next + 2) TP v acc (fun b=>M.next + 2≤b∧b<M8.next∧b ∉ aI v)∧iR (t.length + 1) t acc=iR (q.length + 1) q []) _
   ⟨q,aH,[],rfl,rfl,by simpa using hdl,k7,n7,h2,h4,.nil,rfl⟩ ?_
  rintro next m ys M8 hnext ⟨t,v,acc,rfl,rfl,htl,k8,n8,h2,h4,ho,hpr⟩
  dsimp only[ae]
  rw[bB,mf,headW (x:=59) (n:=59) rfl]
  rw[iR] at hpr
  have hone:([St g,St nm,v,St [],N .i64 0] : List AV).all oneCell=true:=by simp[gG,ho.one]
  cases h59:aK 59 t with
  | false =>
    simp only[h59,Bool.false_eq_true,if_false] at hpr
    rw[← hpr] at hN hS
    simp only at hN hS
    rw[bI,bB,cz,LU (x:=58) (n:=58) rfl]
    cases h58:aK 58 t with
    | false =>
      rw[Bool.not_false,bf]
      exact qV h2 rfl h4 rfl hone (hN _ _ (k8.new _ (Nat.le_refl _)) (by simp[h58]) rfl hone)
    | true =>
    have ht1:=bC h58
    simp only[h58,Bool.true_and] at hN hS
    have ho1:=ho.one
    rw[Bool.not_true,bI,show aC (St t) (some (N .i64 1)) none=some (St (t.drop 1)) from bi (l:=1) ht1 .i64,dL,aX,eU [St g,St nm,v,St (t.drop 1),N .i64 0] h4 (by simp) rfl rfl rfl]
    have hone' : ([St g,St nm,v,St (t.drop 1),N .i64 0] : List AV).all oneCell=true:=by simp[gG,ho.one]
    have hvl:=ho.blk
    have k9:ah [] M (M8.put (M.next + 1) (.row [St g,St nm,v,St (t.drop 1),N .i64 0] false TL 0)):=k8.new _ (by omega)
    have h2:=bR (z:=.row [St g,St nm,v,St (t.drop 1),N .i64 0] false TL 0) h2 (show M.next≠M.next + 1 by omega)
    have h4:(M8.put (M.next + 1) (.row [St g,St nm,v,St (t.drop 1),N .i64 0] false TL 0)).heap (M.next + 1)=_:=aV _
    have ho:=ho.keep (bs:=[M.next + 1]) ((ah.refl _ M8).put (b:=M.next + 1) (.row [St g,St nm,v,St (t.drop 1),N .i64 0] false TL 0) (.inr (by simp))) (fun b hb h=>by simp at hb; omega) (fun b hb h=>by have:=hvl b hb; simp at h; omega)
    generalize M8.put (M.next + 1) (.row [St g,St nm,v,St (t.drop 1),N .i64 0] false TL 0)=M9 at *
    have Ri:(t.drop 1).length≤s.length:=by simp; omega
    generalize hu:t.drop 1=u at *
    refine aS (fun m ys M10=>M10=M9∧∃ i:Nat,m=u.length - i∧ys=[N .i64 (i:Int)]∧i≤u.length∧(u.take i).all bO=true) _ ⟨rfl,0,rfl,rfl,Nat.zero_le _,rfl⟩ ?_
    rintro wV m ys M10 iF ⟨rfl,i,rfl,rfl,hi,ha⟩
    dsimp only[ae]
    rw[aX,ax h4 rfl,bB,eD]
    refine bU (fun hlt=>?_) (fun hge=>?_)
    ·have hlt:i<u.length:=by simpa using hlt
     rw[aX,ax h4 rfl,ko hlt]
     refine hp ?_
     rw[dh]
     cases hpl:bO u[i] with
     | false =>
       rw[Bool.not_false,bf]
       refine qV h2 rfl h4 rfl hone' (hN _ _ (k9.new _ (Nat.le_refl _)) ?_ rfl hone')
       have:u.all bO=false:=by rw[List.all_eq_false]; exact⟨u[i],List.getElem_mem hlt,by simp[hpl]⟩
       rw[this]; rfl
     | true =>
       rw[Bool.not_true,bI,ek,fB (by omega)]
       exact iF _ _ _ (by omega) ⟨rfl,i + 1,rfl,rfl,by omega,by rw[List.take_succ_eq_append_getElem hlt,List.all_append,ha]; simp[hpl]⟩
    ·have hge:i=u.length:=by simp at hge; omega
     subst hge
     rw[List.take_length] at ha
     refine qV h2 rfl h4 rfl hone' (hS _ _ ⟨g,nm,acc,u⟩ (k9.new _ (Nat.le_refl _)) (by rw[ha]; rfl) ⟨v,rfl, ?_⟩)
     have ho:=ho.keep (bs:=[M.next]) ((ah.refl _ M10).put (b:=M.next) (.row [St g,St nm,v,St u,N .i64 0] false TL 0) (.inr (by simp))) (fun b hb h=>by simp at hb; omega) (fun b hb h=>by have:=hvl b hb; simp at h; omega)
     exact(ho.mono (S':=fun b=>M.next≤b) fun b h=>by omega).MN fun b h1 _=>by omega
  | true =>
    simp only[h59,if_true] at hpr
    have ht1:=bC h59
    rw[bf,show aC (St t) (some (N .i64 1)) none=some (St (t.drop 1)) from bi (l:=1) ht1 .i64,dL]
    have Ri:(t.drop 1).length + 1≤t.length:=by simp; omega
    generalize t.drop 1=u at *
    refine hw (by omega) ?_
    have huw:=F3 u
    generalize wn u=k at *
    have fail:iR (q.length + 1) q []=none→∀ M' w,ah [] M8 M'→M'.heap M.next=some (.row lz false TL 0)→M'.heap (M.next + 1)=some (.row [St g,St nm,w,St [],N .i64 0] false TL 0)→oneCell w=true →
      bg M' (.ptr (M.next + 1) 0) 5 fun t=>aO M' (.ptr M.next 0) t 5 fun M1=>bg M1 (.ptr M.next 0) 5 fun res=>Q (.tup [res,Bo false]) M1:=fun h M' w k' g2 g4 hw1=>by
     have hone:([St g,St nm,w,St [],N .i64 0] : List AV).all oneCell=true:=by simp[gG,hw1]
     exact qV g2 rfl g4 rfl hone (hN _ _ ((k8.trans k').new _ (Nat.le_refl _)) (by rw[h]) rfl hone)
    rw[eD,NK]
    cases hb:bad k with
    | true =>
      simp only[hb,if_true] at hpr
      rw[aR]
      dsimp only
      rw[bu,aR]
      dsimp only
      rw[bu,bf]
      exact fail hpr.symm _ _ (ah.refl _ _) h2 h4 ho.one
    | false =>
    simp only[hb,Bool.false_eq_true,if_false] at hpr
    rw[aZ,bB,cz]
    dsimp only
    rw[bX]
    by_cases hkl:k=u.length
    ·rw[show((k:Int) == (u.length:Int))=true by simp[hkl],aR]
     dsimp only
     rw[bu,bf]
     rw[hkl,List.drop_length] at hpr
     exact fail hpr.symm _ _ (ah.refl _ _) h2 h4 ho.one
    rw[show((k:Int) == (u.length:Int))=false by simp; omega,aZ,ko (show k<u.length by omega),gI]
    dsimp only
    rw[bX,show((u[k].toNat:Int) != 61)=(u[k] != 61) from oH (b:=61)]
    have hhd:aK 61 (u.drop k)=(u[k] == 61):=by rw[List.drop_eq_getElem_cons (show k<u.length by omega)]; rfl
    cases h61:u[k] == 61 with
    | false =>
      rw[show(u[k] != 61)=true by rw[bne,h61]; rfl,bf]
      rw[hhd,h61] at hpr
      exact fail (by simpa using hpr.symm) _ _ (ah.refl _ _) h2 h4 ho.one
    | true =>
    rw[show(u[k] != 61)=false by rw[bne,h61]; rfl,bI,gm huw,dL]
    rw[hhd,h61,if_pos rfl] at hpr
    refine hlo (by simp; omega) fun M9 k9=>?_
    have h2:=k9.aG h2 (by omega) (by simp)
    have h4:=k9.aG h4 (by omega) (by simp)
    have n9:=k9.next
    rw[oL]
    refine⟨[St (dB k u),aH],rfl, ?_⟩
    rw[bn,eH (n:=2) (x:=.agg [St (dB k u),aH]) (l:=[St [],aH]) (RM.aY _) rfl rfl rfl]
    have k10:ah [] M9 ((M9.push (.row [St [],aH] false TP 0)).put M9.next (.row [St (dB k u),aH] false TP 0)):=((ah.refl _ _).push _).new _ (Nat.le_refl _)
    have h6:((M9.push (.row [St [],aH] false TP 0)).put M9.next (.row [St (dB k u),aH] false TP 0)).heap M9.next=some (.row [St (dB k u),aH] false TP 0):=aV _
    have n10:((M9.push (.row [St [],aH] false TP 0)).put M9.next (.row [St (dB k u),aH] false TP 0)).next=M9.next + 1:=rfl
    rw[ek,fB (show k<9223372036854775807 by omega),bi (show k + 1≤u.length by omega),dL]
    change cv _ ((M9.push (.row [St [],aH] false TP 0)).put M9.next (.row [St (dB k u),aH] false TP 0)) _
    generalize (M9.push (.row [St [],aH] false TP 0)).put M9.next (.row [St (dB k u),aH] false TP 0)=M10 at *
    have h2:=k10.aG h2 (by omega) (by simp)
    have h4:=k10.aG h4 (by omega) (by simp)
    have hvl:=ho.blk
    refine hv (by simp; omega) ?_ ?_
    ·intro M11 k11 hnone
     have h2:=k11.aG h2 (by omega) (by simp)
     have h4:=k11.aG h4 (by omega) (by simp)
     have h6:=k11.aG h6 (by omega) (by simp)
     rw[jy,jv,Aj,aX,eU [St (dB k u),aH] h6 (by simp) rfl rfl rfl,dh,Bool.not_false,bf]
     rw[hnone] at hpr
     exact fail hpr.symm _ _ (((k9.trans k10).trans k11).new _ (by omega)) (bR h2 (by omega)) (bR h4 (by omega)) ho.one
    ·intro w M11 vs x k11 hsome how
     have h2:=k11.aG h2 (by omega) (by simp)
     have h4:=k11.aG h4 (by omega) (by simp)
     have h6:=k11.aG h6 (by omega) (by simp)
     have n11:=k11.next
     have hwb:=how.blk
     rw[hsome] at hpr
     simp only at hpr
     have hlen:=zM _ _ _ _ _ hsome
     have hpos:=qa.yI _ _ _ _ _ hsome
     simp at hlen
     rw[jy,jv,Aj,aX,eU [St (dB k u),w] h6 (by simp) how.cells how.one rfl,dh,Bool.not_true,bI]
     have k12:ah [] M8 (M11.put M9.next (.row [St (dB k u),w] false TP 0)):=((k9.trans k10).trans k11).new _ (by omega)
     have h2:=bR (z:=.row [St (dB k u),w] false TP 0) h2 (show M.next≠M9.next by omega)
     have h4:=bR (z:=.row [St (dB k u),w] false TP 0) h4 (show M.next + 1≠M9.next by omega)
     have h6:(M11.put M9.next (.row [St (dB k u),w] false TP 0)).heap M9.next=_:=aV _
     have how:Ow fZ (M11.put M9.next (.row [St (dB k u),w] false TP 0)) M10.next TS w vs:=Own.keep (bs:=[M9.next]) how ((ah.refl _ M11).put (b:=M9.next) _ (.inr (by simp))) (fun b hb h=>by have:=hwb b hb; simp at h; omega)
     have n12:(M11.put M9.next (.row [St (dB k u),w] false TP 0)).next=M11.next:=rfl
     generalize M11.put M9.next (.row [St (dB k u),w] false TP 0)=M12 at *
     have Sn:([St (dB k u),w] : List AV).all oneCell=true:=by simp[gG,how.one]
     rw[aX,ax h4 rfl,dN (n:=2) h6 rfl,su (x:=.agg [St (dB k u),w]) (size:=2) rfl Sn rfl,bn]
     let S' : Nat→Prop:=fun b=>M.next + 2≤b∧b<M12.next∧b ∉ aI v
     have TU:gD iT M12 (M.next + 2) TP v acc S':=(ho.keep k12 (by simp) (by simp)).mono fun b h=>⟨h.1,by omega,h.2.2⟩
     have Um:df fZ.kV M12 w vs S':=df.Pn how.Bp fun b hb=>⟨by have:=(how.blk b hb).1; omega,(how.blk b hb).2,fun hb2=>by have:=(how.blk b hb).1; have:=(hvl b hb2).2; omega⟩
     refine gD.app (R:=iT) (a:=(dB k u,vs)) TU (u6 Um) (by omega) (by decide) (fun b hb h=>h.2.2 hb) (fun b h=>h.2.1) (by omega) (by omega) ?_
     intro v' M13 o13 k13 n13 _ Uz
     have h2:=k13.aG h2 (by omega) (fun h=>by have:=hvl _ h; omega)
     have h4:=k13.aG h4 (by omega) (fun h=>by have:=hvl _ h; omega)
     rw[aX,eU [St g,St nm,v',St [],N .i64 0] h4 (by simp) o13.cells o13.one rfl]
     have Tw:=o13.blk
     refine hnext _ _ _ (by omega) ⟨x,v',acc++[(dB k u,vs)],rfl,rfl,by simp; omega, ?_,by rw[iG]; omega,bR h2 (by omega),aV _, ?_, ?_⟩
     ·exact((k8.trans k12).jP k13 fun c hc=>.inl (by have:=hvl c hc; omega)).new _ (by omega)
     ·have o14:=o13.keep (bs:=[M.next + 1]) ((ah.refl _ M13).put (b:=M.next + 1) (.row [St g,St nm,v',St [],N .i64 0] false TL 0) (.inr (by simp))) (fun b hb h=>by simp at hb; have:=h.1; omega) (fun b hb h=>by have:=Tw b hb; simp at h; omega)
      exact o14.mono fun b h=>⟨h.1,by have:=h.2.1; rw[iG]; omega,fun hb=>Uz b hb h⟩
     ·rw[← hpr,qa x.length x _ t.length (Nat.le_refl _) (by omega)]
 ·intro J hJ
  rw[bB,eD,U8 (x:=46) (n:=46) rfl]
  unfold AJ at hJ hN
  cases h46:aK 46 (s.drop (wn s)) with
  | false =>
    rw[bI]
    simp only[h46,Bool.false_eq_true,if_false] at hJ
    exact hJ _ _ ⟨[],s,rfl,rfl,Nat.le_refl _,kk,by omega,h2,h4⟩
  | true =>
    simp only[h46,if_true] at hJ hN
    have T9:=bC h46
    simp only[List.length_drop] at T9
    rw[bf,gm hwl,dL]
    refine hlo (by simp; omega) fun M3 k3=>?_
    have h2:=k3.aG h2 (by omega) (by simp)
    have h4:=k3.aG h4 (by omega) (by simp)
    have n3:=k3.next
    rw[aX,eU [St (dB (wn s) s),St [],aH,St [],N .i64 0] h4 (by simp) rfl rfl rfl,eD,NK]
    have k4:ah [] M (M3.put (M.next + 1) (.row [St (dB (wn s) s),St [],aH,St [],N .i64 0] false TL 0)):=(kk.trans k3).new _ (by omega)
    have h2:=bR (z:=.row [St (dB (wn s) s),St [],aH,St [],N .i64 0] false TL 0) h2 (show M.next≠M.next + 1 by omega)
    have h4:(M3.put (M.next + 1) (.row [St (dB (wn s) s),St [],aH,St [],N .i64 0] false TL 0)).heap (M.next + 1)=_:=aV _
    have n4:M.next + 2≤(M3.put (M.next + 1) (.row [St (dB (wn s) s),St [],aH,St [],N .i64 0] false TL 0)).next:=by rw[iG]; omega
    generalize M3.put (M.next + 1) (.row [St (dB (wn s) s),St [],aH,St [],N .i64 0] false TL 0)=M4 at *
    cases hb:bad (wn s) with
    | true =>
      rw[bf]
      exact qV h2 rfl h4 rfl rfl (hN _ _ (k4.new _ (Nat.le_refl _)) (by simp[hb]) rfl rfl)
    | false =>
      simp only[hb,Bool.false_eq_true,if_false] at hJ
      rw[bI,ek,fB (show wn s<9223372036854775807 by omega),bi (show wn s + 1≤s.length by omega),dL]
      refine hw (by simp; omega) ?_
      exact hJ _ _ ⟨dB (wn s) s,s.drop (wn s + 1),rfl,rfl,by simp,k4,n4,h2,h4⟩
end Go.Ab.Vl
