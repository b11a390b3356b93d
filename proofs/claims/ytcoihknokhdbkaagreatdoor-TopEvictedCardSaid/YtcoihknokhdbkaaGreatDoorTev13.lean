/- Part 13 of the ground of the proofs of this seat (texts TeFD to TeFD). By an AI agent. -/
import Derived.Test.YtcoihknokhdbkaaGreatDoorTev11
import Derived.WideWitness
import Derived.Carry
import Derived.WalkKit
import Derived.ProofKit
import Derived.OpenShut
import Derived.LaidMore
import Derived.SevenTiedAt
import Derived.Stop.Joined
set_option maxRecDepth 100000
set_option linter.unusedVariables false
set_option linter.unusedSimpArgs false
namespace Go.Proofs.YtcoihknokhdbkaaGreatDoor.ties
open Go Go.ChangeShapes Go.WideShapes Go.ChangeAt
theorem OP:∀ (l m:List (String×DataW Unit))(n:Nat){y z:List (Nat×List Value)×List Obj},Lay.layList Tryz.prog n l=some y→Lay.layList Tryz.prog (n+y.2.length) m=some z→Lay.layList Tryz.prog n (l++m)=some (y.1++z.1,y.2++z.2)
 |[],m,n,y,z,h,k=>by
  rw[Lay.layList]at h
  cases h
  simpa using k
 |x::r,m,n,y,z,h,k=>by
  rw[Lay.layList]at h
  split at h <;>try(cases h;done)
  rename_i g hg
  split at h <;>try(cases h;done)
  rename_i gl hgl
  split at h <;>try(cases h;done)
  rename_i y1 hy1
  split at h <;>try(cases h;done)
  rename_i z1 hz1
  cases h
  have k' : Lay.layList Tryz.prog (n+y1.2.length+z1.2.length) m=some z:=by
   rw[← k]
   congr 1
   simp only[List.length_append]
   omega
  rw[List.cons_append,Nt hg (by rw[hgl];rfl) hy1 (OP r m _ hz1 k')]
  simp only[List.cons_append,List.append_assoc]
theorem hsz(os:Os):(World.holding Tryz.prog os ⟨#[],#[],[]⟩).heap.size=13:=by kernel_rfl
noncomputable def Y5:List (Nat×List Value)×List Obj:=(Lay.layList Tryz.prog 13 (Rows.topEvictedRow.laid.take 5)).getD ([],[])
theorem y5:Lay.layList Tryz.prog 13 (Rows.topEvictedRow.laid.take 5)=some Y5:=by kernel_rfl
theorem y5l:Y5.2.length=0:=by kernel_rfl
def Z2:List (Nat×List Value)×List Obj:=([(2,[.iface 761 (.pointer (some ⟨13,0,none⟩))]),(3,[.iface 761 (.pointer (some ⟨14,0,none⟩))])],[.cells #[.string ⟨#[105,110,118,97,108,105,100,32,115,121,110,116,97,120]⟩] 763,.cells #[.string ⟨#[118,97,108,117,101,32,111,117,116,32,111,102,32,114,97,110,103,101]⟩] 763])
theorem z2:Lay.layList Tryz.prog 13 (Rows.topEvictedRow.laid.drop 5)=some Z2 :=
 Nt (x:=("strconv.ErrSyntax",Rows.laid_strconv_ErrSyntax)) (t:=358) (y:=([.iface 761 (.pointer (some ⟨13,0,none⟩))],[.cells #[.string ⟨#[105,110,118,97,108,105,100,32,115,121,110,116,97,120]⟩] 763])) (by kernel_rfl) (by kernel_rfl)
  (RH (by kernel_rfl) (x:=([.pointer (some ⟨13,0,none⟩)],[.cells #[.string ⟨#[105,110,118,97,108,105,100,32,115,121,110,116,97,120]⟩] 763])) (by kernel_rfl) (by kernel_rfl))
  (Nt (x:=("strconv.ErrRange",Rows.laid_strconv_ErrRange)) (t:=358) (y:=([.iface 761 (.pointer (some ⟨14,0,none⟩))],[.cells #[.string ⟨#[118,97,108,117,101,32,111,117,116,32,111,102,32,114,97,110,103,101]⟩] 763])) (by kernel_rfl) (by kernel_rfl)
   (RH (by kernel_rfl) (x:=([.pointer (some ⟨14,0,none⟩)],[.cells #[.string ⟨#[118,97,108,117,101,32,111,117,116,32,111,102,32,114,97,110,103,101]⟩] 763])) (by kernel_rfl) (by kernel_rfl))
   (z:=([],[])) (by rfl))
theorem ll:Lay.layList Tryz.prog 13 Rows.topEvictedRow.laid=some (Y5.1++Z2.1,Y5.2++Z2.2) :=
 (congrArg (Lay.layList Tryz.prog 13) (List.take_append_drop 5 Rows.topEvictedRow.laid).symm).trans (OP _ _ 13 y5 (by rw[y5l];exact z2))
theorem adt{P:Program}{os:Os}{l:List (String×DataW Unit)}{y:List (Nat×List Value)×List Obj}(h:Lay.layList P (World.holding P os ⟨#[],#[],[]⟩).heap.size l=some y) :
  World.laidAll P os l = { World.holding P os ⟨#[],#[],[]⟩with heap:=⟨Lay.setRows (World.holding P os ⟨#[],#[],[]⟩).heap.toList y.1++y.2⟩ } := by
 unfold World.laidAll World.layVars
 rw[h]
theorem acW{P:Program}{w:World}{l:List (String×DataW Unit)}{y:List (Nat×List Value)×List Obj}(h:Lay.layList P w.heap.size l=some y)
  (k:(decide (y.1.map (·.1)).Nodup&&(y.1.all fun r=>Lay.isRow w.heap.toList[r.1]?))=true):World.layFits P w l []=true:=by
 unfold World.layFits
 rw[h]
 simp only[Bool.and_eq_true]at k ⊢
 refine⟨⟨k.1, ?_⟩,rfl⟩
 rw[List.all_eq_true]at *
 intro r hr
 exact(Bool.and_eq_true _ _).mpr ⟨k.2 r hr,rfl⟩
theorem UY{P:Program}{w w' : World}{l:List (String×DataW Unit)}{y:List (Nat×List Value)×List Obj}(h:Lay.layList P w.heap.size l=some y)
  (k:((y.1.all fun r=>r.2.all (Lay.okV P w'))&&y.2.all (Lay.okO P w'))=true):World.layIfaces P w l w'=true:=by
 unfold World.layIfaces
 rw[h]
 exact k
theorem lls(os:Os):Lay.layList Tryz.prog (World.holding Tryz.prog os ⟨#[],#[],[]⟩).heap.size Rows.topEvictedRow.laid=some (Y5.1++Z2.1,Y5.2++Z2.2) :=
 (congrArg (fun n=>Lay.layList Tryz.prog n Rows.topEvictedRow.laid) (hsz os)).trans ll
noncomputable def W1(os:Os):World := { World.holding Tryz.prog os ⟨#[],#[],[]⟩with heap:=⟨Lay.setRows (World.holding Tryz.prog os ⟨#[],#[],[]⟩).heap.toList (Y5.1++Z2.1)++(Y5.2++Z2.2)⟩ }
theorem lA(os:Os):World.laidAll Tryz.prog os Rows.topEvictedRow.laid=W1 os:=adt (lls os)
theorem vz(os:Os):World.variablesZipB Tryz.checked.prog ((World.laidAll Tryz.prog os Rows.topEvictedRow.laid).forCall (fun _ _=>0) ⟨#[],#[.string ⟨#[]⟩,.string ⟨#[]⟩,.bool false],[]⟩)=true:=by
 rw[lA]
 kernel_rfl
theorem tk(os:Os):List.take ((begin Tryz.checked.prog (fun _ _=>0) default).world.heap.size-Tryz.checked.prog.globals.size) (List.drop Tryz.checked.prog.globals.size ((World.laidAll Tryz.prog os Rows.topEvictedRow.laid).forCall (fun _ _=>0) ⟨#[],#[.string ⟨#[]⟩,.string ⟨#[]⟩,.bool false],[]⟩).heap.toList)=List.drop Tryz.checked.prog.globals.size (begin Tryz.checked.prog (fun _ _=>0) default).world.heap.toList:=by
 rw[lA]
 kernel_rfl
theorem okw(os:Os):Input.okWideB Tryz.checked.prog ((World.laidAll Tryz.prog os Rows.topEvictedRow.laid).forCall (fun _ _=>0) ⟨#[],#[.string ⟨#[]⟩,.string ⟨#[]⟩,.bool false],[]⟩) 3 ⟨#[],#[Value.string ⟨#[]⟩,Value.string ⟨#[]⟩,Value.bool false],[]⟩=true:=by
 rw[lA]
 kernel_rfl
theorem pre{H:Type}(enc:TypeId×Value→H)(os:Os):ChangeSpec.preB enc Tryz.checked.prog Tryz.f3 Rows.topEvictedSpec Rows.topEvictedRow.domain false ((World.laidAll Tryz.prog os Rows.topEvictedRow.laid).forCall (fun _ _=>0) ⟨#[],#[.string ⟨#[]⟩,.string ⟨#[]⟩,.bool false],[]⟩).memory #[Value.string ⟨#[]⟩,Value.string ⟨#[]⟩,Value.bool false] 8=true:=by
 rw[lA]
 kernel_rfl
theorem siz{H:Type}(enc:TypeId×Value→H)(os:Os):ChangeSpec.sizedB enc Tryz.checked.prog Tryz.f3 Rows.topEvictedSpec false ((World.laidAll Tryz.prog os Rows.topEvictedRow.laid).forCall (fun _ _=>0) ⟨#[],#[.string ⟨#[]⟩,.string ⟨#[]⟩,.bool false],[]⟩).memory #[Value.string ⟨#[]⟩,Value.string ⟨#[]⟩,Value.bool false] 8=true:=by
 rw[lA]
 kernel_rfl
theorem lf0(os:Os):(decide ((Y5.1++Z2.1).map (·.1)).Nodup&&((Y5.1++Z2.1).all fun r=>Lay.isRow (World.holding Tryz.prog os ⟨#[],#[],[]⟩).heap.toList[r.1]?))=true:=by kernel_rfl
theorem lf(os:Os):World.layFits Tryz.prog (World.holding Tryz.prog os ⟨#[],#[],[]⟩) Rows.topEvictedRow.laid []=true:=acW (lls os) (lf0 os)
theorem li0(os:Os):(((Y5.1++Z2.1).all fun r=>r.2.all (Lay.okV Tryz.prog (W1 os)))&&(Y5.2++Z2.2).all (Lay.okO Tryz.prog (W1 os)))=true:=by kernel_rfl
theorem li(os:Os):World.layIfaces Tryz.prog (World.holding Tryz.prog os ⟨#[],#[],[]⟩) Rows.topEvictedRow.laid (World.laidAll Tryz.prog os Rows.topEvictedRow.laid)=true:=by
 rw[lA]
 exact UY (lls os) (li0 os)
end Go.Proofs.YtcoihknokhdbkaaGreatDoor.ties
