/- Part 11 of the ground of the proofs of this seat (texts TeFB to TeFB). By an AI agent. -/
import Derived.Test.YtcoihknokhdbkaaGreatDoorRows
import Derived.Test.YtcoihknokhdbkaaGreatDoorCards
import Derived.JoinedOf
import Derived.Lay
set_option maxRecDepth 100000
set_option linter.unusedVariables false
set_option linter.unusedSimpArgs false
namespace Go.Proofs.YtcoihknokhdbkaaGreatDoor.ties
open Go
theorem rf1:((List.range' 0 400).all (rowFine Tryz.prog))=true:=by kernel_rfl
theorem rf2:((List.range' 400 395).all (rowFine Tryz.prog))=true:=by kernel_rfl
theorem lo2:(Tryz.prog.globals.all (fun g=>decide (g.type<Tryz.prog.types.size)))=true:=by kernel_rfl
theorem lo3:(Tryz.prog.funcs.all (fun f=>f.params.all fun t=>decide (t<Tryz.prog.types.size)))=true:=by kernel_rfl
theorem tsz:Tryz.prog.types.size=795:=by kernel_rfl
theorem aqD:List.range 795=List.range' 0 400++List.range' 400 395:=by decide +kernel
theorem laidOut:laidOutB Tryz.prog=true:=by
 unfold laidOutB
 rw[lo2,lo3,tsz,aqD,List.all_append,rf1,rf2]
 rfl
theorem ar4:mapsRowed Tryz.prog=true:=by kernel_rfl
theorem heard:Tryz.prog.stopsHeard=true:=by kernel_rfl
theorem avH:Tryz.prog.mayEnter=true:=by kernel_rfl
theorem s1:(List.range' 0 400).find? (fun u=>Tryz.prog.typeName? 3 u==some "*errors.errorString")=none:=by kernel_rfl
theorem s2:(List.range' 400 395).find? (fun u=>Tryz.prog.typeName? 3 u==some "*errors.errorString")=some 761:=by kernel_rfl
theorem aAe:(List.range Tryz.prog.types.size).find? (fun u=>Tryz.prog.typeName? 3 u==some "*errors.errorString")=some 761:=by
 rw[tsz,aqD,List.find?_append,s1,s2]
 rfl
def apw:Option TypeDesc→Bool
 |some (.interface _)=>true
 |_=>false
theorem RH{t n:Nat}{d:DataW Unit}(ht:apw (Tryz.prog.underlying t)=true){x:List Value×List Obj}(hx:d.lay Tryz.prog 761 n=some x){y:Value}(hy:Lay.pack Tryz.prog 761 x.1=some y) :
  (DataW.iface "*errors.errorString" d).lay Tryz.prog t n=some ([.iface 761 y],x.2):=by
 unfold apw at ht
 split at ht
 ·rename_i a ha
  rw[DataW.lay,aAe,ha]
  simp only[hx,hy]
 ·cases ht
theorem Nt{n g t:Nat}{x:String×DataW Unit}{r:List (String×DataW Unit)}{y:List Value×List Obj}{z:List (Nat×List Value)×List Obj}(h1:Tryz.prog.globalNamed x.1=some g)(h2:(Tryz.prog.globals[g]?).map (·.type)=some t)
  (h3:x.2.lay Tryz.prog t n=some y) (h4:Lay.layList Tryz.prog (n+y.2.length) r=some z):Lay.layList Tryz.prog n (x::r)=some ((g,y.1)::z.1,y.2++z.2):=by
 rw[Lay.layList,h1]
 cases hg:Tryz.prog.globals[g]? with
 |none=>rw[hg]at h2;cases h2
 |some gl =>
  rw[hg]at h2
  cases h2
  simp only[hg,h3,h4]
end Go.Proofs.YtcoihknokhdbkaaGreatDoor.ties
