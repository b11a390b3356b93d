/- 'SimdiskPlays' returns true where what is read is of bulk at most 1048576: the disk and the document's own disk answer every list of calls alike. The card's listed variables are tied to the program's text. By an AI agent. -/
import Derived.Test.YtckpmlcaaagnkaaDoorDkl4
import Derived.KernelRfl
import Derived.Test.YtckpmlcaaagnkaaDoorProg
import Derived.Shelf.SlIter.Nil
import Derived.Shelf.SortM.Plain
import Derived.Shelf.SortM.SortNone
import Derived.Ground.GgzProg
import Derived.Ground.SlgmProg
import Derived.WideShapes
import Derived.Shelf.Strings.SlTrimAscii
import Derived.Test.YtckpmlcaaagnkaaDoorRows
import Derived.Test.YtckpmlcaaagnkaaDoorTie
import Derived.Test.YtckpmlcaaagnkaaDoorCards
import Derived.Carry
import Derived.WalkKit
import Derived.ProofKit
import Derived.OpenShut
import Derived.LaidMore
import Derived.Lay
import Derived.SevenTiedAt
import Derived.Stop.Joined
import Derived.JoinedCond
import Derived.Deep.DeepHandedRow
set_option maxRecDepth 100000
set_option linter.unusedVariables false
set_option linter.unusedSimpArgs false
namespace Go.Proofs.YtckpmlcaaagnkaaDoor
open Go Go.Ab
abbrev aB := @dW Tryd.prog
theorem Qa:Aa Tryd.prog:=⟨JY (by kernel_rfl),by kernel_rfl⟩
theorem cu {f:FuncId} {fn:Func} {args:List AV} {M:RM} {Q:aj} {B:Prop} (h:B) (hfn:Tryd.prog.funcs[f]?=some fn:=by kernel_rfl) (e:B=BC Tryd.prog fn args M Q:=by kernel_rfl) : aB f args M Q:=Jz Qa hfn (e▸h)
variable {a0 a1 a2 a3 a4 a5 a6 a7:AV} {M:RM} {Q:aj}
theorem nS (h:Go.Ab.Dk.jy (aB 9) (aB 10) (aB 16) 35 (aB 17) (aB 11) (aB 18) 5 (aB 12) (aB 19) (aB 13) (aB 20) (aB 14) (aB 21) (aB 15) (aB 22) (aB 23) (aB 24) 3 (aB 25) (aB 26) (aB 27) (aB 28) a0 a1 M Q) : aB 4 [a0,a1] M Q:=cu (fn:=Tryd.f4) h
theorem uQ (h:Go.Ab.Dk.pO (aB 10) (aB 11) 5 (aB 12) (aB 13) (aB 23) (aB 30) 3 (aB 25) (aB 29) (aB 27) (aB 14) (aB 15) (aB 31) 60  M Q) : aB 9 [] M Q:=cu (fn:=Tryd.f9) h
theorem ul (h:Go.Ab.Dk.mW 73 a0 M Q) : aB 10 [a0] M Q:=cu (fn:=Tryd.f10) h
theorem mH (h:Go.Ab.Dk.iR (aB 33) 78 (aB 34) a0 a1 M Q) : aB 11 [a0,a1] M Q:=cu (fn:=Tryd.f11) h
theorem mI (h:Go.Ab.Dk.iG (aB 35) 5 (aB 36) a0 a1 a2 M Q) : aB 12 [a0,a1,a2] M Q:=cu (fn:=Tryd.f12) h
theorem nE (h:Go.Ab.Dk.jF (aB 36) a0 a1 M Q) : aB 13 [a0,a1] M Q:=cu (fn:=Tryd.f13) h
theorem mM (h:Go.Ab.Dk.iP (aB 33) (aB 34) a0 a1 a2 M Q) : aB 14 [a0,a1,a2] M Q:=cu (fn:=Tryd.f14) h
theorem mR (h:Go.Ab.Dk.iO (aB 34) a0 a1 M Q) : aB 15 [a0,a1] M Q:=cu (fn:=Tryd.f15) h
theorem yA (h:Go.Ab.Dk.ru 50 a0 M Q) : aB 16 [a0] M Q:=cu (fn:=Tryd.f16) h
theorem wP (h:Go.Ab.Dk.qz 9 a0 M Q) : aB 17 [a0] M Q:=cu (fn:=Tryd.f17) h
theorem uj (h:Go.Ab.Dk.mY (aB 37) (aB 38) 5 38 3 (aB 39) a0 a1 M Q) : aB 18 [a0,a1] M Q:=cu (fn:=Tryd.f18) h
theorem ui (h:Go.Ab.Dk.ni (aB 38) (aB 40) 5 a0 a1 a2 M Q) : aB 19 [a0,a1,a2] M Q:=cu (fn:=Tryd.f19) h
theorem wS (h:Go.Ab.Dk.qB (aB 38) a0 a1 M Q) : aB 20 [a0,a1] M Q:=cu (fn:=Tryd.f20) h
theorem uh (h:Go.Ab.Dk.nz (aB 38) (aB 37) (aB 39) a0 a1 a2 M Q) : aB 21 [a0,a1,a2] M Q:=cu (fn:=Tryd.f21) h
theorem uk (h:Go.Ab.Dk.mU (aB 38) (aB 39) a0 a1 M Q) : aB 22 [a0,a1] M Q:=cu (fn:=Tryd.f22) h
theorem l6 (h:Go.Ab.Dk.ic (aB 41) (aB 36) a0 M Q) : aB 23 [a0] M Q:=cu (fn:=Tryd.f23) h
theorem sV (h:Go.Ab.Dk.lM 89 a0 M Q) : aB 24 [a0] M Q:=cu (fn:=Tryd.f24) h
theorem nu (h:Go.Ab.Dk.je (aB 42) 80 (aB 43) (aB 41) (aB 30) a0 a1 M Q) : aB 25 [a0,a1] M Q:=cu (fn:=Tryd.f25) h
theorem uM (h:Go.Ab.Dk.oV (aB 44) 89 (aB 45) 5 a0 a1 M Q) : aB 26 [a0,a1] M Q:=cu (fn:=Tryd.f26) h
theorem nk (h:Go.Ab.Dk.jf a0 a1 M Q) : aB 27 [a0,a1] M Q:=cu (fn:=Tryd.f27) h
theorem zR (h:Go.Ab.Dk.uG (aB 30) (aB 31) 60 (aB 40) (aB 29) a0 a1 M Q) : aB 28 [a0,a1] M Q:=cu (fn:=Tryd.f28) h
theorem nJ (h:Go.Ab.Dk.jE (aB 46) a0 a1 M Q) : aB 29 [a0,a1] M Q:=cu (fn:=Tryd.f29) h
theorem nQ (h:Go.Ab.Dk.jB (aB 48) (aB 47) a0 M Q) : aB 30 [a0] M Q:=cu (fn:=Tryd.f30) h
theorem nG (h:Go.Ab.Dk.jC 60 (aB 35) (aB 49) a0 M Q) : aB 31 [a0] M Q:=cu (fn:=Tryd.f31) h
theorem sJ (h:Go.Ab.Dk.lN (aB 50) a0 M Q) : aB 33 [a0] M Q:=cu (fn:=Tryd.f33) h
theorem lW (h:Go.Ab.Dk.ik 80 (aB 43) a0 a1 M Q) : aB 34 [a0,a1] M Q:=cu (fn:=Tryd.f34) h
theorem mX (h:Go.Ab.Dk.jg a0 M Q) : aB 35 [a0] M Q:=cu (fn:=Tryd.f35) h
theorem lH (h:Go.Ab.Dk.gD (rE Tryd.prog 51) a0 a1 M Q) : aB 36 [a0,a1] M Q:=cu (fn:=Tryd.f36) h
theorem wN (h:Go.Ab.Dk.qy a0 M Q) : aB 37 [a0] M Q:=cu (fn:=Tryd.f37) h
theorem wR (h:Go.Ab.Dk.qO a0 a1 M Q) : aB 38 [a0,a1] M Q:=cu (fn:=Tryd.f38) h
theorem wQ (h:Go.Ab.Dk.qE 86 (aB 45) a0 a1 M Q) : aB 39 [a0,a1] M Q:=cu (fn:=Tryd.f39) h
theorem uZ (h:Go.Ab.Dk.oO a0 M Q) : aB 40 [a0] M Q:=cu (fn:=Tryd.f40) h
theorem eD (h:Go.Ab.Dk.bE 65 (rE Tryd.prog 52) a0 M Q) : aB 41 [a0] M Q:=cu (fn:=Tryd.f41) h
theorem rR (h:Go.Ab.Dk.lU a0 a1 a2 M Q) : aB 42 [a0,a1,a2] M Q:=cu (fn:=Tryd.f42) h
theorem nK (h:Go.Ab.Dk.jA 80 a0 a1 M Q) : aB 43 [a0,a1] M Q:=cu (fn:=Tryd.f43) h
theorem wT (h:Go.Ab.Dk.qm a0 a1 M Q) : aB 44 [a0,a1] M Q:=cu (fn:=Tryd.f44) h
theorem Ap (h:Go.Ab.Dk.vD 86 (aB 53) (aB 38) (aB 54) a0 a1 M Q) : aB 45 [a0,a1] M Q:=cu (fn:=Tryd.f45) h
theorem uA (h:Go.Ab.Dot.EB 5 a0 M Q) : aB 46 [a0] M Q:=cu (fn:=Tryd.f46) h
theorem eF (h:Go.Ab.Dk.bG 65 57 a0 M Q) : aB 48 [a0] M Q:=cu (fn:=Tryd.f48) h
theorem lC (h:Go.Ab.Dk.gp (rE Tryd.prog 58) a0 M Q) : aB 49 [a0] M Q:=cu (fn:=Tryd.f49) h
theorem xU (h:Go.Ab.Dk.sP (aB 54) 89 a0 a1 a2 M Q) : aB 53 [a0,a1,a2] M Q:=cu (fn:=Tryd.f53) h
theorem yI (h:Go.Ab.Dk.sI 89 a0 a1 M Q) : aB 54 [a0,a1] M Q:=cu (fn:=Tryd.f54) h
end Go.Proofs.YtckpmlcaaagnkaaDoor
namespace Go.Proofs
open Go.RowKit Go.Maps Go.Sort Go.Shelf
def Tryd.lKeys_ren:Go.Shelf.Ren:=⟨fun | 7=>48 | 10=>57 | n=>n,fun | 23=>65 | 26=>9 | 3=>75 | 28=>99 | 0=>0 | 27=>98 | 33=>74 | 4=>4 | n=>n,fun | n=>n⟩
theorem Tryd.lKeys:Go.Proofs.SlLaysZ.n7 Tryd.prog Tryd.lKeys_ren where
 mixed:=by kernel_rfl
 f7:=⟨ "maps.Keys[map[string]*rolodex/simdisk.file,string,*rolodex/simdisk.file]",by decide,Tryd.func48.trans (congrArg some (by kernel_rfl))⟩
 f10:=⟨ "maps.Keys[map[string]*rolodex/simdisk.file,string,*rolodex/simdisk.file]$1",by decide,Tryd.func57.trans (congrArg some (by kernel_rfl))⟩
 t0:=Tryd.underlying0
 a0:=Tryd.isAgg0
 z0:=Tryd.sizeOf0
 v0:=Tryd.zeroValue0
 t4:=Tryd.underlying4
 a4:=Tryd.isAgg4
 z4:=Tryd.sizeOf4
 v4:=Tryd.zeroValue4
 t23:=Tryd.underlying65
 a23:=Tryd.isAgg65
 z23:=Tryd.sizeOf65
 v23:=Tryd.zeroValue65
 t26:=Tryd.underlying9
 a26:=Tryd.isAgg9
 z26:=Tryd.sizeOf9
 v26:=Tryd.zeroValue9
 t27:=Tryd.underlying98
 a27:=Tryd.isAgg98
 z27:=Tryd.sizeOf98
 v27:=Tryd.zeroValue98
 t28:=Tryd.underlying99
 a28:=Tryd.isAgg99
 z28:=Tryd.sizeOf99
 v28:=Tryd.zeroValue99
 t33:=Tryd.underlying74
 a33:=Tryd.isAgg74
 z33:=Tryd.sizeOf74
 v33:=Tryd.zeroValue74
def Tryd.lSorted_ren:Go.Shelf.Ren:=⟨fun | 6=>47 | 8=>55 | 9=>56 | 11=>66 | 13=>68 | 12=>67 | 23=>82 | 24=>83 | 14=>73 | 15=>74 | 16=>75 | 17=>76 | 18=>77 | 19=>78 | 20=>79 | 21=>80 | 22=>81 | 25=>87 | 26=>88 | 27=>89 | 28=>90 | 29=>91 | 30=>92 | 31=>97 | n=>n,fun | 26=>9 | 28=>99 | 24=>56 | 0=>0 | 3=>3 | 37=>121 | 48=>136 | 50=>138 | 4=>4 | 40=>128 | 39=>127 | 45=>133 | 5=>5 | 9=>9 | 51=>140 | 55=>144 | 57=>154 | 58=>155 | 33=>74 | n=>n,fun | n=>n⟩
theorem Tryd.lSorted:Go.Proofs.SlLaysZ.n6 Tryd.prog Tryd.lSorted_ren where
 mixed:=by kernel_rfl
 f6:=⟨ "slices.Sorted[string]",by decide,Tryd.func47.trans (congrArg some (by kernel_rfl))⟩
 f8:=⟨ "slices.Collect[string]",by decide,Tryd.func55.trans (congrArg some (by kernel_rfl))⟩
 f11:=⟨ "slices.AppendSeq[[]string,string]",by decide,Tryd.func66.trans (congrArg some (by kernel_rfl))⟩
 t0:=Tryd.underlying0
 a0:=Tryd.isAgg0
 z0:=Tryd.sizeOf0
 v0:=Tryd.zeroValue0
 t24:=Tryd.underlying56
 a24:=Tryd.isAgg56
 z24:=Tryd.sizeOf56
 v24:=Tryd.zeroValue56
 t26:=Tryd.underlying9
 a26:=Tryd.isAgg9
 z26:=Tryd.sizeOf9
 v26:=Tryd.zeroValue9
 t28:=Tryd.underlying99
 a28:=Tryd.isAgg99
 z28:=Tryd.sizeOf99
 v28:=Tryd.zeroValue99
 i26:=by kernel_rfl
def Tryd.lSort_ren:Go.Shelf.Ren:=⟨fun | 6=>56 | 8=>68 | 9=>67 | 19=>82 | 20=>83 | 21=>73 | 22=>74 | 23=>75 | 24=>76 | 25=>77 | 26=>78 | 27=>79 | 28=>80 | 29=>81 | 36=>87 | 31=>88 | 32=>89 | 37=>90 | 38=>91 | 39=>92 | 41=>97 | n=>n,fun | 27=>56 | 29=>9 | 3=>3 | 32=>121 | 26=>56 | 0=>0 | 44=>136 | 46=>138 | 4=>4 | 36=>128 | 35=>127 | 41=>133 | 5=>5 | 9=>9 | 53=>140 | 57=>144 | 63=>154 | 64=>155 | n=>n,fun | n=>n⟩
theorem Tryd.lSort:Go.Proofs.SlLaysM.n6 Tryd.prog Tryd.lSort_ren where
 mixed:=by kernel_rfl
 f6:=⟨ "slices.Sort[[]string,string]",by decide,Tryd.func56.trans (congrArg some (by kernel_rfl))⟩
 f8:=Tryd.func68.trans (congrArg some (by kernel_rfl))
 f9:=⟨ "slices.pdqsortOrdered[string]",by decide,Tryd.func67.trans (congrArg some (by kernel_rfl))⟩
 f19:=Tryd.func82.trans (congrArg some (by kernel_rfl))
 f20:=Tryd.func83.trans (congrArg some (by kernel_rfl))
 f21:=⟨ "slices.insertionSortOrdered[string]",by decide,Tryd.func73.trans (congrArg some (by kernel_rfl))⟩
 f22:=⟨ "slices.heapSortOrdered[string]",by decide,Tryd.func74.trans (congrArg some (by kernel_rfl))⟩
 f23:=⟨ "slices.breakPatternsOrdered[string]",by decide,Tryd.func75.trans (congrArg some (by kernel_rfl))⟩
 f24:=⟨ "slices.choosePivotOrdered[string]",by decide,Tryd.func76.trans (congrArg some (by kernel_rfl))⟩
 f25:=⟨ "slices.reverseRangeOrdered[string]",by decide,Tryd.func77.trans (congrArg some (by kernel_rfl))⟩
 f26:=⟨ "slices.partialInsertionSortOrdered[string]",by decide,Tryd.func78.trans (congrArg some (by kernel_rfl))⟩
 f27:=⟨ "cmp.Less[string]",by decide,Tryd.func79.trans (congrArg some (by kernel_rfl))⟩
 f28:=⟨ "slices.partitionEqualOrdered[string]",by decide,Tryd.func80.trans (congrArg some (by kernel_rfl))⟩
 f29:=⟨ "slices.partitionOrdered[string]",by decide,Tryd.func81.trans (congrArg some (by kernel_rfl))⟩
 f31:=Tryd.func88.trans (congrArg some (by kernel_rfl))
 f32:=Tryd.func89.trans (congrArg some (by kernel_rfl))
 f36:=⟨ "slices.siftDownOrdered[string]",by decide,Tryd.func87.trans (congrArg some (by kernel_rfl))⟩
 f37:=⟨ "slices.medianAdjacentOrdered[string]",by decide,Tryd.func90.trans (congrArg some (by kernel_rfl))⟩
 f38:=⟨ "slices.medianOrdered[string]",by decide,Tryd.func91.trans (congrArg some (by kernel_rfl))⟩
 f39:=⟨ "cmp.isNaN[string]",by decide,Tryd.func92.trans (congrArg some (by kernel_rfl))⟩
 f41:=⟨ "slices.order2Ordered[string]",by decide,Tryd.func97.trans (congrArg some (by kernel_rfl))⟩
 t0:=Tryd.underlying0
 a0:=Tryd.isAgg0
 z0:=Tryd.sizeOf0
 v0:=Tryd.zeroValue0
 t3:=Tryd.underlying3
 a3:=Tryd.isAgg3
 z3:=Tryd.sizeOf3
 v3:=Tryd.zeroValue3
 t4:=Tryd.underlying4
 a4:=Tryd.isAgg4
 z4:=Tryd.sizeOf4
 v4:=Tryd.zeroValue4
 t5:=Tryd.underlying5
 a5:=Tryd.isAgg5
 z5:=Tryd.sizeOf5
 v5:=Tryd.zeroValue5
 t9:=Tryd.underlying9
 a9:=Tryd.isAgg9
 z9:=Tryd.sizeOf9
 v9:=Tryd.zeroValue9
 t26:=Tryd.underlying56
 a26:=Tryd.isAgg56
 z26:=Tryd.sizeOf56
 v26:=Tryd.zeroValue56
 t27:=Tryd.underlying56
 a27:=Tryd.isAgg56
 z27:=Tryd.sizeOf56
 v27:=Tryd.zeroValue56
 t29:=Tryd.underlying9
 a29:=Tryd.isAgg9
 z29:=Tryd.sizeOf9
 v29:=Tryd.zeroValue9
 t32:=Tryd.underlying121
 a32:=Tryd.isAgg121
 z32:=Tryd.sizeOf121
 v32:=Tryd.zeroValue121
 t35:=Tryd.underlying127
 a35:=Tryd.isAgg127
 z35:=Tryd.sizeOf127
 v35:=Tryd.zeroValue127
 t36:=Tryd.underlying128
 a36:=Tryd.isAgg128
 z36:=Tryd.sizeOf128
 v36:=Tryd.zeroValue128
 t41:=Tryd.underlying133
 a41:=Tryd.isAgg133
 z41:=Tryd.sizeOf133
 v41:=Tryd.zeroValue133
 t44:=Tryd.underlying136
 a44:=Tryd.isAgg136
 z44:=Tryd.sizeOf136
 v44:=Tryd.zeroValue136
 t46:=Tryd.underlying138
 a46:=Tryd.isAgg138
 z46:=Tryd.sizeOf138
 v46:=Tryd.zeroValue138
 t53:=Tryd.underlying140
 a53:=Tryd.isAgg140
 z53:=Tryd.sizeOf140
 v53:=Tryd.zeroValue140
 t57:=Tryd.underlying144
 a57:=Tryd.isAgg144
 z57:=Tryd.sizeOf144
 v57:=Tryd.zeroValue144
 t63:=Tryd.underlying154
 a63:=Tryd.isAgg154
 z63:=Tryd.sizeOf154
 v63:=Tryd.zeroValue154
 t64:=Tryd.underlying155
 a64:=Tryd.isAgg155
 z64:=Tryd.sizeOf155
 v64:=Tryd.zeroValue155
end Go.Proofs
namespace Go.Ab.Dk
open Go Go.Ab Go.RowKit Go.Proofs Go.Maps Go.Sort Go.MapKept Go.WideShapes
open Go.WideElems (Fit rg)
open Go.Proofs.YtckpmlcaaagnkaaDoor
theorem Ld (m:Nat) : AnyZ.SortsIn Tryd.prog Tryd.lSorted_ren Fence.wide m :=
 ⟨fun blk off cap ss W hH hblk hsz=>callsIn_wide.2 (AnyM.slices_Sort_string Tryd.lSort blk off cap ss W hH hblk hsz),
  fun p cap W=>callsIn_wide.2 (AnyM.slices_Sort_string_none Tryd.lSort p cap W)⟩
def Cn:Value→Option (DataW Unit × List MemPlace):=fun _=>some (.nil,[])
theorem fits {ρ:Ren} {fbs:List Nat} {cl:Nat} : ∀ {es:List (AV × AV × Nat)} {fs:List MapEntry} {d:Dir} {lo:Nat},dS fbs cl lo es d→bB ρ es fs→iE d →
  (fs.map (·.key))=d.map (fun e=>encStr e.1)∧(∀ x∈fs,x.born<cl∧lo≤x.born)∧(fs.map (·.born)).Nodup∧fs.length=d.length
 | [],[],[],_,_,_,_=>⟨rfl,by simp,by simp,rfl⟩
 | (k,v,n) :: es,f :: fs,x :: d,lo,⟨h1,h2,h3,h4,h5⟩,hr,hw=>by
   obtain⟨r1,r2,r3,r4⟩:=hr
   have hw' : iE d:=⟨(List.nodup_cons.1 hw.1).2,fun n hn=>hw.2 n (List.mem_cons_of_mem _ hn)⟩
   have h5:dS fbs cl (n + 1) es d:=h5
   obtain⟨a1,a2,a3,a4⟩:=fits h5 r4 hw'
   simp only at h1 h3 h4 r3
   subst h1
   obtain⟨hk,_⟩:=aF r1
   refine⟨?_, ?_, ?_, ?_⟩
   ·simp only[List.map_cons,a1]
    rw[hk]
   ·intro y hy
    rcases List.mem_cons.1 hy with rfl | hy
    ·rw[r3]; exact⟨h4,h3⟩
    ·have:=a2 y hy; exact⟨this.1,by omega⟩
   ·rw[List.map_cons,List.nodup_cons]
    refine⟨fun hm=>?_,a3⟩
    obtain⟨y,hy,he⟩:=List.mem_map.1 hm
    have:=(a2 y hy).2
    omega
   ·simp[a4]
theorem strKeys_perm {fs:List MapEntry} {d:Dir} (hk:fs.map (·.key)=d.map (fun e=>encStr e.1)) (hl:∀ n∈aA d,n.length≤64) :
  (strKeys (.map ((fs.map (rg (H:=Unit) Tryd.prog 9 Cn)).foldr DataW.insert []))).Perm (aA d):=by
 have h1:((fs.map (rg (H:=Unit) Tryd.prog 9 Cn)).foldr DataW.insert []).Perm (fs.map (rg (H:=Unit) Tryd.prog 9 Cn)):=sorted_perm _
 refine(h1.map _).trans ?_
 clear h1
 induction fs generalizing d with
 | nil =>
   cases d with
   | nil=>exact .refl _
   | cons=>simp at hk
 | cons f fs ih =>
   cases d with
   | nil=>simp at hk
   | cons x d =>
     simp only[List.map_cons,List.cons.injEq] at hk
     have e:strOf (rg (H:=Unit) Tryd.prog 9 Cn f).1=x.1:=by
      have hle:x.1.length≤64:=hl _ (by simp[aA])
      have:keyOf Tryd.prog 9 f.key=some (.string x.1):=by
       rw[hk.1]
       unfold keyOf mapKey
       simp only[Tryd.underlying9,encStr]
       rw[if_pos (by show x.1.length≤maxLen; unfold maxLen; omega)]
      unfold rg Go.WideElems.rd
      rw[this]; rfl
     simp only[aA,List.map_cons,e]
     exact .cons _ (ih hk.2 fun n hn=>hl n (List.mem_cons_of_mem _ hn))
theorem BZ (ρ:Ren) : ∀ l:List Nm,aK ρ (l.map fun s=>St s) (l.map encStr)
 | []=>.nil
 | s :: l=>.cons _ _ _ _ (.sc _ rfl) (BZ ρ l)
theorem Lv {P:Program} {ρ:Ren} {M:RM} {w:World} (hw:bO P ρ M w) {b:Nat} {i:dR} {l:List AV} {p:Bool} {e f:Nat} (hb:ρ b=some i) (hh:M.heap b=some (.row l p e f)) : i.sh=0:=by
 obtain⟨A,hA⟩:=hw
 rcases hA.blk b _ hh with⟨y,hy,hr⟩ | ⟨c,he,_⟩
 ·obtain⟨o,_,ho⟩:=hA.rel.blk b i y hb hy
  cases y with
  | row n t z op el fz=>obtain⟨c,fr,_,hrow⟩:=ho; exact hrow.sh0
  | map=>exact hr.elim
  | iter=>exact hr.elim
  | gT=>exact hr.elim
 ·cases he
theorem sorted {TM:Nat} : F5 9 TM 57 (aB 47):=by
 intro own M fbs m b d t Q hm hh hlt hlen hwf hQ
 obtain⟨es,cl,hmh,he⟩:=hm.heap
 refine dW.ME (T:=9) (n:=(gy (aA d)).length) (cs:=(gy (aA d)).map fun s=>St s) ⟨Tryd.f47,_,Tryd.func47,rfl⟩ (by kernel_rfl) (by simp[oneCell]) (by simp) (fun ρ w us hus hw=>?_) (fun v M' o k=>hQ v M' (by rw[← Lr] at o; exact o) k)
 cases hus with
 | cons _ u1 _ us r1 hus =>
 cases hus
 cases r1 with
 | fn _ _ _ us1 vs1 hp q1 q2 =>
 cases q1
 cases q2 with
 | cons _ u2 _ us r2 q3 =>
 cases q3
 obtain⟨i,hbi,rfl⟩:=bL r2
 have hsh:=Lv hw hbi hh
 obtain⟨u,hu,hcell⟩:=mD hw hbi (show M.loads b 0 1=some [.map m] by rw[RM.rC hh]; rfl)
 cases hu with
 | map _ j hmj =>
 obtain⟨A,hA⟩:=hw
 obtain⟨fs,hob,hfs⟩:=qY hA hmj hmh
 obtain⟨a1,a2,a3,a4⟩:=fits he hfs hwf
 rw[hsh] at hcell
 rw[hsh]
 have hdl:fs.size=d.length:=by rw[← a4]; simp
 have Oz:Fit (H:=Unit) Tryd.prog 9 Cn fs cl:=by
  refine⟨by rw[hdl]; unfold maxLen; omega,⟨fun x hx=>(a2 x hx).1,a3, ?_⟩,fun x hx=>?_⟩
  ·rw[a1]
   have:=hwf.1
   have e:d.map (fun e=>encStr e.1)=(aA d).map encStr:=by simp[aA]
   rw[e]
   exact List.Pairwise.map _ (fun a b h h2=>h (encStr_inj h2)) this
  ·have hxk:x.key∈fs.toList.map (·.key):=List.mem_map_of_mem hx
   rw[a1] at hxk
   obtain⟨y,hy,hye⟩:=List.mem_map.1 hxk
   have hle:=hwf.2 y.1 (List.mem_map_of_mem hy)
   refine⟨(.string y.1,.nil), ?_⟩
   unfold Go.WideElems.rd
   have:keyOf Tryd.prog 9 x.key=some (.string y.1):=by
    rw[← hye]
    unfold keyOf mapKey
    simp only[Tryd.underlying9,encStr]
    rw[if_pos (by show y.1.length≤maxLen; unfold maxLen; omega)]
   rw[this]; rfl
 have hown:w.ownsMap Tryd.prog 9 Cn j.cb fs.size (.map ((fs.toList.map (rg (H:=Unit) Tryd.prog 9 Cn)).foldr DataW.insert [])):=⟨fs,cl,hob,Oz,Nat.le_refl _,rfl⟩
 have hsz:Maps.size (DataW.map ((fs.toList.map (rg (H:=Unit) Tryd.prog 9 Cn)).foldr DataW.insert []))=d.length:=by
  rw[size_eq,length_sorted,List.length_map,a4]
 have hil:=hA.rel.dom b i hbi
 have hseq:SeqGives Fence.wide 2 Tryd.prog 57 #[.pointer (some ⟨i.cb,0,none⟩)] encStr _ _ w:=AnyZ.keys_gives (ρ:=Tryd.lKeys_ren) { Tryd.lKeys with } Fence.wide _ trivial rfl (by omega) i.cb j.cb fs.size _ w hil.2 hcell hown
 refine(callsIn_wide (n:=5)).1 ?_
 have cS:=AnyZ.sorted_in Tryd.lSorted Fence.wide 5 trivial trivial trivial trivial rfl (by omega) (Ld _) (enters_of Tryd.func56 (by kernel_rfl) rfl) 57 #[.pointer (some ⟨i.cb,0,none⟩)] trivial (enters_of Tryd.func57 (by kernel_rfl) rfl) _ _ (by rw[hsz]; unfold maxLen; omega) (by rw[hsz]; omega) _ hseq
 change CallsIn _ _ Tryd.prog 47 _ _ _ at cS
 refine cS.mono ?_
 rintro e w' ⟨v,ss,rfl,hS,hrow,hnil,hb⟩
 have hperm:ss.Perm (aA d):=hS.trans (strKeys_perm a1 hwf.2)
 rw[EQ hperm] at hrow
 have hl:ss.length=(gy (aA d)).length:=by rw[hperm.length_eq,(jc _).length_eq]
 rw[hl] at hrow
 exact⟨v,_,rfl,hrow,fun ρ'=>BZ ρ' _,hb⟩
end Go.Ab.Dk
namespace Go.Proofs
open Go.RowKit Go.Maps Go.Sort Go.Shelf
def Tryd.lays160_ren:Go.Shelf.Ren:=⟨fun | 160=>50 | 232=>60 | 231=>59 | 227=>61 | 234=>63 | 233=>62 | 236=>65 | 235=>64 | 228=>69 | 271=>72 | 151=>71 | 197=>70 | 120=>86 | 152=>85 | 260=>84 | 137=>93 | 119=>94 | 224=>95 | 225=>96 | 217=>98 | 266=>99 | n=>n,fun | 9=>9 | 4=>4 | 3=>3 | 5=>5 | 117=>114 | 116=>113 | 0=>0 | 124=>117 | 21=>21 | 105=>123 | 46=>121 | 119=>146 | 139=>149 | 138=>148 | n=>n,fun | 3=>0 | 4=>1 | n=>n⟩
theorem Tryd.lays160:Go.Proofs.Lays.n160 Tryd.prog Tryd.lays160_ren where
 mixed:=by kernel_rfl
 f119:=Tryd.func94.trans (congrArg some (by kernel_rfl))
 f120:=Tryd.func86.trans (congrArg some (by kernel_rfl))
 f137:=Tryd.func93.trans (congrArg some (by kernel_rfl))
 f151:=Tryd.func71.trans (congrArg some (by kernel_rfl))
 f152:=Tryd.func85.trans (congrArg some (by kernel_rfl))
 f160:=Tryd.func50.trans (congrArg some (by kernel_rfl))
 f197:=Tryd.func70.trans (congrArg some (by kernel_rfl))
 f217:=Tryd.func98.trans (congrArg some (by kernel_rfl))
 f224:=Tryd.func95.trans (congrArg some (by kernel_rfl))
 f225:=Tryd.func96.trans (congrArg some (by kernel_rfl))
 f227:=Tryd.func61.trans (congrArg some (by kernel_rfl))
 f228:=Tryd.func69.trans (congrArg some (by kernel_rfl))
 f231:=Tryd.func59.trans (congrArg some (by kernel_rfl))
 f232:=Tryd.func60.trans (congrArg some (by kernel_rfl))
 f233:=Tryd.func62.trans (congrArg some (by kernel_rfl))
 f234:=Tryd.func63.trans (congrArg some (by kernel_rfl))
 f235:=Tryd.func64.trans (congrArg some (by kernel_rfl))
 f236:=Tryd.func65.trans (congrArg some (by kernel_rfl))
 f260:=Tryd.func84.trans (congrArg some (by kernel_rfl))
 f266:=Tryd.func99.trans (congrArg some (by kernel_rfl))
 f271:=Tryd.func72.trans (congrArg some (by kernel_rfl))
 t0:=Tryd.underlying0
 a0:=Tryd.isAgg0
 z0:=Tryd.sizeOf0
 v0:=Tryd.zeroValue0
 t3:=Tryd.underlying3
 a3:=Tryd.isAgg3
 z3:=Tryd.sizeOf3
 v3:=Tryd.zeroValue3
 t4:=Tryd.underlying4
 a4:=Tryd.isAgg4
 z4:=Tryd.sizeOf4
 v4:=Tryd.zeroValue4
 t5:=Tryd.underlying5
 a5:=Tryd.isAgg5
 z5:=Tryd.sizeOf5
 v5:=Tryd.zeroValue5
 t9:=Tryd.underlying9
 a9:=Tryd.isAgg9
 z9:=Tryd.sizeOf9
 v9:=Tryd.zeroValue9
 t21:=Tryd.underlying21
 a21:=Tryd.isAgg21
 z21:=Tryd.sizeOf21
 v21:=Tryd.zeroValue21
 t46:=Tryd.underlying121
 a46:=Tryd.isAgg121
 z46:=Tryd.sizeOf121
 v46:=Tryd.zeroValue121
 t105:=Tryd.underlying123
 a105:=Tryd.isAgg123
 z105:=Tryd.sizeOf123
 v105:=Tryd.zeroValue123
 t116:=Tryd.underlying113
 a116:=Tryd.isAgg113
 z116:=Tryd.sizeOf113
 t117:=Tryd.underlying114
 a117:=Tryd.isAgg114
 z117:=Tryd.sizeOf114
 v117:=Tryd.zeroValue114
 t119:=Tryd.underlying146
 a119:=Tryd.isAgg146
 z119:=Tryd.sizeOf146
 t124:=Tryd.underlying117
 a124:=Tryd.isAgg117
 z124:=Tryd.sizeOf117
 v124:=Tryd.zeroValue117
 t138:=Tryd.underlying148
 a138:=Tryd.isAgg148
 z138:=Tryd.sizeOf148
 v138:=Tryd.zeroValue148
 t139:=Tryd.underlying149
 a139:=Tryd.isAgg149
 z139:=Tryd.sizeOf149
 v139:=Tryd.zeroValue149
 g3:=by kernel_rfl
 g4:=by kernel_rfl
end Go.Proofs
namespace Go.Ab.Dk
open Go Go.Ab Go.RowKit Go.Proofs
open Go.Proofs.YtckpmlcaaagnkaaDoor
theorem OG:yC (rE Tryd.prog 51):=by
 intro M b o el l p x y Q hh hl hQ
 exact .inr (.inr (.inr (.inr ⟨_,_,zA (f:=51) Tryd.func51 (by decide) rfl (by kernel_rfl) (by kernel_rfl) hh hl,hQ⟩)))
theorem Nz:Ay (rE Tryd.prog 58):=by
 intro M b o el l p x Q hh hl hQ
 exact .inr (.inr (.inr (.inl ⟨_,wO (f:=58) Tryd.func58 (by decide) rfl (by kernel_rfl) (by kernel_rfl) hh hl,hQ⟩)))
theorem LU:F7 65 (rE Tryd.prog 52):=by
 intro M m cl es Q hh hQ
 exact .inr (.inr (.inr (.inr ⟨_,_,yB (f:=52) Tryd.func52 (by decide) rfl (by kernel_rfl) (by kernel_rfl) hh,hQ⟩)))
abbrev oP:List UInt8:=[97,98,99,100,101,102,103,104,105,106,107,108,109,110,111,112,113,114,115,116,117,118,119,120,121,122,48,49,50,51,52,53,54,55,56,57,46,45,95]
theorem Ig:∀ (j:Nat) b,(⟨⟨oP⟩⟩ : ByteArray).data.toList[j]?=some b→b.toNat<128:=fun j b h=>by
 have hm:b∈oP:=List.mem_of_getElem? h
 have:oP.all (fun b=>decide (b.toNat<128))=true:=by decide
 exact of_decide_eq_true (List.all_eq_true.1 this b hm)
theorem Lc (b:UInt8) : oP.contains b=iF b:=by
 have:∀ n:Fin 256,oP.contains (UInt8.ofNat n.val)=iF (UInt8.ofNat n.val):=by decide
 have h:=this ⟨b.toNat,b.toNat_lt⟩
 simpa using h
theorem dropWhile_nil {p:UInt8→Bool} : ∀ {l:List UInt8},l.dropWhile p=[]↔l.all p=true
 | []=>by simp
 | a :: l=>by
   rw[List.dropWhile_cons,List.all_cons]
   cases h:p a
   ·simp
   ·simp only[if_true,Bool.true_and]; exact dropWhile_nil
theorem Il (s:List UInt8) : Lib.trimS s oP=[]↔s.all iF=true:=by
 have e:(fun b=>oP.contains b)=iF:=funext Lc
 unfold Lib.trimS Lib.trimLeftS Lib.trimRightS
 rw[dropWhile_nil,e,List.all_reverse]
 constructor
 ·intro h
  rw[List.all_eq_true] at h ⊢
  have h1:s.reverse.dropWhile iF=[]:=by
   by_cases hd:s.reverse.dropWhile iF=[]
   ·exact hd
   ·have:=List.head_dropWhile_not iF hd
    have h2:=h _ (List.head_mem hd)
    rw[this] at h2; cases h2
  have:=dropWhile_nil.1 h1
  rw[List.all_reverse,List.all_eq_true] at this
  exact this
 ·intro h
  have h1:s.reverse.dropWhile iF=[]:=dropWhile_nil.2 (by rw[List.all_reverse]; exact h)
  rw[h1]; rfl
theorem Lp:Dh (aB 50):=by
 intro M s Q h1 h2 hQ
 refine dW.Ky (v:=St (Lib.trimS s oP)) ⟨Tryd.f50,_,Tryd.func50,rfl⟩ (fun ρ w us hus hw=>?_) (hQ M _ (af.refl _ _) (Il s))
 cases hus with
 | cons _ u1 _ us r1 hus =>
 cases hus with
 | cons _ u2 _ us r2 hus =>
 cases hus
 obtain⟨rfl,_⟩:=aF r1
 obtain⟨rfl,_⟩:=aF r2
 refine(Any.strings_Trim_set Tryd.lays160 Tryd.zeroValue113 (by kernel_rfl) ⟨⟨s⟩⟩ ⟨⟨oP⟩⟩ w (by decide) (by show 0<s.length; omega) (by show s.length≤_; omega) (by decide) Ig).mono fun e w' ⟨he,q,hb⟩=>⟨_,he, ?_,.sc _ rfl⟩
 rw[hb]
 have h1:=(Below.refl w.heap.size w).alloc (Nat.le_refl _) (.cells (Lib.setCells oP) 113)
 have h2:=h1.alloc h1.size (.cells (Lib.setCells oP) 113)
 exact⟨h2.os,h2.tape,h2.output,h2.size,h2.block⟩
end Go.Ab.Dk
namespace Go.Proofs.YtckpmlcaaagnkaaDoor.mQ
open Go Go.Ab Go.Ab.Dk Go.RowKit
theorem MK:FU 5 (aB 46):=fun h1 h2 h3 h4 _ hQ=>uA (Go.Ab.Dot.Jg h1 h2 (Nat.le_refl _) h3 h4 hQ)
theorem JE:yC (aB 36):=by
 intro M b o el l p x y Q h1 h2 h3
 obtain⟨a0,a1,e,h⟩:=JQ OG h1 h2 h3
 cases e; exact lH h
theorem Nw:Ay (aB 49):=by
 intro M b o el l p x Q h1 h2 h3
 obtain⟨a0,e,h⟩:=Jf Nz h1 h2 h3
 cases e; exact lC h
theorem FC:vW (aB 41):=by
 intro M m cl es Q h1 h2
 obtain⟨a0,e,h⟩:=Fg LU h1 h2
 cases e; exact eD h
theorem NR:HY (aB 42):=by
 intro M v p i n Q h1 h2 h3
 obtain⟨a0,a1,a2,e,h⟩:=Jt h1 h2 h3
 cases e; exact rR h
theorem KM:Da (aB 33):=by
 intro M s Q h1
 obtain⟨a0,e,h⟩:=II Lp h1
 cases e; exact sJ h
theorem Om:KU (aB 43):=by
 intro own M fbs m d t ch Q h1 h2 h3
 obtain⟨a0,a1,e,h⟩:=Lb (TC:=80) h1 h2 h3
 cases e; exact nK h
theorem yL:oJ 73 78 5 80 (aB 34):=by
 intro own M db s fbs nm sm cv ch Q h1 h2 h3 h4
 obtain⟨a0,a1,e,h⟩:=EH Om h1 h2 h3 h4
 cases e; exact lW h
theorem MI:Gd 73 78 5 80 (aB 10):=by
 intro M n Q h1 h2
 obtain⟨a0,e,h⟩:=J5 h1 h2
 cases e; exact ul h
theorem Fy:BQ 73 78 5 80 dE (aB 11):=by
 intro own M db s n Q h1 h2 h3
 obtain⟨a0,a1,e,h⟩:=Fp KM yL h1 h2 h3
 cases e; exact mH h
theorem Jc:Au 73 78 5 80 (aB 35):=by
 intro own M db s Q h1 h2 h3
 obtain⟨a0,e,h⟩:=Ia h1 h2 h3
 cases e; exact mX h
theorem F9:wD 73 78 5 80 (aB 12):=by
 intro own M db s n v b Q h1 h2 h3 h4 h5 h6 h7
 obtain⟨a0,a1,a2,e,h⟩:=Fs Jc JE h1 h2 h3 h4 h5 h6 h7
 cases e; exact mI h
theorem KA:CU 73 78 5 80 (aB 13):=by
 intro own M db s n Q h1 h2
 obtain⟨a0,a1,e,h⟩:=Je JE h1 h2
 cases e; exact nE h
theorem FO:vO 73 78 5 80 (aB 14):=by
 intro own M db s n to Q h1 h2 h3
 obtain⟨a0,a1,a2,e,h⟩:=EN KM yL h1 h2 h3
 cases e; exact mM h
theorem FH:BQ 73 78 5 80 iN (aB 15):=by
 intro own M db s n Q h1 h2 h3
 obtain⟨a0,a1,e,h⟩:=Fj yL h1 h2 h3
 cases e; exact mR h
theorem Dz:sS 73 78 5 80 (aB 23):=by
 intro own M db s Q h1 h2
 obtain⟨a0,e,h⟩:=DU FC JE h1 h2
 cases e; exact l6 h
theorem IL:zY 73 78 5 80 (aB 27):=by
 intro own M db s n Q h1 h2
 obtain⟨a0,a1,e,h⟩:=HV h1 h2
 cases e; exact nk h
theorem KI:CX 73 78 5 80 (aB 29):=by
 intro own M db s n Q h1 h2 h3
 obtain⟨a0,a1,e,h⟩:=Jw MK h1 h2 h3
 cases e; exact nJ h
theorem KW:CS 73 78 5 80 (aB 31):=by
 intro own M db s Q h1 h2 h3
 obtain⟨a0,e,h⟩:=Jr (TS:=60) Jc Nw h1 h2 h3
 cases e; exact nG h
theorem Ni:Gj 65 57 (aB 48):=by
 intro M m Q h1
 obtain⟨a0,e,h⟩:=IA h1
 cases e; exact eF h
theorem GN:zT 73 78 5 80 9 (aB 30):=by
 intro own M db s Q h1 h2 h3 h4
 obtain⟨a0,e,h⟩:=Iy Ni sorted h1 h2 h3 h4
 cases e; exact nQ h
theorem I5:zS 73 78 5 80 (aB 25):=by
 intro own M db s v p Q h1 h2 h3 h4 h5 h6 h7 h8 h9
 obtain⟨a0,a1,e,h⟩:=GY NR Om FC GN h1 h2 h3 h4 h5 h6 h7 h8 h9
 cases e; exact nu h
theorem MF:AR (aB 9):=by
 intro M Q h1
 obtain⟨e,h⟩:=GQ (TI:=3) (TT:=60) MI Fy F9 KA Dz GN I5 KI IL FO FH KW h1
 exact uQ h
theorem cells3:Tryd.prog.cellsOf 3=1:=by kernel_rfl
theorem MN:Tryd.prog.cellsOf 9=1:=by kernel_rfl
theorem Li:Tryd.prog.cellsOf 33=1:=by kernel_rfl
theorem Bc:Tryd.prog.cellsOf 35=6:=by kernel_rfl
theorem NF:H7 (aB 17):=by
 intro M n Q h1
 obtain⟨a0,e,h⟩:=Iq (T:=9) h1
 cases e; exact wP h
theorem wK:qf (aB 38):=by
 intro M v l n Q h1 h2 h3
 obtain⟨a0,a1,e,h⟩:=find_spec h1 h2 h3
 cases e; exact wR h
theorem KH:zV (aB 37):=by
 intro M s Q h1 h2
 obtain⟨a0,e,h⟩:=DR h1 h2
 cases e; exact wN h
theorem MM:Gn 89 (aB 54):=by
 intro M v l n Q h1 h2 h3
 obtain⟨a0,a1,e,h⟩:=JC h1 h2 h3
 cases e; exact yI h
theorem Pk:Kr 89 (aB 53):=by
 intro M v l n f Q h1 h2 h3
 obtain⟨a0,a1,a2,e,h⟩:=Kw MM h1 h2 h3
 cases e; exact xU h
theorem N9:H8 (aB 45):=by
 intro M v l ch Q h1 h2 h3
 obtain⟨a0,a1,e,h⟩:=Kt (TC:=86) Pk wK MM h1 h2 h3
 cases e; exact Ap h
theorem NP:D9 (aB 44):=by
 intro M v p n Q h1 h2 h3 h4
 obtain⟨a0,a1,e,h⟩:=En h1 h2 h3 h4
 cases e; exact wT h
theorem Jk:wJ 50 5 38 3 86 (aB 40):=by
 intro own M rb r Q h1 h2 h3 h4 h5
 obtain⟨a0,e,h⟩:=CE h1 h2 h3 h4 h5
 cases e; exact uZ h
theorem Hu:Av 50 5 38 3 86 (aB 39):=by
 intro own M rb r k Q h1 h2 h3 h4
 obtain⟨a0,a1,e,h⟩:=Ir N9 h1 h2 h3 h4
 cases e; exact wQ h
theorem OZ:GU 50 5 38 3 86 (aB 16):=by
 intro M q Q h1
 obtain⟨a0,e,h⟩:=EO h1
 cases e; exact yA h
theorem LA:BL 50 5 38 3 86 lK (aB 18):=by
 intro own M rb r n Q h1 h2 h3 h4 h5 h6 h7
 obtain⟨a0,a1,e,h⟩:=Bq KH wK Hu h1 h2 h3 h4 h5 h6 h7
 cases e; exact uj h
theorem Ls:xQ 50 5 38 3 86 (aB 19):=by
 intro own M rb r n u ys Q h1 h2 h3 h4 h5 h6 h7 h8 h9
 obtain⟨a0,a1,a2,e,h⟩:=BF wK Jk h1 h2 h3 h4 h5 h6 h7 h8 h9
 cases e; exact ui h
theorem NJ:DF 50 5 38 3 86 (aB 20):=by
 intro own M rb r n Q h1 h2 h3 h4
 obtain⟨a0,a1,e,h⟩:=Dp wK h1 h2 h3 h4
 cases e; exact wS h
theorem Lx:zB 50 5 38 3 86 (aB 21):=by
 intro own M rb r n to Q h1 h2 h3 h4 h5
 obtain⟨a0,a1,a2,e,h⟩:=A7 wK KH Hu h1 h2 h3 h4 h5
 cases e; exact uh h
theorem KY:BL 50 5 38 3 86 l7 (aB 22):=by
 intro own M rb r n Q h1 h2 h3 h4 h5 h6 h7
 obtain⟨a0,a1,e,h⟩:=Bi wK Hu h1 h2 h3 h4 h5 h6 h7
 cases e; exact uk h
theorem JH:vI 50 5 38 3 86 (aB 24):=by
 intro own M rb r Q h1 h2 h3
 obtain⟨a0,e,h⟩:=zG (TE:=89) h1 h2 h3
 cases e; exact sV h
theorem Mw:BG 50 5 38 3 86 (aB 26):=by
 intro own M rb r v p Q h1 h2 h3 h4 h5 h6 h7 h8 h9
 obtain⟨a0,a1,e,h⟩:=CJ (TE:=89) NP N9 h1 h2 h3 h4 h5 h6 h7 h8 h9
 cases e; exact uM h
theorem PW:Mx 73 78 5 80 50 38 3 86 (aB 28):=by
 intro own bH M db rb s r Q h1 h2 h3 h4 h5 h6 h7 h8 h9
 obtain⟨a0,a1,e,h⟩:=LB (TT:=60) GN KW Jk KI h1 h2 h3 h4 h5 h6 h7 h8 h9
 cases e; exact zR h
theorem rf {H:Type} : ∀ {ds:List (DataW H)} {d:DataW H},d∈ds→Rows.uptoBulk d≤Rows.uptoBulkAll ds
 | [],_,h=>by cases h
 | x :: ds,d,h=>by
   simp only[Rows.uptoBulkAll]
   rcases List.mem_cons.1 h with rfl | h
   ·omega
   ·have:=rf h; omega
theorem JX {H:Type} (d:DataW H) : 1≤Rows.uptoBulk d:=by
 cases d with
 | lit l=>cases l <;> simp[Rows.uptoBulk]
 | _=>simp[Rows.uptoBulk]
theorem Ef {H:Type} : ∀ (ds:List (DataW H)),ds.length≤Rows.uptoBulkAll ds
 | []=>by simp
 | d :: ds=>by
   have h1:=JX d
   have h2:=Ef ds
   simp only[Rows.uptoBulkAll,List.length_cons]
   omega
theorem I1 {H:Type} : DV (H:=H) Rows.uptoBulk where
 str bs:=by simp[Rows.uptoBulk]
 len es sp:=by have:=Ef es; simp only[Rows.uptoBulk]; omega
 elem es sp d h:=by have:=rf h; simp only[Rows.uptoBulk]; omega
 spare es sp d h:=by have:=rf h; simp only[Rows.uptoBulk]; omega
 agg ps d h:=by have:=rf h; simp only[Rows.uptoBulk]; omega
theorem Mq {v:AV} (h:LY v) : rQ v:=by
 cases v with
 | slc b o n c=>cases c <;> exact h
 | _=>exact trivial
theorem Hw {B:Nat} {M:RM} {cs:List AV} (h:bW B Tryd.prog M 33 cs) : ∃ v,∃ l:List Int,cs=[v]∧Sl INT M v l∧rQ v∧l.length≤B:=by
 obtain⟨v,n,ds,rfl,hs,hb,hc,he⟩:=h.Cg Tryd.underlying33 (by rw[cells3]; decide)
 rw[cells3] at hs he
 obtain⟨xs,rfl,rfl,hp⟩:=uN (size:=1) INT.cells (fun d:Int=>True) (fun _=>rfl) n ds hs.length fun i hi=>by
  obtain⟨d,e,h1,h2⟩:=(he i hi).og Tryd.underlying3
  exact⟨d,trivial,e⟩
 exact⟨v,xs,rfl,hs,Mq hc,hb⟩
theorem IJ {B:Nat} (hB:B≤1000000000) {M:RM} {cs:List AV} (h:bW B Tryd.prog M 35 cs) : ∃ a:yF,AJ B M a∧cs=mf.cells a:=by
 obtain⟨hl,hf⟩:=h.GA Tryd.underlying35
 rw[Bc] at hl
 match cs,hl with
 | [a,b,c,d,e,g],_ =>
   have f0:bW B Tryd.prog M 3 (([a,b,c,d,e,g].drop 0).take (Tryd.prog.cellsOf 3)):=hf 0 _ rfl
   have f1:bW B Tryd.prog M 3 (([a,b,c,d,e,g].drop 1).take (Tryd.prog.cellsOf 3)):=hf 1 _ rfl
   have f2:bW B Tryd.prog M 3 (([a,b,c,d,e,g].drop 2).take (Tryd.prog.cellsOf 3)):=hf 2 _ rfl
   have f3:bW B Tryd.prog M 3 (([a,b,c,d,e,g].drop 3).take (Tryd.prog.cellsOf 3)):=hf 3 _ rfl
   have f4:bW B Tryd.prog M 9 (([a,b,c,d,e,g].drop 4).take (Tryd.prog.cellsOf 9)):=hf 4 _ rfl
   have f5:bW B Tryd.prog M 33 (([a,b,c,d,e,g].drop 5).take (Tryd.prog.cellsOf 33)):=hf 5 _ rfl
   rw[cells3] at f0 f1 f2 f3
   rw[MN] at f4
   rw[Li] at f5
   obtain⟨n0,e0,_,_⟩:=f0.og Tryd.underlying3
   obtain⟨n1,e1,_,_⟩:=f1.og Tryd.underlying3
   obtain⟨n2,e2,_,_⟩:=f2.og Tryd.underlying3
   obtain⟨n3,e3,_,hn3⟩:=f3.og Tryd.underlying3
   obtain⟨s4,e4,hs4⟩:=f4.Lf Tryd.underlying9
   obtain⟨v5,l5,e5,h5,hc5,hl5⟩:=Hw f5
   cases e0; cases e1; cases e2; cases e3; cases e4; cases e5
   have hn3:n3≤(9223372036854775807:Int):=hn3
   exact⟨((n0,n1,n2,n3),(s4,⟨_,aP.one h5⟩)),⟨hs4,by show n3<_; omega,l5,h5,hc5,by omega⟩,rfl⟩
theorem Ih {B:Nat} (hB:B≤1000000000) {M:RM} {cs:List AV} (h:bW B Tryd.prog M 30 cs) : ∃ v,∃ l:List yF,cs=[v]∧Sl mf M v l∧∀ a∈l,AJ B M a:=by
 obtain⟨v,n,ds,rfl,hs,hb,_,he⟩:=h.Cg Tryd.underlying30 (by rw[Bc]; decide)
 rw[Bc] at hs he
 obtain⟨xs,rfl,rfl,hp⟩:=uN (size:=6) mf.cells (AJ B M) (fun _=>rfl) n ds hs.length fun i hi=>by
  obtain⟨d,h1,e⟩:=IJ hB (he i hi)
  exact⟨d,h1,e⟩
 exact⟨v,xs,rfl,hs,hp⟩
end Go.Proofs.YtckpmlcaaagnkaaDoor.mQ
namespace Go.Proofs.YtckpmlcaaagnkaaDoor.simdiskPlays
open Go Go.Ab Go.ChangeShapes Go.WideShapes Go.ChangeAt Go.RowKit
theorem own:ownKnob Tryd.prog.godebug=none:=by kernel_rfl
open Go.Ab.Dk Go.Proofs.YtckpmlcaaagnkaaDoor.mQ
def Inv (w:World) : Prop:=True
theorem inv_of (w:World) (h:laidMetH Tryd.prog Rows.simdiskPlaysUptoRow.laid w) : Inv w:=trivial
def base (w:World) (hi:Inv w) : Base:=Base.any w.heap.size
theorem walk (w:World) (hi:Inv w) (v0 v1:Value) (h0:ou 1048576 Tryd.prog (RM.old (base w hi) w) 3 (qK w.heap.size v0)) (h1:ou 1048576 Tryd.prog (RM.old (base w hi) w) 30 (qK w.heap.size v1)) :
  Calls Tryd.prog 4 #[v0,v1] w fun e w'=>e=.returned (.bool true)∧Below w.heap.size w w':=by
 obtain⟨n0,e0,_,hn0⟩:=(h0.one (by kernel_rfl)).og Tryd.underlying3
 obtain⟨u1,l1,e1,hl1,hok⟩:=Ih (by decide) (h1.one (by kernel_rfl))
 have hn0:n0≤(9223372036854775807:Int):=hn0
 refine dW.close (base:=base w hi) rfl trivial ?_
 simp only[List.map_cons,List.map_nil]
 rw[show qK (base w hi).n v0=N .i64 n0 from(List.cons.inj e0).1,show qK (base w hi).n v1=u1 from(List.cons.inj e1).1]
 obtain⟨a0,a1,e,h⟩:=Hg (M:=RM.old (base w hi) w) (q:=n0) (TA:=35) (Q:=fun v _=>v=Bo true) MF MI OZ NF Fy LA F9 Ls KA NJ FO Lx FH KY Dz JH I5 Mw IL PW
  (Nat.le_refl _) hl1 (by omega) hok (fun M'=>rfl)
 cases e
 exact nS h
set_option maxRecDepth 100000 in
theorem lifted (os:Os) (started:os.Started) (H:Type) (enc:TypeId × Value→H) (F:Stop.Interp) :
  ReturnsInHanded {} Tryd.checked os 4 .any ((Rows.OpenSpec.upto Rows.simdiskPlaysSpec).preRow enc Tryd.prog Tryd.f4 Rows.simdiskPlaysUptoRow.domain false Rows.simdiskPlaysUptoRow.laid) (((Rows.OpenSpec.upto Rows.simdiskPlaysSpec).at F).post enc Tryd.prog Tryd.f4 false true false false):=by
 refine returnsInHanded_of_row (C:=Tryd.checked) (s:=Rows.OpenSpec.upto Rows.simdiskPlaysSpec) own started (by kernel_rfl) Tryd.func4
  (witness_row_at (enc:=enc) (C:=Tryd.checked) false (World.laidAll Tryd.prog os Rows.simdiskPlaysUptoRow.laid) #[.int .i64 0,.slice none 0 0] (World.laidAll_os _ _ _) (by kernel_rfl) (by kernel_rfl) (by kernel_rfl)
   (OpenSpec.preRow_of_cond 8 (x:=([.lit (.int .i64 0),.nil],[],[])) (by kernel_rfl) (by kernel_rfl) (fun k hk=>by cases hk; kernel_rfl) (by kernel_rfl) (by rw[MakeChecks.laidMetH_plain _ _ _ (by kernel_rfl)]; exact laidMet_laidAll _ (by kernel_rfl) (by kernel_rfl)))) ?_
 intro W b0 args ds gs before hval hW hcnd hcond hwt hL hsh _
 have hW':=hW
 obtain⟨p,q,hA,hV,rfl,hfz,hnd⟩:=hW
 rw[Tryd.params4] at hA
 have hi:Inv W:=inv_of W hL
 obtain⟨rfl,rfl⟩:=trodVars_none hV
 have hkk:=hcond _ rfl
 simp only[List.append_nil] at hW' hkk
 have hlt:∀ x∈p,x.block<W.heap.size:=fun x hx=>hW'.lt x hx
 have hva:∀ (j:Nat) t v,([3,30] : List TypeId)[j]?=some t→args[j]?=some v→Value.okWide Tryd.prog W .any b0 t v:=fun j t v hj hv=>hval j t v (by rw[Tryd.params4]; simpa using hj) hv
 obtain⟨v0,v1,d0,d1,p0,p1,rfl,rfl,rfl,h0,h1⟩:=trodAll_two hA
 have Nn:Rows.uptoBulkAll [d0,d1]≤1048576:=of_decide_eq_true hkk
 simp only[Rows.uptoBulkAll] at Nn
 refine(walk W hi v0 v1 (Ct (base:=base W hi) I1 rfl (hva 0 _ _ rfl rfl) h0 (by omega)) (Ct (base:=base W hi) I1 rfl (hva 1 _ _ rfl rfl) h1 (by omega))).mono fun e W' ⟨he,hg⟩=>?_
 subst he
 exact⟨_,rfl,CQ (pa:=_) (pv:=[]) hW' (fun _ _ _=>(trodAll_cons_mk (shut_bool Tryd.underlying4 _) trodAll_mk0)) (fun sp hsp=>by
   rw[Tryd.params4]
   exact uf (by kernel_rfl) hg (fun t ht=>by
    have ht:t=3∨t=30:=by simpa using ht
    rcases ht with rfl | rfl <;> exact⟨by kernel_rfl,of_decide_eq_true (by kernel_rfl)⟩) hA hlt hsp) (fun _ _=>rfl) (by simp)
  hg (ok_one (by kernel_rfl) rfl (okWide_bool_mk Tryd.underlying4 _))⟩
theorem over:Rows.SimdiskPlaysUptoSaid :=
 OpenClaim.holds_of_cond 4 Tryd.f4 rfl rfl rfl rfl rfl rfl rfl ⟨rfl,rfl,rfl,rfl,rfl⟩ rfl rfl rfl rfl rfl (by kernel_rfl) Tryd.func4 (by kernel_rfl)
  (of_decide_eq_true (by kernel_rfl)) (by unfold Func.isWrapper; first | (rw[if_pos (by decide +kernel)]; kernel_rfl) | (rw[if_neg (by decide +kernel)]; exact⟨rfl,rfl⟩))
  (fun os started H enc _ F=>by rw[OpenClaim.pre_eq_preRow]; exact lifted os started H enc F)
theorem proved:Rows.SimdiskPlaysUptoCardSaid :=
 Claim7.holds_tied_plain_at .later [] _ _ _ _
  over (fun _ h=>by cases h) (by kernel_rfl) (fun _ h=>by cases h) simdiskPlaysUpto_row_tie rfl ⟨rfl,rfl⟩ (by kernel_rfl) rfl
  (fun f fn hf hfn=>by
   obtain rfl:f=4:=Option.some.inj ((show Tryd.prog.funcNamed "rolodex/rolodexlaw5.SimdiskPlays" = some 4 by kernel_rfl).symm.trans hf) |>.symm
   obtain rfl:fn=Tryd.f4:=(Option.some.inj (Tryd.func4.symm.trans hfn)).symm
   exact⟨by kernel_rfl,fun j t ht=>by
    rw[Tryd.params4] at ht
    have hm:=Array.mem_of_getElem? ht
    have hm:t=3∨t=30:=by simpa using hm
    rcases hm with rfl | rfl
    ·exact(by kernel_rfl:Tryd.prog.wantsStandIn 3=false)
    ·exact(by kernel_rfl:Tryd.prog.wantsStandIn 30=false)⟩)
  (by kernel_rfl)
end Go.Proofs.YtckpmlcaaagnkaaDoor.simdiskPlays
