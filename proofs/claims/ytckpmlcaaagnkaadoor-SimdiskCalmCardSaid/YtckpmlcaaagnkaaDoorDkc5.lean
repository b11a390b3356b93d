/- 'SimdiskCalm' returns true for all arguments: behind a crash all is safe: another one, by whatever picks, changes nothing. The card's listed variables are tied to the program's text. No other condition. By an AI agent. -/
import Derived.Test.YtckpmlcaaagnkaaDoorDkc4
import Derived.KernelRfl
import Derived.Test.YtckpmlcaaagnkaaDoorProg
import Derived.Shelf.SlIter.Nil
import Derived.Shelf.SortM.Plain
import Derived.Shelf.SortM.SortNone
import Derived.Ground.GgzProg
import Derived.Ground.SlgmProg
import Derived.WideShapes
import Derived.Shelf.Strings.SlTrimAscii
import Derived.Test.YtckpmlcaaagnkaaDoorRows
import Derived.Test.YtckpmlcaaagnkaaDoorTie
import Derived.Test.YtckpmlcaaagnkaaDoorCards
import Derived.Carry
import Derived.WalkKit
import Derived.ProofKit
import Derived.OpenShut
import Derived.LaidMore
import Derived.Lay
import Derived.SevenTiedAt
import Derived.Stop.Joined
set_option maxRecDepth 100000
set_option linter.unusedVariables false
set_option linter.unusedSimpArgs false
namespace Go.Proofs.YtckpmlcaaagnkaaDoor
open Go Go.Ab
abbrev aG := @dh Tryd.prog
theorem KI:uw Tryd.prog:=⟨FL (by kernel_rfl),by kernel_rfl⟩
theorem dQ {f:FuncId} {fn:Func} {args:List AV} {M:RM} {Q:af} {B:Prop} (h:B) (hfn:Tryd.prog.funcs[f]?=some fn:=by kernel_rfl) (e:B=wC Tryd.prog fn args M Q:=by kernel_rfl) : aG f args M Q:=Eb KI hfn (e▸h)
variable {a0 a1 a2 a3 a4 a5 a6 a7:AV} {M:RM} {Q:af}
theorem lM (h:Go.Ab.Dk.ic (aG 9) (aG 10) (aG 17) (aG 11) 5 (aG 12) (aG 13) (aG 14) (aG 15) (aG 23) (aG 25) (aG 32) a0 a1 a2 M Q) : aG 8 [a0,a1,a2] M Q:=dQ (fn:=Tryd.f8) h
theorem qA (h:Go.Ab.Dk.lZ (aG 10) (aG 11) 5 (aG 12) (aG 13) (aG 23) (aG 30) 3 (aG 25) (aG 29) (aG 27) (aG 14) (aG 15) (aG 31) 60  M Q) : aG 9 [] M Q:=dQ (fn:=Tryd.f9) h
theorem pG (h:Go.Ab.Dk.kR 73 a0 M Q) : aG 10 [a0] M Q:=dQ (fn:=Tryd.f10) h
theorem kK (h:Go.Ab.Dk.fK (aG 33) 78 (aG 34) a0 a1 M Q) : aG 11 [a0,a1] M Q:=dQ (fn:=Tryd.f11) h
theorem gp (h:Go.Ab.Dk.cZ (aG 35) 5 (aG 36) a0 a1 a2 M Q) : aG 12 [a0,a1,a2] M Q:=dQ (fn:=Tryd.f12) h
theorem kX (h:Go.Ab.Dk.gT (aG 36) a0 a1 M Q) : aG 13 [a0,a1] M Q:=dQ (fn:=Tryd.f13) h
theorem kH (h:Go.Ab.Dk.fU (aG 33) (aG 34) a0 a1 a2 M Q) : aG 14 [a0,a1,a2] M Q:=dQ (fn:=Tryd.f14) h
theorem kE (h:Go.Ab.Dk.gm (aG 34) a0 a1 M Q) : aG 15 [a0,a1] M Q:=dQ (fn:=Tryd.f15) h
theorem rA (h:Go.Ab.Dk.mV 9 a0 M Q) : aG 17 [a0] M Q:=dQ (fn:=Tryd.f17) h
theorem jV (h:Go.Ab.Dk.fD (aG 41) (aG 36) a0 M Q) : aG 23 [a0] M Q:=dQ (fn:=Tryd.f23) h
theorem kS (h:Go.Ab.Dk.gz (aG 42) 80 (aG 43) (aG 41) (aG 30) a0 a1 M Q) : aG 25 [a0,a1] M Q:=dQ (fn:=Tryd.f25) h
theorem kN (h:Go.Ab.Dk.gI a0 a1 M Q) : aG 27 [a0,a1] M Q:=dQ (fn:=Tryd.f27) h
theorem lC (h:Go.Ab.Dk.gU (aG 46) a0 a1 M Q) : aG 29 [a0,a1] M Q:=dQ (fn:=Tryd.f29) h
theorem kV (h:Go.Ab.Dk.gP (aG 48) (aG 47) a0 M Q) : aG 30 [a0] M Q:=dQ (fn:=Tryd.f30) h
theorem lu (h:Go.Ab.Dk.gV 60 (aG 35) (aG 49) a0 M Q) : aG 31 [a0] M Q:=dQ (fn:=Tryd.f31) h
theorem rq (h:Go.Ab.Dk.nD (aG 30) (aG 29) a0 M Q) : aG 32 [a0] M Q:=dQ (fn:=Tryd.f32) h
theorem oW (h:Go.Ab.Dk.jS (aG 50) a0 M Q) : aG 33 [a0] M Q:=dQ (fn:=Tryd.f33) h
theorem jK (h:Go.Ab.Dk.fC 80 (aG 43) a0 a1 M Q) : aG 34 [a0,a1] M Q:=dQ (fn:=Tryd.f34) h
theorem kT (h:Go.Ab.Dk.gG a0 M Q) : aG 35 [a0] M Q:=dQ (fn:=Tryd.f35) h
theorem jE (h:Go.Ab.Dk.eP (om Tryd.prog 51) a0 a1 M Q) : aG 36 [a0,a1] M Q:=dQ (fn:=Tryd.f36) h
theorem dm (h:Go.Ab.Dk.aS 65 (om Tryd.prog 52) a0 M Q) : aG 41 [a0] M Q:=dQ (fn:=Tryd.f41) h
theorem nZ (h:Go.Ab.Dk.jP a0 a1 a2 M Q) : aG 42 [a0,a1,a2] M Q:=dQ (fn:=Tryd.f42) h
theorem lD (h:Go.Ab.Dk.gQ 80 a0 a1 M Q) : aG 43 [a0,a1] M Q:=dQ (fn:=Tryd.f43) h
theorem pW (h:Go.Ab.Dot.yT 5 a0 M Q) : aG 46 [a0] M Q:=dQ (fn:=Tryd.f46) h
theorem dx (h:Go.Ab.Dk.aU 65 57 a0 M Q) : aG 48 [a0] M Q:=dQ (fn:=Tryd.f48) h
theorem jD (h:Go.Ab.Dk.eB (om Tryd.prog 58) a0 M Q) : aG 49 [a0] M Q:=dQ (fn:=Tryd.f49) h
end Go.Proofs.YtckpmlcaaagnkaaDoor
namespace Go.Proofs
open Go.RowKit Go.Maps Go.Sort Go.Shelf
def Tryd.lKeys_ren:Go.Shelf.Ren:=⟨fun | 7=>48 | 10=>57 | n=>n,fun | 23=>65 | 26=>9 | 3=>75 | 28=>99 | 0=>0 | 27=>98 | 33=>74 | 4=>4 | n=>n,fun | n=>n⟩
theorem Tryd.lKeys:Go.Proofs.SlLaysZ.n7 Tryd.prog Tryd.lKeys_ren where
 mixed:=by kernel_rfl
 f7:=⟨ "maps.Keys[map[string]*rolodex/simdisk.file,string,*rolodex/simdisk.file]",by decide,Tryd.func48.trans (congrArg some (by kernel_rfl))⟩
 f10:=⟨ "maps.Keys[map[string]*rolodex/simdisk.file,string,*rolodex/simdisk.file]$1",by decide,Tryd.func57.trans (congrArg some (by kernel_rfl))⟩
 t0:=Tryd.underlying0
 a0:=Tryd.isAgg0
 z0:=Tryd.sizeOf0
 v0:=Tryd.zeroValue0
 t4:=Tryd.underlying4
 a4:=Tryd.isAgg4
 z4:=Tryd.sizeOf4
 v4:=Tryd.zeroValue4
 t23:=Tryd.underlying65
 a23:=Tryd.isAgg65
 z23:=Tryd.sizeOf65
 v23:=Tryd.zeroValue65
 t26:=Tryd.underlying9
 a26:=Tryd.isAgg9
 z26:=Tryd.sizeOf9
 v26:=Tryd.zeroValue9
 t27:=Tryd.underlying98
 a27:=Tryd.isAgg98
 z27:=Tryd.sizeOf98
 v27:=Tryd.zeroValue98
 t28:=Tryd.underlying99
 a28:=Tryd.isAgg99
 z28:=Tryd.sizeOf99
 v28:=Tryd.zeroValue99
 t33:=Tryd.underlying74
 a33:=Tryd.isAgg74
 z33:=Tryd.sizeOf74
 v33:=Tryd.zeroValue74
def Tryd.lSorted_ren:Go.Shelf.Ren:=⟨fun | 6=>47 | 8=>55 | 9=>56 | 11=>66 | 13=>68 | 12=>67 | 23=>82 | 24=>83 | 14=>73 | 15=>74 | 16=>75 | 17=>76 | 18=>77 | 19=>78 | 20=>79 | 21=>80 | 22=>81 | 25=>87 | 26=>88 | 27=>89 | 28=>90 | 29=>91 | 30=>92 | 31=>97 | n=>n,fun | 26=>9 | 28=>99 | 24=>56 | 0=>0 | 3=>3 | 37=>121 | 48=>136 | 50=>138 | 4=>4 | 40=>128 | 39=>127 | 45=>133 | 5=>5 | 9=>9 | 51=>140 | 55=>144 | 57=>154 | 58=>155 | 33=>74 | n=>n,fun | n=>n⟩
theorem Tryd.lSorted:Go.Proofs.SlLaysZ.n6 Tryd.prog Tryd.lSorted_ren where
 mixed:=by kernel_rfl
 f6:=⟨ "slices.Sorted[string]",by decide,Tryd.func47.trans (congrArg some (by kernel_rfl))⟩
 f8:=⟨ "slices.Collect[string]",by decide,Tryd.func55.trans (congrArg some (by kernel_rfl))⟩
 f11:=⟨ "slices.AppendSeq[[]string,string]",by decide,Tryd.func66.trans (congrArg some (by kernel_rfl))⟩
 t0:=Tryd.underlying0
 a0:=Tryd.isAgg0
 z0:=Tryd.sizeOf0
 v0:=Tryd.zeroValue0
 t24:=Tryd.underlying56
 a24:=Tryd.isAgg56
 z24:=Tryd.sizeOf56
 v24:=Tryd.zeroValue56
 t26:=Tryd.underlying9
 a26:=Tryd.isAgg9
 z26:=Tryd.sizeOf9
 v26:=Tryd.zeroValue9
 t28:=Tryd.underlying99
 a28:=Tryd.isAgg99
 z28:=Tryd.sizeOf99
 v28:=Tryd.zeroValue99
 i26:=by kernel_rfl
def Tryd.lSort_ren:Go.Shelf.Ren:=⟨fun | 6=>56 | 8=>68 | 9=>67 | 19=>82 | 20=>83 | 21=>73 | 22=>74 | 23=>75 | 24=>76 | 25=>77 | 26=>78 | 27=>79 | 28=>80 | 29=>81 | 36=>87 | 31=>88 | 32=>89 | 37=>90 | 38=>91 | 39=>92 | 41=>97 | n=>n,fun | 27=>56 | 29=>9 | 3=>3 | 32=>121 | 26=>56 | 0=>0 | 44=>136 | 46=>138 | 4=>4 | 36=>128 | 35=>127 | 41=>133 | 5=>5 | 9=>9 | 53=>140 | 57=>144 | 63=>154 | 64=>155 | n=>n,fun | n=>n⟩
theorem Tryd.lSort:Go.Proofs.SlLaysM.n6 Tryd.prog Tryd.lSort_ren where
 mixed:=by kernel_rfl
 f6:=⟨ "slices.Sort[[]string,string]",by decide,Tryd.func56.trans (congrArg some (by kernel_rfl))⟩
 f8:=Tryd.func68.trans (congrArg some (by kernel_rfl))
 f9:=⟨ "slices.pdqsortOrdered[string]",by decide,Tryd.func67.trans (congrArg some (by kernel_rfl))⟩
 f19:=Tryd.func82.trans (congrArg some (by kernel_rfl))
 f20:=Tryd.func83.trans (congrArg some (by kernel_rfl))
 f21:=⟨ "slices.insertionSortOrdered[string]",by decide,Tryd.func73.trans (congrArg some (by kernel_rfl))⟩
 f22:=⟨ "slices.heapSortOrdered[string]",by decide,Tryd.func74.trans (congrArg some (by kernel_rfl))⟩
 f23:=⟨ "slices.breakPatternsOrdered[string]",by decide,Tryd.func75.trans (congrArg some (by kernel_rfl))⟩
 f24:=⟨ "slices.choosePivotOrdered[string]",by decide,Tryd.func76.trans (congrArg some (by kernel_rfl))⟩
 f25:=⟨ "slices.reverseRangeOrdered[string]",by decide,Tryd.func77.trans (congrArg some (by kernel_rfl))⟩
 f26:=⟨ "slices.partialInsertionSortOrdered[string]",by decide,Tryd.func78.trans (congrArg some (by kernel_rfl))⟩
 f27:=⟨ "cmp.Less[string]",by decide,Tryd.func79.trans (congrArg some (by kernel_rfl))⟩
 f28:=⟨ "slices.partitionEqualOrdered[string]",by decide,Tryd.func80.trans (congrArg some (by kernel_rfl))⟩
 f29:=⟨ "slices.partitionOrdered[string]",by decide,Tryd.func81.trans (congrArg some (by kernel_rfl))⟩
 f31:=Tryd.func88.trans (congrArg some (by kernel_rfl))
 f32:=Tryd.func89.trans (congrArg some (by kernel_rfl))
 f36:=⟨ "slices.siftDownOrdered[string]",by decide,Tryd.func87.trans (congrArg some (by kernel_rfl))⟩
 f37:=⟨ "slices.medianAdjacentOrdered[string]",by decide,Tryd.func90.trans (congrArg some (by kernel_rfl))⟩
 f38:=⟨ "slices.medianOrdered[string]",by decide,Tryd.func91.trans (congrArg some (by kernel_rfl))⟩
 f39:=⟨ "cmp.isNaN[string]",by decide,Tryd.func92.trans (congrArg some (by kernel_rfl))⟩
 f41:=⟨ "slices.order2Ordered[string]",by decide,Tryd.func97.trans (congrArg some (by kernel_rfl))⟩
 t0:=Tryd.underlying0
 a0:=Tryd.isAgg0
 z0:=Tryd.sizeOf0
 v0:=Tryd.zeroValue0
 t3:=Tryd.underlying3
 a3:=Tryd.isAgg3
 z3:=Tryd.sizeOf3
 v3:=Tryd.zeroValue3
 t4:=Tryd.underlying4
 a4:=Tryd.isAgg4
 z4:=Tryd.sizeOf4
 v4:=Tryd.zeroValue4
 t5:=Tryd.underlying5
 a5:=Tryd.isAgg5
 z5:=Tryd.sizeOf5
 v5:=Tryd.zeroValue5
 t9:=Tryd.underlying9
 a9:=Tryd.isAgg9
 z9:=Tryd.sizeOf9
 v9:=Tryd.zeroValue9
 t26:=Tryd.underlying56
 a26:=Tryd.isAgg56
 z26:=Tryd.sizeOf56
 v26:=Tryd.zeroValue56
 t27:=Tryd.underlying56
 a27:=Tryd.isAgg56
 z27:=Tryd.sizeOf56
 v27:=Tryd.zeroValue56
 t29:=Tryd.underlying9
 a29:=Tryd.isAgg9
 z29:=Tryd.sizeOf9
 v29:=Tryd.zeroValue9
 t32:=Tryd.underlying121
 a32:=Tryd.isAgg121
 z32:=Tryd.sizeOf121
 v32:=Tryd.zeroValue121
 t35:=Tryd.underlying127
 a35:=Tryd.isAgg127
 z35:=Tryd.sizeOf127
 v35:=Tryd.zeroValue127
 t36:=Tryd.underlying128
 a36:=Tryd.isAgg128
 z36:=Tryd.sizeOf128
 v36:=Tryd.zeroValue128
 t41:=Tryd.underlying133
 a41:=Tryd.isAgg133
 z41:=Tryd.sizeOf133
 v41:=Tryd.zeroValue133
 t44:=Tryd.underlying136
 a44:=Tryd.isAgg136
 z44:=Tryd.sizeOf136
 v44:=Tryd.zeroValue136
 t46:=Tryd.underlying138
 a46:=Tryd.isAgg138
 z46:=Tryd.sizeOf138
 v46:=Tryd.zeroValue138
 t53:=Tryd.underlying140
 a53:=Tryd.isAgg140
 z53:=Tryd.sizeOf140
 v53:=Tryd.zeroValue140
 t57:=Tryd.underlying144
 a57:=Tryd.isAgg144
 z57:=Tryd.sizeOf144
 v57:=Tryd.zeroValue144
 t63:=Tryd.underlying154
 a63:=Tryd.isAgg154
 z63:=Tryd.sizeOf154
 v63:=Tryd.zeroValue154
 t64:=Tryd.underlying155
 a64:=Tryd.isAgg155
 z64:=Tryd.sizeOf155
 v64:=Tryd.zeroValue155
end Go.Proofs
namespace Go.Ab.Dk
open Go Go.Ab Go.RowKit Go.Proofs Go.Maps Go.Sort Go.MapKept Go.WideShapes
open Go.WideElems (Fit rg)
open Go.Proofs.YtckpmlcaaagnkaaDoor
theorem Gy (m:Nat) : AnyZ.SortsIn Tryd.prog Tryd.lSorted_ren Fence.wide m :=
 ⟨fun blk off cap ss W hH hblk hsz=>callsIn_wide.2 (AnyM.slices_Sort_string Tryd.lSort blk off cap ss W hH hblk hsz),
  fun p cap W=>callsIn_wide.2 (AnyM.slices_Sort_string_none Tryd.lSort p cap W)⟩
def wX:Value→Option (DataW Unit × List MemPlace):=fun _=>some (.nil,[])
theorem fits {ρ:Ren} {fbs:List Nat} {cl:Nat} : ∀ {es:List (AV × AV × Nat)} {fs:List MapEntry} {d:Dir} {lo:Nat},cO fbs cl lo es d→aR ρ es fs→gY d →
  (fs.map (·.key))=d.map (fun e=>encStr e.1)∧(∀ x∈fs,x.born<cl∧lo≤x.born)∧(fs.map (·.born)).Nodup∧fs.length=d.length
 | [],[],[],_,_,_,_=>⟨rfl,by simp,by simp,rfl⟩
 | (k,v,n) :: es,f :: fs,x :: d,lo,⟨h1,h2,h3,h4,h5⟩,hr,hw=>by
   obtain⟨r1,r2,r3,r4⟩:=hr
   have hw' : gY d:=⟨(List.nodup_cons.1 hw.1).2,fun n hn=>hw.2 n (List.mem_cons_of_mem _ hn)⟩
   have h5:cO fbs cl (n + 1) es d:=h5
   obtain⟨a1,a2,a3,a4⟩:=fits h5 r4 hw'
   simp only at h1 h3 h4 r3
   subst h1
   obtain⟨hk,_⟩:=aj r1
   refine⟨?_, ?_, ?_, ?_⟩
   ·simp only[List.map_cons,a1]
    rw[hk]
   ·intro y hy
    rcases List.mem_cons.1 hy with rfl | hy
    ·rw[r3]; exact⟨h4,h3⟩
    ·have:=a2 y hy; exact⟨this.1,by omega⟩
   ·rw[List.map_cons,List.nodup_cons]
    refine⟨fun hm=>?_,a3⟩
    obtain⟨y,hy,he⟩:=List.mem_map.1 hm
    have:=(a2 y hy).2
    omega
   ·simp[a4]
theorem strKeys_perm {fs:List MapEntry} {d:Dir} (hk:fs.map (·.key)=d.map (fun e=>encStr e.1)) (hl:∀ n∈aF d,n.length≤64) :
  (strKeys (.map ((fs.map (rg (H:=Unit) Tryd.prog 9 wX)).foldr DataW.insert []))).Perm (aF d):=by
 have h1:((fs.map (rg (H:=Unit) Tryd.prog 9 wX)).foldr DataW.insert []).Perm (fs.map (rg (H:=Unit) Tryd.prog 9 wX)):=sorted_perm _
 refine(h1.map _).trans ?_
 clear h1
 induction fs generalizing d with
 | nil =>
   cases d with
   | nil=>exact .refl _
   | cons=>simp at hk
 | cons f fs ih =>
   cases d with
   | nil=>simp at hk
   | cons x d =>
     simp only[List.map_cons,List.cons.injEq] at hk
     have e:strOf (rg (H:=Unit) Tryd.prog 9 wX f).1=x.1:=by
      have hle:x.1.length≤64:=hl _ (by simp[aF])
      have:keyOf Tryd.prog 9 f.key=some (.string x.1):=by
       rw[hk.1]
       unfold keyOf mapKey
       simp only[Tryd.underlying9,encStr]
       rw[if_pos (by show x.1.length≤maxLen; unfold maxLen; omega)]
      unfold rg Go.WideElems.rd
      rw[this]; rfl
     simp only[aF,List.map_cons,e]
     exact .cons _ (ih hk.2 fun n hn=>hl n (List.mem_cons_of_mem _ hn))
theorem xP (ρ:Ren) : ∀ l:List Nm,av ρ (l.map fun s=>St s) (l.map encStr)
 | []=>.nil
 | s :: l=>.cons _ _ _ _ (.sc _ rfl) (xP ρ l)
theorem GQ {P:Program} {ρ:Ren} {M:RM} {w:World} (hw:bg P ρ M w) {b:Nat} {i:cu} {l:List AV} {p:Bool} {e f:Nat} (hb:ρ b=some i) (hh:M.heap b=some (.row l p e f)) : i.sh=0:=by
 obtain⟨A,hA⟩:=hw
 rcases hA.blk b _ hh with⟨y,hy,hr⟩ | ⟨c,he,_⟩
 ·obtain⟨o,_,ho⟩:=hA.rel.blk b i y hb hy
  cases y with
  | row n t z op el fz=>obtain⟨c,fr,_,hrow⟩:=ho; exact hrow.sh0
  | map=>exact hr.elim
  | iter=>exact hr.elim
  | eY=>exact hr.elim
 ·cases he
theorem sorted {TM:Nat} : Cc 9 TM 57 (aG 47):=by
 intro own M fbs m b d t Q hm hh hlt hlen hwf hQ
 obtain⟨es,cl,hmh,he⟩:=hm.heap
 refine dh.Hq (T:=9) (n:=(dO (aF d)).length) (cs:=(dO (aF d)).map fun s=>St s) ⟨Tryd.f47,_,Tryd.func47,rfl⟩ (by kernel_rfl) (by simp[oneCell]) (by simp) (fun ρ w us hus hw=>?_) (fun v M' o k=>hQ v M' (by rw[← GN] at o; exact o) k)
 cases hus with
 | cons _ u1 _ us r1 hus =>
 cases hus
 cases r1 with
 | fn _ _ _ us1 vs1 hp q1 q2 =>
 cases q1
 cases q2 with
 | cons _ u2 _ us r2 q3 =>
 cases q3
 obtain⟨i,hbi,rfl⟩:=aX r2
 have hsh:=GQ hw hbi hh
 obtain⟨u,hu,hcell⟩:=kM hw hbi (show M.loads b 0 1=some [.map m] by rw[RM.oJ hh]; rfl)
 cases hu with
 | map _ j hmj =>
 obtain⟨A,hA⟩:=hw
 obtain⟨fs,hob,hfs⟩:=nK hA hmj hmh
 obtain⟨a1,a2,a3,a4⟩:=fits he hfs hwf
 rw[hsh] at hcell
 rw[hsh]
 have hdl:fs.size=d.length:=by rw[← a4]; simp
 have JN:Fit (H:=Unit) Tryd.prog 9 wX fs cl:=by
  refine⟨by rw[hdl]; unfold maxLen; omega,⟨fun x hx=>(a2 x hx).1,a3, ?_⟩,fun x hx=>?_⟩
  ·rw[a1]
   have:=hwf.1
   have e:d.map (fun e=>encStr e.1)=(aF d).map encStr:=by simp[aF]
   rw[e]
   exact List.Pairwise.map _ (fun a b h h2=>h (encStr_inj h2)) this
  ·have hxk:x.key∈fs.toList.map (·.key):=List.mem_map_of_mem hx
   rw[a1] at hxk
   obtain⟨y,hy,hye⟩:=List.mem_map.1 hxk
   have hle:=hwf.2 y.1 (List.mem_map_of_mem hy)
   refine⟨(.string y.1,.nil), ?_⟩
   unfold Go.WideElems.rd
   have:keyOf Tryd.prog 9 x.key=some (.string y.1):=by
    rw[← hye]
    unfold keyOf mapKey
    simp only[Tryd.underlying9,encStr]
    rw[if_pos (by show y.1.length≤maxLen; unfold maxLen; omega)]
   rw[this]; rfl
 have hown:w.ownsMap Tryd.prog 9 wX j.cb fs.size (.map ((fs.toList.map (rg (H:=Unit) Tryd.prog 9 wX)).foldr DataW.insert [])):=⟨fs,cl,hob,JN,Nat.le_refl _,rfl⟩
 have hsz:Maps.size (DataW.map ((fs.toList.map (rg (H:=Unit) Tryd.prog 9 wX)).foldr DataW.insert []))=d.length:=by
  rw[size_eq,length_sorted,List.length_map,a4]
 have hil:=hA.rel.dom b i hbi
 have hseq:SeqGives Fence.wide 2 Tryd.prog 57 #[.pointer (some ⟨i.cb,0,none⟩)] encStr _ _ w:=AnyZ.keys_gives (ρ:=Tryd.lKeys_ren) { Tryd.lKeys with } Fence.wide _ trivial rfl (by omega) i.cb j.cb fs.size _ w hil.2 hcell hown
 refine(callsIn_wide (n:=5)).1 ?_
 have cS:=AnyZ.sorted_in Tryd.lSorted Fence.wide 5 trivial trivial trivial trivial rfl (by omega) (Gy _) (enters_of Tryd.func56 (by kernel_rfl) rfl) 57 #[.pointer (some ⟨i.cb,0,none⟩)] trivial (enters_of Tryd.func57 (by kernel_rfl) rfl) _ _ (by rw[hsz]; unfold maxLen; omega) (by rw[hsz]; omega) _ hseq
 change CallsIn _ _ Tryd.prog 47 _ _ _ at cS
 refine cS.mono ?_
 rintro e w' ⟨v,ss,rfl,hS,hrow,hnil,hb⟩
 have hperm:ss.Perm (aF d):=hS.trans (strKeys_perm a1 hwf.2)
 rw[Ba hperm] at hrow
 have hl:ss.length=(dO (aF d)).length:=by rw[hperm.length_eq,(gF _).length_eq]
 rw[hl] at hrow
 exact⟨v,_,rfl,hrow,fun ρ'=>xP ρ' _,hb⟩
end Go.Ab.Dk
namespace Go.Proofs
open Go.RowKit Go.Maps Go.Sort Go.Shelf
def Tryd.lays160_ren:Go.Shelf.Ren:=⟨fun | 160=>50 | 232=>60 | 231=>59 | 227=>61 | 234=>63 | 233=>62 | 236=>65 | 235=>64 | 228=>69 | 271=>72 | 151=>71 | 197=>70 | 120=>86 | 152=>85 | 260=>84 | 137=>93 | 119=>94 | 224=>95 | 225=>96 | 217=>98 | 266=>99 | n=>n,fun | 9=>9 | 4=>4 | 3=>3 | 5=>5 | 117=>114 | 116=>113 | 0=>0 | 124=>117 | 21=>21 | 105=>123 | 46=>121 | 119=>146 | 139=>149 | 138=>148 | n=>n,fun | 3=>0 | 4=>1 | n=>n⟩
theorem Tryd.lays160:Go.Proofs.Lays.n160 Tryd.prog Tryd.lays160_ren where
 mixed:=by kernel_rfl
 f119:=Tryd.func94.trans (congrArg some (by kernel_rfl))
 f120:=Tryd.func86.trans (congrArg some (by kernel_rfl))
 f137:=Tryd.func93.trans (congrArg some (by kernel_rfl))
 f151:=Tryd.func71.trans (congrArg some (by kernel_rfl))
 f152:=Tryd.func85.trans (congrArg some (by kernel_rfl))
 f160:=Tryd.func50.trans (congrArg some (by kernel_rfl))
 f197:=Tryd.func70.trans (congrArg some (by kernel_rfl))
 f217:=Tryd.func98.trans (congrArg some (by kernel_rfl))
 f224:=Tryd.func95.trans (congrArg some (by kernel_rfl))
 f225:=Tryd.func96.trans (congrArg some (by kernel_rfl))
 f227:=Tryd.func61.trans (congrArg some (by kernel_rfl))
 f228:=Tryd.func69.trans (congrArg some (by kernel_rfl))
 f231:=Tryd.func59.trans (congrArg some (by kernel_rfl))
 f232:=Tryd.func60.trans (congrArg some (by kernel_rfl))
 f233:=Tryd.func62.trans (congrArg some (by kernel_rfl))
 f234:=Tryd.func63.trans (congrArg some (by kernel_rfl))
 f235:=Tryd.func64.trans (congrArg some (by kernel_rfl))
 f236:=Tryd.func65.trans (congrArg some (by kernel_rfl))
 f260:=Tryd.func84.trans (congrArg some (by kernel_rfl))
 f266:=Tryd.func99.trans (congrArg some (by kernel_rfl))
 f271:=Tryd.func72.trans (congrArg some (by kernel_rfl))
 t0:=Tryd.underlying0
 a0:=Tryd.isAgg0
 z0:=Tryd.sizeOf0
 v0:=Tryd.zeroValue0
 t3:=Tryd.underlying3
 a3:=Tryd.isAgg3
 z3:=Tryd.sizeOf3
 v3:=Tryd.zeroValue3
 t4:=Tryd.underlying4
 a4:=Tryd.isAgg4
 z4:=Tryd.sizeOf4
 v4:=Tryd.zeroValue4
 t5:=Tryd.underlying5
 a5:=Tryd.isAgg5
 z5:=Tryd.sizeOf5
 v5:=Tryd.zeroValue5
 t9:=Tryd.underlying9
 a9:=Tryd.isAgg9
 z9:=Tryd.sizeOf9
 v9:=Tryd.zeroValue9
 t21:=Tryd.underlying21
 a21:=Tryd.isAgg21
 z21:=Tryd.sizeOf21
 v21:=Tryd.zeroValue21
 t46:=Tryd.underlying121
 a46:=Tryd.isAgg121
 z46:=Tryd.sizeOf121
 v46:=Tryd.zeroValue121
 t105:=Tryd.underlying123
 a105:=Tryd.isAgg123
 z105:=Tryd.sizeOf123
 v105:=Tryd.zeroValue123
 t116:=Tryd.underlying113
 a116:=Tryd.isAgg113
 z116:=Tryd.sizeOf113
 t117:=Tryd.underlying114
 a117:=Tryd.isAgg114
 z117:=Tryd.sizeOf114
 v117:=Tryd.zeroValue114
 t119:=Tryd.underlying146
 a119:=Tryd.isAgg146
 z119:=Tryd.sizeOf146
 t124:=Tryd.underlying117
 a124:=Tryd.isAgg117
 z124:=Tryd.sizeOf117
 v124:=Tryd.zeroValue117
 t138:=Tryd.underlying148
 a138:=Tryd.isAgg148
 z138:=Tryd.sizeOf148
 v138:=Tryd.zeroValue148
 t139:=Tryd.underlying149
 a139:=Tryd.isAgg149
 z139:=Tryd.sizeOf149
 v139:=Tryd.zeroValue149
 g3:=by kernel_rfl
 g4:=by kernel_rfl
end Go.Proofs
namespace Go.Ab.Dk
open Go Go.Ab Go.RowKit Go.Proofs
open Go.Proofs.YtckpmlcaaagnkaaDoor
theorem Js:sM (om Tryd.prog 51):=by
 intro M b o el l p x y Q hh hl hQ
 exact .inr (.inr (.inr (.inr ⟨_,_,sH (f:=51) Tryd.func51 (by decide) rfl (by kernel_rfl) (by kernel_rfl) hh hl,hQ⟩)))
theorem Iq:vD (om Tryd.prog 58):=by
 intro M b o el l p x Q hh hl hQ
 exact .inr (.inr (.inr (.inl ⟨_,ru (f:=58) Tryd.func58 (by decide) rfl (by kernel_rfl) (by kernel_rfl) hh hl,hQ⟩)))
theorem HZ:Cm 65 (om Tryd.prog 52):=by
 intro M m cl es Q hh hQ
 exact .inr (.inr (.inr (.inr ⟨_,_,sW (f:=52) Tryd.func52 (by decide) rfl (by kernel_rfl) (by kernel_rfl) hh,hQ⟩)))
abbrev l6:List UInt8:=[97,98,99,100,101,102,103,104,105,106,107,108,109,110,111,112,113,114,115,116,117,118,119,120,121,122,48,49,50,51,52,53,54,55,56,57,46,45,95]
theorem DI:∀ (j:Nat) b,(⟨⟨l6⟩⟩ : ByteArray).data.toList[j]?=some b→b.toNat<128:=fun j b h=>by
 have hm:b∈l6:=List.mem_of_getElem? h
 have:l6.all (fun b=>decide (b.toNat<128))=true:=by decide
 exact of_decide_eq_true (List.all_eq_true.1 this b hm)
theorem GA (b:UInt8) : l6.contains b=jM b:=by
 have:∀ n:Fin 256,l6.contains (UInt8.ofNat n.val)=jM (UInt8.ofNat n.val):=by decide
 have h:=this ⟨b.toNat,b.toNat_lt⟩
 simpa using h
theorem dropWhile_nil {p:UInt8→Bool} : ∀ {l:List UInt8},l.dropWhile p=[]↔l.all p=true
 | []=>by simp
 | a :: l=>by
   rw[List.dropWhile_cons,List.all_cons]
   cases h:p a
   ·simp
   ·simp only[if_true,Bool.true_and]; exact dropWhile_nil
theorem EQ (s:List UInt8) : Lib.trimS s l6=[]↔s.all jM=true:=by
 have e:(fun b=>l6.contains b)=jM:=funext GA
 unfold Lib.trimS Lib.trimLeftS Lib.trimRightS
 rw[dropWhile_nil,e,List.all_reverse]
 constructor
 ·intro h
  rw[List.all_eq_true] at h ⊢
  have h1:s.reverse.dropWhile jM=[]:=by
   by_cases hd:s.reverse.dropWhile jM=[]
   ·exact hd
   ·have:=List.head_dropWhile_not jM hd
    have h2:=h _ (List.head_mem hd)
    rw[this] at h2; cases h2
  have:=dropWhile_nil.1 h1
  rw[List.all_reverse,List.all_eq_true] at this
  exact this
 ·intro h
  have h1:s.reverse.dropWhile jM=[]:=dropWhile_nil.2 (by rw[List.all_reverse]; exact h)
  rw[h1]; rfl
theorem GV:yS (aG 50):=by
 intro M s Q h1 h2 hQ
 refine dh.Gd (v:=St (Lib.trimS s l6)) ⟨Tryd.f50,_,Tryd.func50,rfl⟩ (fun ρ w us hus hw=>?_) (hQ M _ (ae.refl _ _) (EQ s))
 cases hus with
 | cons _ u1 _ us r1 hus =>
 cases hus with
 | cons _ u2 _ us r2 hus =>
 cases hus
 obtain⟨rfl,_⟩:=aj r1
 obtain⟨rfl,_⟩:=aj r2
 refine(Any.strings_Trim_set Tryd.lays160 Tryd.zeroValue113 (by kernel_rfl) ⟨⟨s⟩⟩ ⟨⟨l6⟩⟩ w (by decide) (by show 0<s.length; omega) (by show s.length≤_; omega) (by decide) DI).mono fun e w' ⟨he,q,hb⟩=>⟨_,he, ?_,.sc _ rfl⟩
 rw[hb]
 have h1:=(Below.refl w.heap.size w).alloc (Nat.le_refl _) (.cells (Lib.setCells l6) 113)
 have h2:=h1.alloc h1.size (.cells (Lib.setCells l6) 113)
 exact⟨h2.os,h2.tape,h2.output,h2.size,h2.block⟩
end Go.Ab.Dk
namespace Go.Proofs.YtckpmlcaaagnkaaDoor.nO
open Go Go.Ab Go.Ab.Dk Go.RowKit
theorem Hu:BL 5 (aG 46):=fun h1 h2 h3 h4 _ hQ=>pW (Go.Ab.Dot.Eh h1 h2 (Nat.le_refl _) h3 h4 hQ)
theorem Fj:sM (aG 36):=by
 intro M b o el l p x y Q h1 h2 h3
 obtain⟨a0,a1,e,h⟩:=E8 Js h1 h2 h3
 cases e; exact jE h
theorem IX:vD (aG 49):=by
 intro M b o el l p x Q h1 h2 h3
 obtain⟨a0,e,h⟩:=Ee Iq h1 h2 h3
 cases e; exact jD h
theorem BI:qG (aG 41):=by
 intro M m cl es Q h1 h2
 obtain⟨a0,e,h⟩:=Bf HZ h1 h2
 cases e; exact dm h
theorem IP:Dl (aG 42):=by
 intro M v p i n Q h1 h2 h3
 obtain⟨a0,a1,a2,e,h⟩:=Ew h1 h2 h3
 cases e; exact nZ h
theorem Gs:yM (aG 33):=by
 intro M s Q h1
 obtain⟨a0,e,h⟩:=EJ GV h1
 cases e; exact oW h
theorem I5:Gh (aG 43):=by
 intro own M fbs m d t ch Q h1 h2 h3
 obtain⟨a0,a1,e,h⟩:=GD (TC:=80) h1 h2 h3
 cases e; exact lD h
theorem sJ:mh 73 78 5 80 (aG 34):=by
 intro own M db s fbs nm sm cv ch Q h1 h2 h3 h4
 obtain⟨a0,a1,e,h⟩:=zK I5 h1 h2 h3 h4
 cases e; exact jK h
theorem Hw:DX 73 78 5 80 (aG 10):=by
 intro M n Q h1 h2
 obtain⟨a0,e,h⟩:=E9 h1 h2
 cases e; exact pG h
theorem BJ:wS 73 78 5 80 dC (aG 11):=by
 intro own M db s n Q h1 h2 h3
 obtain⟨a0,a1,e,h⟩:=Bg Gs sJ h1 h2 h3
 cases e; exact kK h
theorem AQ:qg 73 78 5 80 (aG 35):=by
 intro own M db s Q h1 h2 h3
 obtain⟨a0,e,h⟩:=CZ h1 h2 h3
 cases e; exact kT h
theorem Cr:rf 73 78 5 80 (aG 12):=by
 intro own M db s n v b Q h1 h2 h3 h4 h5 h6 h7
 obtain⟨a0,a1,a2,e,h⟩:=BD AQ Fj h1 h2 h3 h4 h5 h6 h7
 cases e; exact gp h
theorem Gi:yE 73 78 5 80 (aG 13):=by
 intro own M db s n Q h1 h2
 obtain⟨a0,a1,e,h⟩:=EN Fj h1 h2
 cases e; exact kX h
theorem BM:qZ 73 78 5 80 (aG 14):=by
 intro own M db s n to Q h1 h2 h3
 obtain⟨a0,a1,a2,e,h⟩:=BC Gs sJ h1 h2 h3
 cases e; exact kH h
theorem Cn:wS 73 78 5 80 ja (aG 15):=by
 intro own M db s n Q h1 h2 h3
 obtain⟨a0,a1,e,h⟩:=Be sJ h1 h2 h3
 cases e; exact kE h
theorem zH:oL 73 78 5 80 (aG 23):=by
 intro own M db s Q h1 h2
 obtain⟨a0,e,h⟩:=zF BI Fj h1 h2
 cases e; exact jV h
theorem Hf:yX 73 78 5 80 (aG 27):=by
 intro own M db s n Q h1 h2
 obtain⟨a0,a1,e,h⟩:=DN h1 h2
 cases e; exact kN h
theorem Gu:yI 73 78 5 80 (aG 29):=by
 intro own M db s n Q h1 h2 h3
 obtain⟨a0,a1,e,h⟩:=Er Hu h1 h2 h3
 cases e; exact lC h
theorem IY:CY 73 78 5 80 (aG 31):=by
 intro own M db s Q h1 h2 h3
 obtain⟨a0,e,h⟩:=ER (TS:=60) AQ IX h1 h2 h3
 cases e; exact lu h
theorem I1:Cw 65 57 (aG 48):=by
 intro M m Q h1
 obtain⟨a0,e,h⟩:=Ep h1
 cases e; exact dx h
theorem Dz:uP 73 78 5 80 9 (aG 30):=by
 intro own M db s Q h1 h2 h3 h4
 obtain⟨a0,e,h⟩:=EK I1 sorted h1 h2 h3 h4
 cases e; exact kV h
theorem ES:uj 73 78 5 80 (aG 25):=by
 intro own M db s v p Q h1 h2 h3 h4 h5 h6 h7 h8 h9
 obtain⟨a0,a1,e,h⟩:=Dt IP I5 BI Dz h1 h2 h3 h4 h5 h6 h7 h8 h9
 cases e; exact kS h
theorem H6:uu (aG 9):=by
 intro M Q h1
 obtain⟨e,h⟩:=DV (TI:=3) (TT:=60) Hw BJ Cr Gi zH Dz ES Gu Hf BM Cn IY h1
 exact qA h
theorem cells3:Tryd.prog.cellsOf 3=1:=by kernel_rfl
theorem pQ {M:RM} {cs:List AV} (h:Fits Tryd.prog M 33 cs) : ∃ v,∃ l:List Int,cs=[v]∧Sl INT M v l∧∀ d∈l,-9223372036854775808≤d∧d≤9223372036854775807:=by
 obtain⟨v,n,ds,rfl,hs,hb,he⟩:=h.wP Tryd.underlying33 (by rw[cells3]; decide)
 rw[cells3] at hs he
 obtain⟨xs,rfl,rfl,hp⟩:=pU (size:=1) INT.cells (fun d:Int=>-9223372036854775808≤d∧d≤9223372036854775807) (fun _=>rfl) n ds hs.length fun i hi=>by
  obtain⟨d,e,h1,h2⟩:=(he i hi).nG Tryd.underlying3
  exact⟨d,⟨h1,h2⟩,e⟩
 exact⟨v,xs,rfl,hs,hp⟩
theorem Ie:Tryd.prog.cellsOf 9=1:=by kernel_rfl
theorem GM:Tryd.prog.cellsOf 33=1:=by kernel_rfl
theorem vT:Tryd.prog.cellsOf 35=6:=by kernel_rfl
theorem Fa {M:RM} {cs:List AV} (h:Fits Tryd.prog M 35 cs) : ∃ a:qb,cs=iJ.cells a:=by
 obtain⟨hl,hf⟩:=h.CP Tryd.underlying35
 rw[vT] at hl
 match cs,hl with
 | [a,b,c,d,e,g],_ =>
   have f0:Fits Tryd.prog M 3 (([a,b,c,d,e,g].drop 0).take (Tryd.prog.cellsOf 3)):=hf 0 _ rfl
   have f1:Fits Tryd.prog M 3 (([a,b,c,d,e,g].drop 1).take (Tryd.prog.cellsOf 3)):=hf 1 _ rfl
   have f2:Fits Tryd.prog M 3 (([a,b,c,d,e,g].drop 2).take (Tryd.prog.cellsOf 3)):=hf 2 _ rfl
   have f3:Fits Tryd.prog M 3 (([a,b,c,d,e,g].drop 3).take (Tryd.prog.cellsOf 3)):=hf 3 _ rfl
   have f4:Fits Tryd.prog M 9 (([a,b,c,d,e,g].drop 4).take (Tryd.prog.cellsOf 9)):=hf 4 _ rfl
   have f5:Fits Tryd.prog M 33 (([a,b,c,d,e,g].drop 5).take (Tryd.prog.cellsOf 33)):=hf 5 _ rfl
   rw[cells3] at f0 f1 f2 f3
   rw[Ie] at f4
   rw[GM] at f5
   obtain⟨n0,e0,_,_⟩:=f0.nG Tryd.underlying3
   obtain⟨n1,e1,_,_⟩:=f1.nG Tryd.underlying3
   obtain⟨n2,e2,_,_⟩:=f2.nG Tryd.underlying3
   obtain⟨n3,e3,_,_⟩:=f3.nG Tryd.underlying3
   obtain⟨s4,e4,_⟩:=f4.GI Tryd.underlying9
   obtain⟨v5,l5,e5,h5,_⟩:=pQ f5
   cases e0; cases e1; cases e2; cases e3; cases e4; cases e5
   exact⟨((n0,n1,n2,n3),(s4,⟨_,aT.one h5⟩)),rfl⟩
theorem EM {M:RM} {cs:List AV} (h:Fits Tryd.prog M 30 cs) : ∃ v,∃ l:List qb,cs=[v]∧Sl iJ M v l:=by
 obtain⟨v,n,ds,rfl,hs,hb,he⟩:=h.wP Tryd.underlying30 (by rw[vT]; decide)
 rw[vT] at hs he
 obtain⟨xs,rfl,rfl,_⟩:=pU (size:=6) iJ.cells (fun _:qb=>True) (fun _=>rfl) n ds hs.length fun i hi=>by
  obtain⟨d,e⟩:=Fa (he i hi)
  exact⟨d,trivial,e⟩
 exact⟨v,xs,rfl,hs⟩
theorem F8:sN 73 78 5 80 (aG 12):=by
 intro own M db s n v b Q h1 h2 h3 h4 h5 h6 h7
 obtain⟨a0,a1,a2,e,h⟩:=uM (ca:=aG 36) AQ h1 h2 h3 h4 h5 h6 h7
 cases e; exact gp h
theorem IM:DT (aG 17):=by
 intro M n Q h1
 obtain⟨a0,e,h⟩:=EE (T:=9) h1
 cases e; exact rA h
theorem IC:Dx 73 78 5 80 (aG 32):=by
 intro own M db s Q h1 h2 h3 h4 h5
 obtain⟨a0,e,h⟩:=Eo Dz Gu h1 h2 h3 h4 h5
 cases e; exact rq h
end Go.Proofs.YtckpmlcaaagnkaaDoor.nO
namespace Go.Proofs.YtckpmlcaaagnkaaDoor.simdiskCalm
open Go Go.Ab Go.ChangeShapes Go.WideShapes Go.ChangeAt Go.RowKit
theorem own:ownKnob Tryd.prog.godebug=none:=by kernel_rfl
open Go.Ab.Dk Go.Proofs.YtckpmlcaaagnkaaDoor.nO
def Inv (w:World) : Prop:=True
theorem inv_of (w:World) (h:laidMetH Tryd.prog Rows.simdiskCalmRow.laid w) : Inv w:=trivial
def base (w:World) (hi:Inv w) : Base:=Base.any w.heap.size
theorem walk (w:World) (hi:Inv w) (v0 v1 v2:Value) (h0:iP Tryd.prog (RM.old (base w hi) w) 30 (jN w.heap.size v0)) (h1:iP Tryd.prog (RM.old (base w hi) w) 33 (jN w.heap.size v1)) (h2:iP Tryd.prog (RM.old (base w hi) w) 33 (jN w.heap.size v2)) :
  Calls Tryd.prog 8 #[v0,v1,v2] w fun e w'=>e=.returned (.bool true)∧Below w.heap.size w w':=by
 obtain⟨u0,l0,e0,hl0⟩:=EM (h0.one (by kernel_rfl))
 obtain⟨u1,l1,e1,hl1,_⟩:=pQ (h1.one (by kernel_rfl))
 obtain⟨u2,l2,e2,hl2,_⟩:=pQ (h2.one (by kernel_rfl))
 refine dh.close (base:=base w hi) rfl trivial ?_
 simp only[List.map_cons,List.map_nil]
 rw[show jN (base w hi).n v0=u0 from(List.cons.inj e0).1,show jN (base w hi).n v1=u1 from(List.cons.inj e1).1,show jN (base w hi).n v2=u2 from(List.cons.inj e2).1]
 obtain⟨a0,a1,a2,e,h⟩:=D5 (M:=RM.old (base w hi) w) (Q:=fun v _=>v=Bo true) H6 Hw IM BJ Cr F8 Gi BM Cn zH ES IC hl0 hl1 hl2 (fun M'=>rfl)
 cases e
 exact lM h
set_option maxRecDepth 100000 in
theorem lifted (os:Os) (started:os.Started) (H:Type) (enc:TypeId × Value→H) :
  ReturnsInHanded {} Tryd.checked os 8 .any (fun w args=>(Rows.simdiskCalmSpec.pre enc Tryd.prog Tryd.f8 Rows.simdiskCalmRow.domain false w args∧laidMetH Tryd.prog Rows.simdiskCalmRow.laid w)∧sizedMet enc Tryd.prog Tryd.f8 (OpenSpec.ofChange Rows.simdiskCalmSpec) false w args)
   (Rows.simdiskCalmSpec.post enc Tryd.prog Tryd.f8 false true false false):=by
 refine returnsInHanded_of_change_and (C:=Tryd.checked) (X:=fun w _=>laidMetH Tryd.prog Rows.simdiskCalmRow.laid w) (fun _ _ _ hh h=>h.of_heap hh) own started (by kernel_rfl) Tryd.func8
  (ChangeSpec.witness_shaped (enc:=enc) (C:=Tryd.checked) (os:=os) (X:=fun w _=>laidMetH Tryd.prog Rows.simdiskCalmRow.laid w) false (World.laidAll Tryd.prog os Rows.simdiskCalmRow.laid) #[.slice none 0 0,.slice none 0 0,.slice none 0 0] 8 (World.laidAll_os _ _ _)
   (World.shaped_of_ZipB (by kernel_rfl) (by kernel_rfl)) (by kernel_rfl) (by kernel_rfl) (by kernel_rfl)
   (by rw[MakeChecks.laidMetH_plain _ _ _ (by kernel_rfl)]; exact laidMet_laidAll _ (by kernel_rfl) (by kernel_rfl))) ?_
 intro W b0 args ds gs before hval hW hcnd hwt hL _
 have hW':=hW
 obtain⟨p,q,hA,hV,rfl,hfz,hnd⟩:=hW
 rw[Tryd.params8] at hA hwt
 have hi:Inv W:=inv_of W hL
 obtain⟨rfl,rfl⟩:=trodVars_none hV
 have hfit:=Ag (base:=base W hi) rfl hA (fun j t v hj hv=>hval j t v (by rw[Tryd.params8]; simpa using hj) (by simpa using hv)) (fun y hy=>by
  have JP:(DataW.weightsEach Tryd.prog [30,33,33] (ds++[])).all (· ≤ reachBytes)=true:=hwt
  have:=List.all_eq_true.1 JP y (by rw[List.append_nil]; exact hy)
  simpa using this)
 simp only[List.append_nil] at hW'
 have hlt:∀ x∈p,x.block<W.heap.size:=fun x hx=>hW'.lt x hx
 obtain⟨v0,v1,v2,d0,d1,d2,p0,p1,p2,rfl,rfl,rfl,h0,h1,h2⟩:=trodAll_three hA
 refine(walk W hi v0 v1 v2 (hfit 0 _ _ rfl rfl) (hfit 1 _ _ rfl rfl) (hfit 2 _ _ rfl rfl)).mono fun e W' ⟨he,hg⟩=>?_
 subst he
 exact⟨_,rfl,yA (pa:=_) (pv:=[]) hW' (fun _ _ _=>(trodAll_cons_mk (shut_bool Tryd.underlying4 _) trodAll_mk0)) (fun sp hsp=>by
   rw[Tryd.params8]
   exact pE (by kernel_rfl) hg (fun t ht=>by
    have ht:t=30∨t=33∨t=33:=by simpa using ht
    rcases ht with rfl | rfl | rfl <;> exact⟨by kernel_rfl,of_decide_eq_true (by kernel_rfl)⟩) hA hlt hsp) (fun _ _=>rfl) (by simp)
  hg (ok_one (by kernel_rfl) rfl (okWide_bool_mk Tryd.underlying4 _))⟩
theorem over:Rows.SimdiskCalmSaid :=
 OpenClaim.holds_of_wide 8 Tryd.f8 rfl rfl rfl rfl rfl rfl rfl ⟨rfl,rfl,rfl,rfl,rfl⟩ rfl rfl rfl rfl rfl (by kernel_rfl) Tryd.func8 (by kernel_rfl)
  (of_decide_eq_true (by kernel_rfl)) (by unfold Func.isWrapper; first | (rw[if_pos (by decide +kernel)]; kernel_rfl) | (rw[if_neg (by decide +kernel)]; exact⟨rfl,rfl⟩))
  (fun os started H enc _=>lifted os started H enc)
theorem proved:Rows.SimdiskCalmCardSaid :=
 Claim7.holds_tied_plain_at .later [] [.data,.pinned] true (true,"51c856ff017852cadd3b9a64a8e6009163d39e61b0c3c8e15feabaea5d552ae6") true
  over (fun _ h=>by cases h) (by kernel_rfl) (fun _ h=>by cases h) simdiskCalm_row_tie rfl ⟨rfl,rfl⟩ (by kernel_rfl) rfl
  (fun f fn hf hfn=>by
   obtain rfl:f=8:=Option.some.inj ((show Tryd.prog.funcNamed "rolodex/rolodexlaw5.SimdiskCalm" = some 8 by kernel_rfl).symm.trans hf) |>.symm
   obtain rfl:fn=Tryd.f8:=(Option.some.inj (Tryd.func8.symm.trans hfn)).symm
   exact⟨by kernel_rfl,fun j t ht=>by
    rw[Tryd.params8] at ht
    have hm:=Array.mem_of_getElem? ht
    have hm:t=30∨t=33∨t=33:=by simpa using hm
    rcases hm with rfl | rfl | rfl
    ·exact(by kernel_rfl:Tryd.prog.wantsStandIn 30=false)
    ·exact(by kernel_rfl:Tryd.prog.wantsStandIn 33=false)
    ·exact(by kernel_rfl:Tryd.prog.wantsStandIn 33=false)⟩)
  (by kernel_rfl)
end Go.Proofs.YtckpmlcaaagnkaaDoor.simdiskCalm
