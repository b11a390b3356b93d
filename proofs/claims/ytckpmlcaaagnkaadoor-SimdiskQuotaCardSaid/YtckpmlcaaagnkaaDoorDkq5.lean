/- 'SimdiskQuota' returns true for all arguments: an append is taken just if all bytes then are at most the quota; a refused one changes nothing. The card's listed variables are tied to the program's text. No other condition. By an AI agent. -/
import Derived.Test.YtckpmlcaaagnkaaDoorDkq4
import Derived.KernelRfl
import Derived.Test.YtckpmlcaaagnkaaDoorProg
import Derived.Shelf.SlIter.Nil
import Derived.Shelf.SortM.Plain
import Derived.Shelf.SortM.SortNone
import Derived.Ground.GgzProg
import Derived.Ground.SlgmProg
import Derived.WideShapes
import Derived.Shelf.Strings.SlTrimAscii
import Derived.Test.YtckpmlcaaagnkaaDoorRows
import Derived.Test.YtckpmlcaaagnkaaDoorTie
import Derived.Test.YtckpmlcaaagnkaaDoorCards
import Derived.Carry
import Derived.WalkKit
import Derived.ProofKit
import Derived.OpenShut
import Derived.LaidMore
import Derived.Lay
import Derived.SevenTiedAt
import Derived.Stop.Joined
set_option maxRecDepth 100000
set_option linter.unusedVariables false
set_option linter.unusedSimpArgs false
namespace Go.Proofs.YtckpmlcaaagnkaaDoor
open Go Go.Ab
abbrev aG := @cB Tryd.prog
theorem Ko:uC Tryd.prog:=⟨EQ (by kernel_rfl),by kernel_rfl⟩
theorem dS {f:FuncId} {fn:Func} {args:List AV} {M:RM} {Q:af} {B:Prop} (h:B) (hfn:Tryd.prog.funcs[f]?=some fn:=by kernel_rfl) (e:B=uU Tryd.prog fn args M Q:=by kernel_rfl) : aG f args M Q:=Eh Ko hfn (e▸h)
variable {a0 a1 a2 a3 a4 a5 a6 a7:AV} {M:RM} {Q:af}
theorem kS (h:Go.Ab.Dk.gH (aG 9) (aG 10) (aG 17) (aG 11) 5 (aG 12) (aG 27) (aG 31) a0 a1 a2 M Q) : aG 7 [a0,a1,a2] M Q:=dS (fn:=Tryd.f7) h
theorem qb (h:Go.Ab.Dk.lu (aG 10) (aG 11) 5 (aG 12) (aG 13) (aG 23) (aG 30) 3 (aG 25) (aG 29) (aG 27) (aG 14) (aG 15) (aG 31) 60  M Q) : aG 9 [] M Q:=dS (fn:=Tryd.f9) h
theorem o6 (h:Go.Ab.Dk.kF 73 a0 M Q) : aG 10 [a0] M Q:=dS (fn:=Tryd.f10) h
theorem jX (h:Go.Ab.Dk.fK (aG 33) 78 (aG 34) a0 a1 M Q) : aG 11 [a0,a1] M Q:=dS (fn:=Tryd.f11) h
theorem jY (h:Go.Ab.Dk.fE (aG 35) 5 (aG 36) a0 a1 a2 M Q) : aG 12 [a0,a1,a2] M Q:=dS (fn:=Tryd.f12) h
theorem kJ (h:Go.Ab.Dk.gK (aG 36) a0 a1 M Q) : aG 13 [a0,a1] M Q:=dS (fn:=Tryd.f13) h
theorem jW (h:Go.Ab.Dk.fO (aG 33) (aG 34) a0 a1 a2 M Q) : aG 14 [a0,a1,a2] M Q:=dS (fn:=Tryd.f14) h
theorem j6 (h:Go.Ab.Dk.fH (aG 34) a0 a1 M Q) : aG 15 [a0,a1] M Q:=dS (fn:=Tryd.f15) h
theorem qK (h:Go.Ab.Dk.mI 9 a0 M Q) : aG 17 [a0] M Q:=dS (fn:=Tryd.f17) h
theorem jL (h:Go.Ab.Dk.fe (aG 41) (aG 36) a0 M Q) : aG 23 [a0] M Q:=dS (fn:=Tryd.f23) h
theorem kD (h:Go.Ab.Dk.gm (aG 42) 80 (aG 43) (aG 41) (aG 30) a0 a1 M Q) : aG 25 [a0,a1] M Q:=dS (fn:=Tryd.f25) h
theorem kw (h:Go.Ab.Dk.fZ a0 a1 M Q) : aG 27 [a0,a1] M Q:=dS (fn:=Tryd.f27) h
theorem lc (h:Go.Ab.Dk.gI (aG 46) a0 a1 M Q) : aG 29 [a0,a1] M Q:=dS (fn:=Tryd.f29) h
theorem kU (h:Go.Ab.Dk.gL (aG 48) (aG 47) a0 M Q) : aG 30 [a0] M Q:=dS (fn:=Tryd.f30) h
theorem kP (h:Go.Ab.Dk.gJ 60 (aG 35) (aG 49) a0 M Q) : aG 31 [a0] M Q:=dS (fn:=Tryd.f31) h
theorem oq (h:Go.Ab.Dk.jO (aG 50) a0 M Q) : aG 33 [a0] M Q:=dS (fn:=Tryd.f33) h
theorem jQ (h:Go.Ab.Dk.fo 80 (aG 43) a0 a1 M Q) : aG 34 [a0,a1] M Q:=dS (fn:=Tryd.f34) h
theorem kC (h:Go.Ab.Dk.gB a0 M Q) : aG 35 [a0] M Q:=dS (fn:=Tryd.f35) h
theorem jA (h:Go.Ab.Dk.eB (ou Tryd.prog 51) a0 a1 M Q) : aG 36 [a0,a1] M Q:=dS (fn:=Tryd.f36) h
theorem dh (h:Go.Ab.Dk.aS 65 (ou Tryd.prog 52) a0 M Q) : aG 41 [a0] M Q:=dS (fn:=Tryd.f41) h
theorem oF (h:Go.Ab.Dk.jD a0 a1 a2 M Q) : aG 42 [a0,a1,a2] M Q:=dS (fn:=Tryd.f42) h
theorem kT (h:Go.Ab.Dk.gG 80 a0 a1 M Q) : aG 43 [a0,a1] M Q:=dS (fn:=Tryd.f43) h
theorem pX (h:Go.Ab.Dot.zG 5 a0 M Q) : aG 46 [a0] M Q:=dS (fn:=Tryd.f46) h
theorem di (h:Go.Ab.Dk.aT 65 57 a0 M Q) : aG 48 [a0] M Q:=dS (fn:=Tryd.f48) h
theorem ji (h:Go.Ab.Dk.dX (ou Tryd.prog 58) a0 M Q) : aG 49 [a0] M Q:=dS (fn:=Tryd.f49) h
end Go.Proofs.YtckpmlcaaagnkaaDoor
namespace Go.Proofs
open Go.RowKit Go.Maps Go.Sort Go.Shelf
def Tryd.lKeys_ren:Go.Shelf.Ren:=⟨fun | 7=>48 | 10=>57 | n=>n,fun | 23=>65 | 26=>9 | 3=>75 | 28=>99 | 0=>0 | 27=>98 | 33=>74 | 4=>4 | n=>n,fun | n=>n⟩
theorem Tryd.lKeys:Go.Proofs.SlLaysZ.n7 Tryd.prog Tryd.lKeys_ren where
 mixed:=by kernel_rfl
 f7:=⟨ "maps.Keys[map[string]*rolodex/simdisk.file,string,*rolodex/simdisk.file]",by decide,Tryd.func48.trans (congrArg some (by kernel_rfl))⟩
 f10:=⟨ "maps.Keys[map[string]*rolodex/simdisk.file,string,*rolodex/simdisk.file]$1",by decide,Tryd.func57.trans (congrArg some (by kernel_rfl))⟩
 t0:=Tryd.underlying0
 a0:=Tryd.isAgg0
 z0:=Tryd.sizeOf0
 v0:=Tryd.zeroValue0
 t4:=Tryd.underlying4
 a4:=Tryd.isAgg4
 z4:=Tryd.sizeOf4
 v4:=Tryd.zeroValue4
 t23:=Tryd.underlying65
 a23:=Tryd.isAgg65
 z23:=Tryd.sizeOf65
 v23:=Tryd.zeroValue65
 t26:=Tryd.underlying9
 a26:=Tryd.isAgg9
 z26:=Tryd.sizeOf9
 v26:=Tryd.zeroValue9
 t27:=Tryd.underlying98
 a27:=Tryd.isAgg98
 z27:=Tryd.sizeOf98
 v27:=Tryd.zeroValue98
 t28:=Tryd.underlying99
 a28:=Tryd.isAgg99
 z28:=Tryd.sizeOf99
 v28:=Tryd.zeroValue99
 t33:=Tryd.underlying74
 a33:=Tryd.isAgg74
 z33:=Tryd.sizeOf74
 v33:=Tryd.zeroValue74
def Tryd.lSorted_ren:Go.Shelf.Ren:=⟨fun | 6=>47 | 8=>55 | 9=>56 | 11=>66 | 13=>68 | 12=>67 | 23=>82 | 24=>83 | 14=>73 | 15=>74 | 16=>75 | 17=>76 | 18=>77 | 19=>78 | 20=>79 | 21=>80 | 22=>81 | 25=>87 | 26=>88 | 27=>89 | 28=>90 | 29=>91 | 30=>92 | 31=>97 | n=>n,fun | 26=>9 | 28=>99 | 24=>56 | 0=>0 | 3=>3 | 37=>121 | 48=>136 | 50=>138 | 4=>4 | 40=>128 | 39=>127 | 45=>133 | 5=>5 | 9=>9 | 51=>140 | 55=>144 | 57=>154 | 58=>155 | 33=>74 | n=>n,fun | n=>n⟩
theorem Tryd.lSorted:Go.Proofs.SlLaysZ.n6 Tryd.prog Tryd.lSorted_ren where
 mixed:=by kernel_rfl
 f6:=⟨ "slices.Sorted[string]",by decide,Tryd.func47.trans (congrArg some (by kernel_rfl))⟩
 f8:=⟨ "slices.Collect[string]",by decide,Tryd.func55.trans (congrArg some (by kernel_rfl))⟩
 f11:=⟨ "slices.AppendSeq[[]string,string]",by decide,Tryd.func66.trans (congrArg some (by kernel_rfl))⟩
 t0:=Tryd.underlying0
 a0:=Tryd.isAgg0
 z0:=Tryd.sizeOf0
 v0:=Tryd.zeroValue0
 t24:=Tryd.underlying56
 a24:=Tryd.isAgg56
 z24:=Tryd.sizeOf56
 v24:=Tryd.zeroValue56
 t26:=Tryd.underlying9
 a26:=Tryd.isAgg9
 z26:=Tryd.sizeOf9
 v26:=Tryd.zeroValue9
 t28:=Tryd.underlying99
 a28:=Tryd.isAgg99
 z28:=Tryd.sizeOf99
 v28:=Tryd.zeroValue99
 i26:=by kernel_rfl
def Tryd.lSort_ren:Go.Shelf.Ren:=⟨fun | 6=>56 | 8=>68 | 9=>67 | 19=>82 | 20=>83 | 21=>73 | 22=>74 | 23=>75 | 24=>76 | 25=>77 | 26=>78 | 27=>79 | 28=>80 | 29=>81 | 36=>87 | 31=>88 | 32=>89 | 37=>90 | 38=>91 | 39=>92 | 41=>97 | n=>n,fun | 27=>56 | 29=>9 | 3=>3 | 32=>121 | 26=>56 | 0=>0 | 44=>136 | 46=>138 | 4=>4 | 36=>128 | 35=>127 | 41=>133 | 5=>5 | 9=>9 | 53=>140 | 57=>144 | 63=>154 | 64=>155 | n=>n,fun | n=>n⟩
theorem Tryd.lSort:Go.Proofs.SlLaysM.n6 Tryd.prog Tryd.lSort_ren where
 mixed:=by kernel_rfl
 f6:=⟨ "slices.Sort[[]string,string]",by decide,Tryd.func56.trans (congrArg some (by kernel_rfl))⟩
 f8:=Tryd.func68.trans (congrArg some (by kernel_rfl))
 f9:=⟨ "slices.pdqsortOrdered[string]",by decide,Tryd.func67.trans (congrArg some (by kernel_rfl))⟩
 f19:=Tryd.func82.trans (congrArg some (by kernel_rfl))
 f20:=Tryd.func83.trans (congrArg some (by kernel_rfl))
 f21:=⟨ "slices.insertionSortOrdered[string]",by decide,Tryd.func73.trans (congrArg some (by kernel_rfl))⟩
 f22:=⟨ "slices.heapSortOrdered[string]",by decide,Tryd.func74.trans (congrArg some (by kernel_rfl))⟩
 f23:=⟨ "slices.breakPatternsOrdered[string]",by decide,Tryd.func75.trans (congrArg some (by kernel_rfl))⟩
 f24:=⟨ "slices.choosePivotOrdered[string]",by decide,Tryd.func76.trans (congrArg some (by kernel_rfl))⟩
 f25:=⟨ "slices.reverseRangeOrdered[string]",by decide,Tryd.func77.trans (congrArg some (by kernel_rfl))⟩
 f26:=⟨ "slices.partialInsertionSortOrdered[string]",by decide,Tryd.func78.trans (congrArg some (by kernel_rfl))⟩
 f27:=⟨ "cmp.Less[string]",by decide,Tryd.func79.trans (congrArg some (by kernel_rfl))⟩
 f28:=⟨ "slices.partitionEqualOrdered[string]",by decide,Tryd.func80.trans (congrArg some (by kernel_rfl))⟩
 f29:=⟨ "slices.partitionOrdered[string]",by decide,Tryd.func81.trans (congrArg some (by kernel_rfl))⟩
 f31:=Tryd.func88.trans (congrArg some (by kernel_rfl))
 f32:=Tryd.func89.trans (congrArg some (by kernel_rfl))
 f36:=⟨ "slices.siftDownOrdered[string]",by decide,Tryd.func87.trans (congrArg some (by kernel_rfl))⟩
 f37:=⟨ "slices.medianAdjacentOrdered[string]",by decide,Tryd.func90.trans (congrArg some (by kernel_rfl))⟩
 f38:=⟨ "slices.medianOrdered[string]",by decide,Tryd.func91.trans (congrArg some (by kernel_rfl))⟩
 f39:=⟨ "cmp.isNaN[string]",by decide,Tryd.func92.trans (congrArg some (by kernel_rfl))⟩
 f41:=⟨ "slices.order2Ordered[string]",by decide,Tryd.func97.trans (congrArg some (by kernel_rfl))⟩
 t0:=Tryd.underlying0
 a0:=Tryd.isAgg0
 z0:=Tryd.sizeOf0
 v0:=Tryd.zeroValue0
 t3:=Tryd.underlying3
 a3:=Tryd.isAgg3
 z3:=Tryd.sizeOf3
 v3:=Tryd.zeroValue3
 t4:=Tryd.underlying4
 a4:=Tryd.isAgg4
 z4:=Tryd.sizeOf4
 v4:=Tryd.zeroValue4
 t5:=Tryd.underlying5
 a5:=Tryd.isAgg5
 z5:=Tryd.sizeOf5
 v5:=Tryd.zeroValue5
 t9:=Tryd.underlying9
 a9:=Tryd.isAgg9
 z9:=Tryd.sizeOf9
 v9:=Tryd.zeroValue9
 t26:=Tryd.underlying56
 a26:=Tryd.isAgg56
 z26:=Tryd.sizeOf56
 v26:=Tryd.zeroValue56
 t27:=Tryd.underlying56
 a27:=Tryd.isAgg56
 z27:=Tryd.sizeOf56
 v27:=Tryd.zeroValue56
 t29:=Tryd.underlying9
 a29:=Tryd.isAgg9
 z29:=Tryd.sizeOf9
 v29:=Tryd.zeroValue9
 t32:=Tryd.underlying121
 a32:=Tryd.isAgg121
 z32:=Tryd.sizeOf121
 v32:=Tryd.zeroValue121
 t35:=Tryd.underlying127
 a35:=Tryd.isAgg127
 z35:=Tryd.sizeOf127
 v35:=Tryd.zeroValue127
 t36:=Tryd.underlying128
 a36:=Tryd.isAgg128
 z36:=Tryd.sizeOf128
 v36:=Tryd.zeroValue128
 t41:=Tryd.underlying133
 a41:=Tryd.isAgg133
 z41:=Tryd.sizeOf133
 v41:=Tryd.zeroValue133
 t44:=Tryd.underlying136
 a44:=Tryd.isAgg136
 z44:=Tryd.sizeOf136
 v44:=Tryd.zeroValue136
 t46:=Tryd.underlying138
 a46:=Tryd.isAgg138
 z46:=Tryd.sizeOf138
 v46:=Tryd.zeroValue138
 t53:=Tryd.underlying140
 a53:=Tryd.isAgg140
 z53:=Tryd.sizeOf140
 v53:=Tryd.zeroValue140
 t57:=Tryd.underlying144
 a57:=Tryd.isAgg144
 z57:=Tryd.sizeOf144
 v57:=Tryd.zeroValue144
 t63:=Tryd.underlying154
 a63:=Tryd.isAgg154
 z63:=Tryd.sizeOf154
 v63:=Tryd.zeroValue154
 t64:=Tryd.underlying155
 a64:=Tryd.isAgg155
 z64:=Tryd.sizeOf155
 v64:=Tryd.zeroValue155
end Go.Proofs
namespace Go.Ab.Dk
open Go Go.Ab Go.RowKit Go.Proofs Go.Maps Go.Sort Go.MapKept Go.WideShapes
open Go.WideElems (Fit rg)
open Go.Proofs.YtckpmlcaaagnkaaDoor
theorem FY (m:Nat) : AnyZ.SortsIn Tryd.prog Tryd.lSorted_ren Fence.wide m :=
 ⟨fun blk off cap ss W hH hblk hsz=>callsIn_wide.2 (AnyM.slices_Sort_string Tryd.lSort blk off cap ss W hH hblk hsz),
  fun p cap W=>callsIn_wide.2 (AnyM.slices_Sort_string_none Tryd.lSort p cap W)⟩
def wN:Value→Option (DataW Unit × List MemPlace):=fun _=>some (.nil,[])
theorem fits {ρ:Ren} {fbs:List Nat} {cl:Nat} : ∀ {es:List (AV × AV × Nat)} {fs:List MapEntry} {d:Dir} {lo:Nat},cu fbs cl lo es d→aP ρ es fs→jc d →
  (fs.map (·.key))=d.map (fun e=>encStr e.1)∧(∀ x∈fs,x.born<cl∧lo≤x.born)∧(fs.map (·.born)).Nodup∧fs.length=d.length
 | [],[],[],_,_,_,_=>⟨rfl,by simp,by simp,rfl⟩
 | (k,v,n) :: es,f :: fs,x :: d,lo,⟨h1,h2,h3,h4,h5⟩,hr,hw=>by
   obtain⟨r1,r2,r3,r4⟩:=hr
   have hw' : jc d:=⟨(List.nodup_cons.1 hw.1).2,fun n hn=>hw.2 n (List.mem_cons_of_mem _ hn)⟩
   have h5:cu fbs cl (n + 1) es d:=h5
   obtain⟨a1,a2,a3,a4⟩:=fits h5 r4 hw'
   simp only at h1 h3 h4 r3
   subst h1
   obtain⟨hk,_⟩:=ak r1
   refine⟨?_, ?_, ?_, ?_⟩
   ·simp only[List.map_cons,a1]
    rw[hk]
   ·intro y hy
    rcases List.mem_cons.1 hy with rfl | hy
    ·rw[r3]; exact⟨h4,h3⟩
    ·have:=a2 y hy; exact⟨this.1,by omega⟩
   ·rw[List.map_cons,List.nodup_cons]
    refine⟨fun hm=>?_,a3⟩
    obtain⟨y,hy,he⟩:=List.mem_map.1 hm
    have:=(a2 y hy).2
    omega
   ·simp[a4]
theorem strKeys_perm {fs:List MapEntry} {d:Dir} (hk:fs.map (·.key)=d.map (fun e=>encStr e.1)) (hl:∀ n∈aH d,n.length≤64) :
  (strKeys (.map ((fs.map (rg (H:=Unit) Tryd.prog 9 wN)).foldr DataW.insert []))).Perm (aH d):=by
 have h1:((fs.map (rg (H:=Unit) Tryd.prog 9 wN)).foldr DataW.insert []).Perm (fs.map (rg (H:=Unit) Tryd.prog 9 wN)):=sorted_perm _
 refine(h1.map _).trans ?_
 clear h1
 induction fs generalizing d with
 | nil =>
   cases d with
   | nil=>exact .refl _
   | cons=>simp at hk
 | cons f fs ih =>
   cases d with
   | nil=>simp at hk
   | cons x d =>
     simp only[List.map_cons,List.cons.injEq] at hk
     have e:strOf (rg (H:=Unit) Tryd.prog 9 wN f).1=x.1:=by
      have hle:x.1.length≤64:=hl _ (by simp[aH])
      have:keyOf Tryd.prog 9 f.key=some (.string x.1):=by
       rw[hk.1]
       unfold keyOf mapKey
       simp only[Tryd.underlying9,encStr]
       rw[if_pos (by show x.1.length≤maxLen; unfold maxLen; omega)]
      unfold rg Go.WideElems.rd
      rw[this]; rfl
     simp only[aH,List.map_cons,e]
     exact .cons _ (ih hk.2 fun n hn=>hl n (List.mem_cons_of_mem _ hn))
theorem wG (ρ:Ren) : ∀ l:List Nm,av ρ (l.map fun s=>St s) (l.map encStr)
 | []=>.nil
 | s :: l=>.cons _ _ _ _ (.sc _ rfl) (wG ρ l)
theorem F7 {P:Program} {ρ:Ren} {M:RM} {w:World} (hw:aZ P ρ M w) {b:Nat} {i:bW} {l:List AV} {p:Bool} {e f:Nat} (hb:ρ b=some i) (hh:M.heap b=some (.row l p e f)) : i.sh=0:=by
 obtain⟨A,hA⟩:=hw
 rcases hA.blk b _ hh with⟨y,hy,hr⟩ | ⟨c,he,_⟩
 ·obtain⟨o,_,ho⟩:=hA.rel.blk b i y hb hy
  cases y with
  | row n t z op el fz=>obtain⟨c,fr,_,hrow⟩:=ho; exact hrow.sh0
  | map=>exact hr.elim
  | iter=>exact hr.elim
  | eP=>exact hr.elim
 ·cases he
theorem sorted {TM:Nat} : BL 9 TM 57 (aG 47):=by
 intro own M fbs m b d t Q hm hh hlt hlen hwf hQ
 obtain⟨es,cl,hmh,he⟩:=hm.heap
 refine cB.G7 (T:=9) (n:=(fV (aH d)).length) (cs:=(fV (aH d)).map fun s=>St s) ⟨Tryd.f47,_,Tryd.func47,rfl⟩ (by kernel_rfl) (by simp[oneCell]) (by simp) (fun ρ w us hus hw=>?_) (fun v M' o k=>hQ v M' (by rw[← Gh] at o; exact o) k)
 cases hus with
 | cons _ u1 _ us r1 hus =>
 cases hus
 cases r1 with
 | fn _ _ _ us1 vs1 hp q1 q2 =>
 cases q1
 cases q2 with
 | cons _ u2 _ us r2 q3 =>
 cases q3
 obtain⟨i,hbi,rfl⟩:=aW r2
 have hsh:=F7 hw hbi hh
 obtain⟨u,hu,hcell⟩:=jZ hw hbi (show M.loads b 0 1=some [.map m] by rw[RM.nL hh]; rfl)
 cases hu with
 | map _ j hmj =>
 obtain⟨A,hA⟩:=hw
 obtain⟨fs,hob,hfs⟩:=nI hA hmj hmh
 obtain⟨a1,a2,a3,a4⟩:=fits he hfs hwf
 rw[hsh] at hcell
 rw[hsh]
 have hdl:fs.size=d.length:=by rw[← a4]; simp
 have I6:Fit (H:=Unit) Tryd.prog 9 wN fs cl:=by
  refine⟨by rw[hdl]; unfold maxLen; omega,⟨fun x hx=>(a2 x hx).1,a3, ?_⟩,fun x hx=>?_⟩
  ·rw[a1]
   have:=hwf.1
   have e:d.map (fun e=>encStr e.1)=(aH d).map encStr:=by simp[aH]
   rw[e]
   exact List.Pairwise.map _ (fun a b h h2=>h (encStr_inj h2)) this
  ·have hxk:x.key∈fs.toList.map (·.key):=List.mem_map_of_mem hx
   rw[a1] at hxk
   obtain⟨y,hy,hye⟩:=List.mem_map.1 hxk
   have hle:=hwf.2 y.1 (List.mem_map_of_mem hy)
   refine⟨(.string y.1,.nil), ?_⟩
   unfold Go.WideElems.rd
   have:keyOf Tryd.prog 9 x.key=some (.string y.1):=by
    rw[← hye]
    unfold keyOf mapKey
    simp only[Tryd.underlying9,encStr]
    rw[if_pos (by show y.1.length≤maxLen; unfold maxLen; omega)]
   rw[this]; rfl
 have hown:w.ownsMap Tryd.prog 9 wN j.cb fs.size (.map ((fs.toList.map (rg (H:=Unit) Tryd.prog 9 wN)).foldr DataW.insert [])):=⟨fs,cl,hob,I6,Nat.le_refl _,rfl⟩
 have hsz:Maps.size (DataW.map ((fs.toList.map (rg (H:=Unit) Tryd.prog 9 wN)).foldr DataW.insert []))=d.length:=by
  rw[size_eq,length_sorted,List.length_map,a4]
 have hil:=hA.rel.dom b i hbi
 have hseq:SeqGives Fence.wide 2 Tryd.prog 57 #[.pointer (some ⟨i.cb,0,none⟩)] encStr _ _ w:=AnyZ.keys_gives (ρ:=Tryd.lKeys_ren) { Tryd.lKeys with } Fence.wide _ trivial rfl (by omega) i.cb j.cb fs.size _ w hil.2 hcell hown
 refine(callsIn_wide (n:=5)).1 ?_
 have cS:=AnyZ.sorted_in Tryd.lSorted Fence.wide 5 trivial trivial trivial trivial rfl (by omega) (FY _) (enters_of Tryd.func56 (by kernel_rfl) rfl) 57 #[.pointer (some ⟨i.cb,0,none⟩)] trivial (enters_of Tryd.func57 (by kernel_rfl) rfl) _ _ (by rw[hsz]; unfold maxLen; omega) (by rw[hsz]; omega) _ hseq
 change CallsIn _ _ Tryd.prog 47 _ _ _ at cS
 refine cS.mono ?_
 rintro e w' ⟨v,ss,rfl,hS,hrow,hnil,hb⟩
 have hperm:ss.Perm (aH d):=hS.trans (strKeys_perm a1 hwf.2)
 rw[Av hperm] at hrow
 have hl:ss.length=(fV (aH d)).length:=by rw[hperm.length_eq,(je _).length_eq]
 rw[hl] at hrow
 exact⟨v,_,rfl,hrow,fun ρ'=>wG ρ' _,hb⟩
end Go.Ab.Dk
namespace Go.Proofs
open Go.RowKit Go.Maps Go.Sort Go.Shelf
def Tryd.lays160_ren:Go.Shelf.Ren:=⟨fun | 160=>50 | 232=>60 | 231=>59 | 227=>61 | 234=>63 | 233=>62 | 236=>65 | 235=>64 | 228=>69 | 271=>72 | 151=>71 | 197=>70 | 120=>86 | 152=>85 | 260=>84 | 137=>93 | 119=>94 | 224=>95 | 225=>96 | 217=>98 | 266=>99 | n=>n,fun | 9=>9 | 4=>4 | 3=>3 | 5=>5 | 117=>114 | 116=>113 | 0=>0 | 124=>117 | 21=>21 | 105=>123 | 46=>121 | 119=>146 | 139=>149 | 138=>148 | n=>n,fun | 3=>0 | 4=>1 | n=>n⟩
theorem Tryd.lays160:Go.Proofs.Lays.n160 Tryd.prog Tryd.lays160_ren where
 mixed:=by kernel_rfl
 f119:=Tryd.func94.trans (congrArg some (by kernel_rfl))
 f120:=Tryd.func86.trans (congrArg some (by kernel_rfl))
 f137:=Tryd.func93.trans (congrArg some (by kernel_rfl))
 f151:=Tryd.func71.trans (congrArg some (by kernel_rfl))
 f152:=Tryd.func85.trans (congrArg some (by kernel_rfl))
 f160:=Tryd.func50.trans (congrArg some (by kernel_rfl))
 f197:=Tryd.func70.trans (congrArg some (by kernel_rfl))
 f217:=Tryd.func98.trans (congrArg some (by kernel_rfl))
 f224:=Tryd.func95.trans (congrArg some (by kernel_rfl))
 f225:=Tryd.func96.trans (congrArg some (by kernel_rfl))
 f227:=Tryd.func61.trans (congrArg some (by kernel_rfl))
 f228:=Tryd.func69.trans (congrArg some (by kernel_rfl))
 f231:=Tryd.func59.trans (congrArg some (by kernel_rfl))
 f232:=Tryd.func60.trans (congrArg some (by kernel_rfl))
 f233:=Tryd.func62.trans (congrArg some (by kernel_rfl))
 f234:=Tryd.func63.trans (congrArg some (by kernel_rfl))
 f235:=Tryd.func64.trans (congrArg some (by kernel_rfl))
 f236:=Tryd.func65.trans (congrArg some (by kernel_rfl))
 f260:=Tryd.func84.trans (congrArg some (by kernel_rfl))
 f266:=Tryd.func99.trans (congrArg some (by kernel_rfl))
 f271:=Tryd.func72.trans (congrArg some (by kernel_rfl))
 t0:=Tryd.underlying0
 a0:=Tryd.isAgg0
 z0:=Tryd.sizeOf0
 v0:=Tryd.zeroValue0
 t3:=Tryd.underlying3
 a3:=Tryd.isAgg3
 z3:=Tryd.sizeOf3
 v3:=Tryd.zeroValue3
 t4:=Tryd.underlying4
 a4:=Tryd.isAgg4
 z4:=Tryd.sizeOf4
 v4:=Tryd.zeroValue4
 t5:=Tryd.underlying5
 a5:=Tryd.isAgg5
 z5:=Tryd.sizeOf5
 v5:=Tryd.zeroValue5
 t9:=Tryd.underlying9
 a9:=Tryd.isAgg9
 z9:=Tryd.sizeOf9
 v9:=Tryd.zeroValue9
 t21:=Tryd.underlying21
 a21:=Tryd.isAgg21
 z21:=Tryd.sizeOf21
 v21:=Tryd.zeroValue21
 t46:=Tryd.underlying121
 a46:=Tryd.isAgg121
 z46:=Tryd.sizeOf121
 v46:=Tryd.zeroValue121
 t105:=Tryd.underlying123
 a105:=Tryd.isAgg123
 z105:=Tryd.sizeOf123
 v105:=Tryd.zeroValue123
 t116:=Tryd.underlying113
 a116:=Tryd.isAgg113
 z116:=Tryd.sizeOf113
 t117:=Tryd.underlying114
 a117:=Tryd.isAgg114
 z117:=Tryd.sizeOf114
 v117:=Tryd.zeroValue114
 t119:=Tryd.underlying146
 a119:=Tryd.isAgg146
 z119:=Tryd.sizeOf146
 t124:=Tryd.underlying117
 a124:=Tryd.isAgg117
 z124:=Tryd.sizeOf117
 v124:=Tryd.zeroValue117
 t138:=Tryd.underlying148
 a138:=Tryd.isAgg148
 z138:=Tryd.sizeOf148
 v138:=Tryd.zeroValue148
 t139:=Tryd.underlying149
 a139:=Tryd.isAgg149
 z139:=Tryd.sizeOf149
 v139:=Tryd.zeroValue149
 g3:=by kernel_rfl
 g4:=by kernel_rfl
end Go.Proofs
namespace Go.Ab.Dk
open Go Go.Ab Go.RowKit Go.Proofs
open Go.Proofs.YtckpmlcaaagnkaaDoor
theorem Jk:rA (ou Tryd.prog 51):=by
 intro M b o el l p x y Q hh hl hQ
 exact .inr (.inr (.inr (.inr ⟨_,_,rq (f:=51) Tryd.func51 (by decide) rfl (by kernel_rfl) (by kernel_rfl) hh hl,hQ⟩)))
theorem Ir:sP (ou Tryd.prog 58):=by
 intro M b o el l p x Q hh hl hQ
 exact .inr (.inr (.inr (.inl ⟨_,qJ (f:=58) Tryd.func58 (by decide) rfl (by kernel_rfl) (by kernel_rfl) hh hl,hQ⟩)))
theorem Hl:Bh 65 (ou Tryd.prog 52):=by
 intro M m cl es Q hh hQ
 exact .inr (.inr (.inr (.inr ⟨_,_,rT (f:=52) Tryd.func52 (by decide) rfl (by kernel_rfl) (by kernel_rfl) hh,hQ⟩)))
abbrev l7:List UInt8:=[97,98,99,100,101,102,103,104,105,106,107,108,109,110,111,112,113,114,115,116,117,118,119,120,121,122,48,49,50,51,52,53,54,55,56,57,46,45,95]
theorem De:∀ (j:Nat) b,(⟨⟨l7⟩⟩ : ByteArray).data.toList[j]?=some b→b.toNat<128:=fun j b h=>by
 have hm:b∈l7:=List.mem_of_getElem? h
 have:l7.all (fun b=>decide (b.toNat<128))=true:=by decide
 exact of_decide_eq_true (List.all_eq_true.1 this b hm)
theorem F8 (b:UInt8) : l7.contains b=jP b:=by
 have:∀ n:Fin 256,l7.contains (UInt8.ofNat n.val)=jP (UInt8.ofNat n.val):=by decide
 have h:=this ⟨b.toNat,b.toNat_lt⟩
 simpa using h
theorem dropWhile_nil {p:UInt8→Bool} : ∀ {l:List UInt8},l.dropWhile p=[]↔l.all p=true
 | []=>by simp
 | a :: l=>by
   rw[List.dropWhile_cons,List.all_cons]
   cases h:p a
   ·simp
   ·simp only[if_true,Bool.true_and]; exact dropWhile_nil
theorem DW (s:List UInt8) : Lib.trimS s l7=[]↔s.all jP=true:=by
 have e:(fun b=>l7.contains b)=jP:=funext F8
 unfold Lib.trimS Lib.trimLeftS Lib.trimRightS
 rw[dropWhile_nil,e,List.all_reverse]
 constructor
 ·intro h
  rw[List.all_eq_true] at h ⊢
  have h1:s.reverse.dropWhile jP=[]:=by
   by_cases hd:s.reverse.dropWhile jP=[]
   ·exact hd
   ·have:=List.head_dropWhile_not jP hd
    have h2:=h _ (List.head_mem hd)
    rw[this] at h2; cases h2
  have:=dropWhile_nil.1 h1
  rw[List.all_reverse,List.all_eq_true] at this
  exact this
 ·intro h
  have h1:s.reverse.dropWhile jP=[]:=dropWhile_nil.2 (by rw[List.all_reverse]; exact h)
  rw[h1]; rfl
theorem Gb:zM (aG 50):=by
 intro M s Q h1 h2 hQ
 refine cB.Fv (v:=St (Lib.trimS s l7)) ⟨Tryd.f50,_,Tryd.func50,rfl⟩ (fun ρ w us hus hw=>?_) (hQ M _ (ae.refl _ _) (DW s))
 cases hus with
 | cons _ u1 _ us r1 hus =>
 cases hus with
 | cons _ u2 _ us r2 hus =>
 cases hus
 obtain⟨rfl,_⟩:=ak r1
 obtain⟨rfl,_⟩:=ak r2
 refine(Any.strings_Trim_set Tryd.lays160 Tryd.zeroValue113 (by kernel_rfl) ⟨⟨s⟩⟩ ⟨⟨l7⟩⟩ w (by decide) (by show 0<s.length; omega) (by show s.length≤_; omega) (by decide) De).mono fun e w' ⟨he,q,hb⟩=>⟨_,he, ?_,.sc _ rfl⟩
 rw[hb]
 have h1:=(Below.refl w.heap.size w).alloc (Nat.le_refl _) (.cells (Lib.setCells l7) 113)
 have h2:=h1.alloc h1.size (.cells (Lib.setCells l7) 113)
 exact⟨h2.os,h2.tape,h2.output,h2.size,h2.block⟩
end Go.Ab.Dk
namespace Go.Proofs.YtckpmlcaaagnkaaDoor.nz
open Go Go.Ab Go.Ab.Dk Go.RowKit
theorem Gz:Bq 5 (aG 46):=fun h1 h2 h3 h4 _ hQ=>pX (Go.Ab.Dot.DX h1 h2 (Nat.le_refl _) h3 h4 hQ)
theorem E8:rA (aG 36):=by
 intro M b o el l p x y Q h1 h2 h3
 obtain⟨a0,a1,e,h⟩:=EN Jk h1 h2 h3
 cases e; exact jA h
theorem Iq:sP (aG 49):=by
 intro M b o el l p x Q h1 h2 h3
 obtain⟨a0,e,h⟩:=Ec Ir h1 h2 h3
 cases e; exact ji h
theorem Bv:qo (aG 41):=by
 intro M m cl es Q h1 h2
 obtain⟨a0,e,h⟩:=AR Hl h1 h2
 cases e; exact dh h
theorem Ie:CP (aG 42):=by
 intro M v p i n Q h1 h2 h3
 obtain⟨a0,a1,a2,e,h⟩:=Dy h1 h2 h3
 cases e; exact oF h
theorem FV:xL (aG 33):=by
 intro M s Q h1
 obtain⟨a0,e,h⟩:=Dq Gb h1
 cases e; exact oq h
theorem IL:FJ (aG 43):=by
 intro own M fbs m d t ch Q h1 h2 h3
 obtain⟨a0,a1,e,h⟩:=Gi (TC:=80) h1 h2 h3
 cases e; exact kT h
theorem qZ:lH 73 78 5 80 (aG 34):=by
 intro own M db s fbs nm sm cv ch Q h1 h2 h3 h4
 obtain⟨a0,a1,e,h⟩:=Ac IL h1 h2 h3 h4
 cases e; exact jQ h
theorem Hf:Cs 73 78 5 80 (aG 10):=by
 intro M n Q h1 h2
 obtain⟨a0,e,h⟩:=Eu h1 h2
 cases e; exact o6 h
theorem Bt:zP 73 78 5 80 dN (aG 11):=by
 intro own M db s n Q h1 h2 h3
 obtain⟨a0,a1,e,h⟩:=AB FV qZ h1 h2 h3
 cases e; exact jX h
theorem Ea:uk 73 78 5 80 (aG 35):=by
 intro own M db s Q h1 h2 h3
 obtain⟨a0,e,h⟩:=CU h1 h2 h3
 cases e; exact kC h
theorem Be:qF 73 78 5 80 (aG 12):=by
 intro own M db s n v b Q h1 h2 h3 h4 h5 h6 h7
 obtain⟨a0,a1,a2,e,h⟩:=AQ Ea E8 h1 h2 h3 h4 h5 h6 h7
 cases e; exact jY h
theorem H7:C8 73 78 5 80 (aG 13):=by
 intro own M db s n Q h1 h2
 obtain⟨a0,a1,e,h⟩:=Dz E8 h1 h2
 cases e; exact kJ h
theorem Gm:uP 73 78 5 80 (aG 14):=by
 intro own M db s n to Q h1 h2 h3
 obtain⟨a0,a1,a2,e,h⟩:=AL FV qZ h1 h2 h3
 cases e; exact jW h
theorem F6:zP 73 78 5 80 nC (aG 15):=by
 intro own M db s n Q h1 h2 h3
 obtain⟨a0,a1,e,h⟩:=Ar qZ h1 h2 h3
 cases e; exact j6 h
theorem EK:rH 73 78 5 80 (aG 23):=by
 intro own M db s Q h1 h2
 obtain⟨a0,e,h⟩:=yY Bv E8 h1 h2
 cases e; exact jL h
theorem Es:tq 73 78 5 80 (aG 27):=by
 intro own M db s n Q h1 h2
 obtain⟨a0,a1,e,h⟩:=CO h1 h2
 cases e; exact kw h
theorem Hy:Dj 73 78 5 80 (aG 29):=by
 intro own M db s n Q h1 h2 h3
 obtain⟨a0,a1,e,h⟩:=DF Gz h1 h2 h3
 cases e; exact lc h
theorem FE:xB 73 78 5 80 (aG 31):=by
 intro own M db s Q h1 h2 h3
 obtain⟨a0,e,h⟩:=Dt (TS:=60) Ea Iq h1 h2 h3
 cases e; exact kP h
theorem Iy:Cm 65 57 (aG 48):=by
 intro M m Q h1
 obtain⟨a0,e,h⟩:=Dp h1
 cases e; exact di h
theorem FM:xN 73 78 5 80 9 (aG 30):=by
 intro own M db s Q h1 h2 h3 h4
 obtain⟨a0,e,h⟩:=D8 Iy sorted h1 h2 h3 h4
 cases e; exact kU h
theorem GX:xV 73 78 5 80 (aG 25):=by
 intro own M db s v p Q h1 h2 h3 h4 h5 h6 h7 h8 h9
 obtain⟨a0,a1,e,h⟩:=Dc Ie IL Bv FM h1 h2 h3 h4 h5 h6 h7 h8 h9
 cases e; exact kD h
theorem Gq:uy (aG 9):=by
 intro M Q h1
 obtain⟨e,h⟩:=CJ (TI:=3) (TT:=60) Hf Bt Be H7 EK FM GX Hy Es Gm F6 FE h1
 exact qb h
theorem cells3:Tryd.prog.cellsOf 3=1:=by kernel_rfl
theorem D5 {M:RM} {cs:List AV} (h:Fits Tryd.prog M 33 cs) : ∃ v,∃ l:List Int,cs=[v]∧Sl INT M v l∧∀ d∈l,-9223372036854775808≤d∧d≤9223372036854775807:=by
 obtain⟨v,n,ds,rfl,hs,hb,he⟩:=h.Eg Tryd.underlying33 (by rw[cells3]; decide)
 rw[cells3] at hs he
 obtain⟨xs,rfl,rfl,hp⟩:=vZ (size:=1) INT.cells (fun d:Int=>-9223372036854775808≤d∧d≤9223372036854775807) (fun _=>rfl) n ds hs.length fun i hi=>by
  obtain⟨d,e,h1,h2⟩:=(he i hi).uH Tryd.underlying3
  exact⟨d,⟨h1,h2⟩,e⟩
 exact⟨v,xs,rfl,hs,hp⟩
theorem Hz:Ck (aG 17):=by
 intro M n Q h1
 obtain⟨a0,e,h⟩:=DN (T:=9) h1
 cases e; exact qK h
end Go.Proofs.YtckpmlcaaagnkaaDoor.nz
namespace Go.Proofs.YtckpmlcaaagnkaaDoor.simdiskQuota
open Go Go.Ab Go.ChangeShapes Go.WideShapes Go.ChangeAt Go.RowKit
theorem own:ownKnob Tryd.prog.godebug=none:=by kernel_rfl
open Go.Ab.Dk Go.Proofs.YtckpmlcaaagnkaaDoor.nz
def Inv (w:World) : Prop:=True
theorem inv_of (w:World) (h:laidMetH Tryd.prog Rows.simdiskQuotaRow.laid w) : Inv w:=trivial
def base (w:World) (hi:Inv w) : Base:=Base.any w.heap.size
theorem walk (w:World) (hi:Inv w) (v0 v1 v2:Value) (h0:iI Tryd.prog (RM.old (base w hi) w) 3 (jH w.heap.size v0)) (h1:iI Tryd.prog (RM.old (base w hi) w) 33 (jH w.heap.size v1)) (h2:iI Tryd.prog (RM.old (base w hi) w) 3 (jH w.heap.size v2)) :
  Calls Tryd.prog 7 #[v0,v1,v2] w fun e w'=>e=.returned (.bool true)∧Below w.heap.size w w':=by
 obtain⟨n0,e0,_,_⟩:=(h0.one (by kernel_rfl)).uH Tryd.underlying3
 obtain⟨u1,l1,e1,hl1,_⟩:=D5 (h1.one (by kernel_rfl))
 obtain⟨n2,e2,_,_⟩:=(h2.one (by kernel_rfl)).uH Tryd.underlying3
 refine cB.close (base:=base w hi) rfl trivial ?_
 simp only[List.map_cons,List.map_nil]
 rw[show jH (base w hi).n v0=N .i64 n0 from(List.cons.inj e0).1,show jH (base w hi).n v1=u1 from(List.cons.inj e1).1,show jH (base w hi).n v2=N .i64 n2 from(List.cons.inj e2).1]
 obtain⟨a0,a1,a2,e,h⟩:=Ao (M:=RM.old (base w hi) w) (q:=n0) (late:=n2) (Q:=fun v _=>v=Bo true) Gq Hf Hz Bt Be Es FE hl1 (fun M'=>rfl)
 cases e
 exact kS h
set_option maxRecDepth 100000 in
theorem lifted (os:Os) (started:os.Started) (H:Type) (enc:TypeId × Value→H) :
  ReturnsInHanded {} Tryd.checked os 7 .any (fun w args=>(Rows.simdiskQuotaSpec.pre enc Tryd.prog Tryd.f7 Rows.simdiskQuotaRow.domain false w args∧laidMetH Tryd.prog Rows.simdiskQuotaRow.laid w)∧sizedMet enc Tryd.prog Tryd.f7 (OpenSpec.ofChange Rows.simdiskQuotaSpec) false w args)
   (Rows.simdiskQuotaSpec.post enc Tryd.prog Tryd.f7 false true false false):=by
 refine returnsInHanded_of_change_and (C:=Tryd.checked) (X:=fun w _=>laidMetH Tryd.prog Rows.simdiskQuotaRow.laid w) (fun _ _ _ hh h=>h.of_heap hh) own started (by kernel_rfl) Tryd.func7
  (ChangeSpec.witness_shaped (enc:=enc) (C:=Tryd.checked) (os:=os) (X:=fun w _=>laidMetH Tryd.prog Rows.simdiskQuotaRow.laid w) false (World.laidAll Tryd.prog os Rows.simdiskQuotaRow.laid) #[.int .i64 0,.slice none 0 0,.int .i64 0] 8 (World.laidAll_os _ _ _)
   (World.shaped_of_ZipB (by kernel_rfl) (by kernel_rfl)) (by kernel_rfl) (by kernel_rfl) (by kernel_rfl)
   (by rw[MakeChecks.laidMetH_plain _ _ _ (by kernel_rfl)]; exact laidMet_laidAll _ (by kernel_rfl) (by kernel_rfl))) ?_
 intro W b0 args ds gs before hval hW hcnd hwt hL _
 have hW':=hW
 obtain⟨p,q,hA,hV,rfl,hfz,hnd⟩:=hW
 rw[Tryd.params7] at hA hwt
 have hi:Inv W:=inv_of W hL
 obtain⟨rfl,rfl⟩:=trodVars_none hV
 have hfit:=yL (base:=base W hi) rfl hA (fun j t v hj hv=>hval j t v (by rw[Tryd.params7]; simpa using hj) (by simpa using hv)) (fun y hy=>by
  have JK:(DataW.weightsEach Tryd.prog [3,33,3] (ds++[])).all (· ≤ reachBytes)=true:=hwt
  have:=List.all_eq_true.1 JK y (by rw[List.append_nil]; exact hy)
  simpa using this)
 simp only[List.append_nil] at hW'
 have hlt:∀ x∈p,x.block<W.heap.size:=fun x hx=>hW'.lt x hx
 obtain⟨v0,v1,v2,d0,d1,d2,p0,p1,p2,rfl,rfl,rfl,h0,h1,h2⟩:=trodAll_three hA
 refine(walk W hi v0 v1 v2 (hfit 0 _ _ rfl rfl) (hfit 1 _ _ rfl rfl) (hfit 2 _ _ rfl rfl)).mono fun e W' ⟨he,hg⟩=>?_
 subst he
 exact⟨_,rfl,wU (pa:=_) (pv:=[]) hW' (fun _ _ _=>(trodAll_cons_mk (shut_bool Tryd.underlying4 _) trodAll_mk0)) (fun sp hsp=>by
   rw[Tryd.params7]
   exact oU (by kernel_rfl) hg (fun t ht=>by
    have ht:t=3∨t=33∨t=3:=by simpa using ht
    rcases ht with rfl | rfl | rfl <;> exact⟨by kernel_rfl,of_decide_eq_true (by kernel_rfl)⟩) hA hlt hsp) (fun _ _=>rfl) (by simp)
  hg (ok_one (by kernel_rfl) rfl (okWide_bool_mk Tryd.underlying4 _))⟩
theorem over:Rows.SimdiskQuotaSaid :=
 OpenClaim.holds_of_wide 7 Tryd.f7 rfl rfl rfl rfl rfl rfl rfl ⟨rfl,rfl,rfl,rfl,rfl⟩ rfl rfl rfl rfl rfl (by kernel_rfl) Tryd.func7 (by kernel_rfl)
  (of_decide_eq_true (by kernel_rfl)) (by unfold Func.isWrapper; first | (rw[if_pos (by decide +kernel)]; kernel_rfl) | (rw[if_neg (by decide +kernel)]; exact⟨rfl,rfl⟩))
  (fun os started H enc _=>lifted os started H enc)
theorem proved:Rows.SimdiskQuotaCardSaid :=
 Claim7.holds_tied_plain_at .later [] [.data,.pinned] true (true,"51c856ff017852cadd3b9a64a8e6009163d39e61b0c3c8e15feabaea5d552ae6") true
  over (fun _ h=>by cases h) (by kernel_rfl) (fun _ h=>by cases h) simdiskQuota_row_tie rfl ⟨rfl,rfl⟩ (by kernel_rfl) rfl
  (fun f fn hf hfn=>by
   obtain rfl:f=7:=Option.some.inj ((show Tryd.prog.funcNamed "rolodex/rolodexlaw5.SimdiskQuota" = some 7 by kernel_rfl).symm.trans hf) |>.symm
   obtain rfl:fn=Tryd.f7:=(Option.some.inj (Tryd.func7.symm.trans hfn)).symm
   exact⟨by kernel_rfl,fun j t ht=>by
    rw[Tryd.params7] at ht
    have hm:=Array.mem_of_getElem? ht
    have hm:t=3∨t=33∨t=3:=by simpa using hm
    rcases hm with rfl | rfl | rfl
    ·exact(by kernel_rfl:Tryd.prog.wantsStandIn 3=false)
    ·exact(by kernel_rfl:Tryd.prog.wantsStandIn 33=false)
    ·exact(by kernel_rfl:Tryd.prog.wantsStandIn 3=false)⟩)
  (by kernel_rfl)
end Go.Proofs.YtckpmlcaaagnkaaDoor.simdiskQuota
