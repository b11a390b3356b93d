/- 'BlobsPlays' returns true for any list of acts and names, in whatever world it is called: the store and the document's list hold and tell the same. No condition. By an AI agent. -/
import Derived.Test.YtpdpipgmdhkomaaBlp6
import Derived.KernelRfl
import Derived.Test.YtpdpipgmdhkomaaProg
import Derived.RangeFuncBox
import Derived.RangeFuncLeaves
import Derived.Shelf.Abstract
import Derived.Shelf.RegionOpen
import Derived.WalkKit
import Derived.OwnWalkIn
import Derived.TacticsInMore
import Derived.LoopNIn
import Derived.LoopIn
import Derived.Shelf.SlIter.Nil
import Derived.Shelf.SortM.Plain
import Derived.Shelf.SortM.SortNone
import Derived.Ground.GgzProg
import Derived.Ground.SlgmProg
import Derived.WideShapes
import Derived.Test.YtpdpipgmdhkomaaRows
import Derived.SizedLaws
import Derived.JoinedOf
import Derived.Carry
import Derived.ProofKit
import Derived.OpenShut
set_option maxRecDepth 100000
set_option linter.unusedVariables false
set_option linter.unusedSimpArgs false
namespace Go.Proofs.Ytpdpipgmdhkomaa
open Go Go.Ab
abbrev ay := @iy Try.prog
theorem Xj:tT Try.prog:=⟨VN (by kernel_rfl),by kernel_rfl⟩
theorem bH {f:FuncId} {fn:Func} {args:List AV} {M:RM} {Q:ak} {B:Prop} (h:B) (hfn:Try.prog.funcs[f]?=some fn:=by kernel_rfl) (e:B=Fj Try.prog fn args M Q:=by kernel_rfl) : ay f args M Q:=LB Xj hfn (e▸h)
variable {a0 a1 a2 a3 a4 a5 a6 a7:AV} {M:RM} {Q:ak}
theorem vL (h:Go.Ab.Bl.mo (ay 6) (ay 9) 43 (ay 15) (ay 11) (ay 12) 23 (ay 13) 9 (ay 16) (ay 17) 5 (ay 18) (ay 19) (ay 20) a0 a1 M Q) : ay 5 [a0,a1] M Q:=bH (fn:=Try.f5) h
theorem CO (h:Go.Ab.Bl.tO (ay 15) (ay 7) (ay 9) (ay 21) (ay 18) (ay 10) (ay 22) (ay 8) 5 (ay 13) 9 (ay 23) (ay 17) (ay 24) (ay 25)  M Q) : ay 6 [] M Q:=bH (fn:=Try.f6) h
theorem PK:∀ (a0:AV) (M:RM) (Q:ak),Go.Ab.Bl.rF (ay 26) 23 24 (ay 28) (ay 27) (rf Try.prog) (ay 29) 62 5 (ay 30) a0 M Q=EJ Try.prog Try.f7 [a0] M Q:=by
 intros; kernel_rfl
theorem FE {a0:AV} {M:RM} {Q:ak} (h:Go.Ab.Bl.rF (ay 26) 23 24 (ay 28) (ay 27) (rf Try.prog) (ay 29) 62 5 (ay 30) a0 M Q) : ay 7 [a0] M Q:=Ih Xj (fn:=Try.f7) (by kernel_rfl) (PK a0 M Q▸h)
theorem LZ:∀ (a0:AV) (M:RM) (Q:ak),Go.Ab.Bl.nZ (ay 31) (ay 32) (ay 33) (ay 34) (ay 35) 28 (ay 27) (rf Try.prog) (ay 36) 9 a0 M Q=EJ Try.prog Try.f8 [a0] M Q:=by
 intros; kernel_rfl
theorem CR {a0:AV} {M:RM} {Q:ak} (h:Go.Ab.Bl.nZ (ay 31) (ay 32) (ay 33) (ay 34) (ay 35) 28 (ay 27) (rf Try.prog) (ay 36) 9 a0 M Q) : ay 8 [a0] M Q:=Ih Xj (fn:=Try.f8) (by kernel_rfl) (LZ a0 M Q▸h)
theorem FC (h:Go.Ab.Bl.yL 71  M Q) : ay 9 [] M Q:=bH (fn:=Try.f9) h
theorem uj (h:Go.Ab.Bl.lW 32 (ay 8) 38 (ay 37) 5 a0 a1 M Q) : ay 10 [a0,a1] M Q:=bH (fn:=Try.f10) h
theorem Br (h:Go.Ab.Bl.qX 23 a0 M Q) : ay 11 [a0] M Q:=bH (fn:=Try.f11) h
theorem yC (h:Go.Ab.Bl.oK (ay 40) (ay 11) (ay 41) 62 5 a0 M Q) : ay 12 [a0] M Q:=bH (fn:=Try.f12) h
theorem Fy (h:Go.Ab.Sha.yN (ay 41) 62 (ay 42) a0 M Q) : ay 13 [a0] M Q:=bH (fn:=Try.f13) h
theorem CQ (h:Go.Ab.Bl.tu 5 a0 a1 M Q) : ay 15 [a0,a1] M Q:=bH (fn:=Try.f15) h
theorem Dx (h:Go.Ab.Bl.vQ (ay 45) (ay 43) 9 80 a0 a1 M Q) : ay 16 [a0,a1] M Q:=bH (fn:=Try.f16) h
theorem vK (h:Go.Ab.Bl.mP (ay 8) a0 a1 M Q) : ay 17 [a0,a1] M Q:=bH (fn:=Try.f17) h
theorem wU (h:Go.Ab.Bl.nH (ay 30) (ay 39) (ay 46) a0 a1 M Q) : ay 18 [a0,a1] M Q:=bH (fn:=Try.f18) h
theorem Fz (h:Go.Ab.Bl.zB (ay 13) 5 80 (ay 45) a0 a1 M Q) : ay 19 [a0,a1] M Q:=bH (fn:=Try.f19) h
theorem CJ (h:Go.Ab.Bl.tJ (ay 24) (ay 22) (ay 25) (ay 23) (ay 47) (ay 44) (ay 10) (ay 48) (ay 45) (ay 21) (ay 49) a0 a1 a2 M Q) : ay 20 [a0,a1,a2] M Q:=bH (fn:=Try.f20) h
theorem sw (h:Go.Ab.Bl.kV 9 (ay 8) (ay 50) a0 a1 M Q) : ay 21 [a0,a1] M Q:=bH (fn:=Try.f21) h
theorem wR (h:Go.Ab.Bl.nJ (ay 46) a0 a1 M Q) : ay 22 [a0,a1] M Q:=bH (fn:=Try.f22) h
theorem wC (h:Go.Ab.Bl.mE (ay 50) (ay 51) 52 a0 a1 M Q) : ay 23 [a0,a1] M Q:=bH (fn:=Try.f23) h
theorem uz (h:Go.Ab.Bl.lX (ay 55) (ay 54) a0 M Q) : ay 24 [a0] M Q:=bH (fn:=Try.f24) h
theorem uJ (h:Go.Ab.Bl.lZ a0 M Q) : ay 25 [a0] M Q:=bH (fn:=Try.f25) h
theorem Ox (h:Go.Ab.aQ.Oj (ay 28) 5 a0 a1 M Q) : ay 26 [a0,a1] M Q:=bH (fn:=Try.f26) h
theorem EC (h:Go.Ab.Bl.vG 23 3 9 56 a0 a1 M Q) : ay 27 [a0,a1] M Q:=bH (fn:=Try.f27) h
theorem sG (h:Go.Ab.aQ.vN 5 a0 M Q) : ay 28 [a0] M Q:=bH (fn:=Try.f28) h
theorem IY (h:Go.Ab.Sha.Ed 62 (ay 57) 94 (ay 58) 97 (ay 59) (ay 28) 5 a0 M Q) : ay 29 [a0] M Q:=bH (fn:=Try.f29) h
theorem Dq (h:Go.Ab.Bl.vJ (ay 29) (ay 36) a0 M Q) : ay 30 [a0] M Q:=bH (fn:=Try.f30) h
theorem OA (h:Go.Ab.aQ.NQ (ay 28) 102 a0 M Q) : ay 31 [a0] M Q:=bH (fn:=Try.f31) h
theorem Et (h:Go.Ab.aQ.uX (ay 60) a0 a1 M Q) : ay 32 [a0,a1] M Q:=bH (fn:=Try.f32) h
theorem Dy (h:Go.Ab.aQ.uT a0 M Q) : ay 33 [a0] M Q:=bH (fn:=Try.f33) h
theorem CB (h:Go.Ab.Bl.tK a0 M Q) : ay 34 [a0] M Q:=bH (fn:=Try.f34) h
theorem AU (h:Go.Ab.Bl.rq a0 M Q) : ay 35 [a0] M Q:=bH (fn:=Try.f35) h
theorem HY (h:Go.Ab.Sha.DW 62 5 a0 M Q) : ay 36 [a0] M Q:=bH (fn:=Try.f36) h
theorem rW (h:Go.Ab.Bl.kP (ay 61) a0 a1 M Q) : ay 37 [a0,a1] M Q:=bH (fn:=Try.f37) h
theorem sM (h:Go.Ab.Bl.kU (ay 39) a0 a1 M Q) : ay 38 [a0,a1] M Q:=bH (fn:=Try.f38) h
theorem wS (h:Go.Ab.Bl.nG a0 a1 M Q) : ay 39 [a0,a1] M Q:=bH (fn:=Try.f39) h
theorem FH (h:Go.Ab.aQ.zM 5 (ay 40) a0 M Q) : ay 40 [a0] M Q:=bH (fn:=Try.f40) h
theorem GR (h:Go.Ab.Sha.A7 62 (ay 62) 5 (ay 63) a0 M Q) : ay 41 [a0] M Q:=bH (fn:=Try.f41) h
theorem Ht (h:Go.Ab.Sha.AL 5 a0 M Q) : ay 42 [a0] M Q:=bH (fn:=Try.f42) h
theorem CL (h:Go.Ab.Bl.tC (ay 64) 9 (ay 42) a0 M Q) : ay 43 [a0] M Q:=bH (fn:=Try.f43) h
theorem CE (h:Go.Ab.Bl.tN a0 a1 M Q) : ay 44 [a0,a1] M Q:=bH (fn:=Try.f44) h
theorem Dm (h:Go.Ab.Bl.uY a0 a1 M Q) : ay 45 [a0,a1] M Q:=bH (fn:=Try.f45) h
theorem qA (h:Go.Ab.Bl.oz 5 a0 M Q) : ay 46 [a0] M Q:=bH (fn:=Try.f46) h
theorem Ev (h:Go.Ab.Bl.wO 9 (ay 65) (ay 45) a0 a1 M Q) : ay 47 [a0,a1] M Q:=bH (fn:=Try.f47) h
theorem CP (h:Go.Ab.Bl.sQ (ay 45) (ay 43) 5 a0 a1 M Q) : ay 48 [a0,a1] M Q:=bH (fn:=Try.f48) h
theorem Ac (h:Go.Ab.Bl.pR (ay 45) 9 (ay 43) (ay 47) a0 a1 M Q) : ay 49 [a0,a1] M Q:=bH (fn:=Try.f49) h
theorem uD (h:Go.Ab.Bl.ma (ay 39) (ay 66) 9 a0 a1 M Q) : ay 50 [a0,a1] M Q:=bH (fn:=Try.f50) h
theorem tZ (h:Go.Ab.Bl.lU (ay 61) (ay) a0 a1 M Q) : ay 51 [a0,a1] M Q:=bH (fn:=Try.f51) h
theorem tH (h:Go.Ab.Bl.lg (ay 53) 62 a0 M Q) : ay 52 [a0] M Q:=bH (fn:=Try.f52) h
theorem Gq (h:Go.Ab.Sha.Cg 62 (ay 67) a0 M Q) : ay 53 [a0] M Q:=bH (fn:=Try.f53) h
theorem Ah (h:Go.Ab.Sha.qd 94  M Q) : ay 57 [] M Q:=bH (fn:=Try.f57) h
theorem Fx (h:Go.Ab.Sha.yI 97  M Q) : ay 58 [] M Q:=bH (fn:=Try.f58) h
theorem yH (h:Go.Ab.Sha.oL 94 (ay 71) 97 a0 a1 a2 M Q) : ay 59 [a0,a1,a2] M Q:=bH (fn:=Try.f59) h
theorem Ai (h:Go.Ab.aQ.qo a0 M Q) : ay 60 [a0] M Q:=bH (fn:=Try.f60) h
theorem mG (h:Go.Ab.Bl.mQ (ay) a0 a1 M Q) : ay 61 [a0,a1] M Q:=bH (fn:=Try.f61) h
theorem CS (h:Go.Ab.Sha.sW (ay 72) 93 (ay 73)  M Q) : ay 62 [] M Q:=bH (fn:=Try.f62) h
theorem Du (h:Go.Ab.Sha.wI 94 (ay 74) 93 a0 a1 a2 M Q) : ay 63 [a0,a1,a2] M Q:=bH (fn:=Try.f63) h
theorem ED (h:Go.Ab.Bl.uP (ay 75) a0 a1 M Q) : ay 64 [a0,a1] M Q:=bH (fn:=Try.f64) h
theorem CF (h:Go.Ab.Sha.sZ a0 a1 M Q) : ay 65 [a0,a1] M Q:=bH (fn:=Try.f65) h
theorem wT (h:Go.Ab.Bl.nL (ay 76) a0 a1 M Q) : ay 66 [a0,a1] M Q:=bH (fn:=Try.f66) h
theorem Fv (h:Go.Ab.Sha.zG a0 M Q) : ay 67 [a0] M Q:=bH (fn:=Try.f67) h
theorem Gy (h:Go.Ab.Sha.BH (ay 80) a0 a1 M Q) : ay 71 [a0,a1] M Q:=bH (fn:=Try.f71) h
theorem CK (h:Go.Ab.Sha.tF 3 (ay 81) a0 M Q) : ay 72 [a0] M Q:=bH (fn:=Try.f72) h
theorem Fw (h:Go.Ab.Sha.zK (ay 83) (ay 82) 130 (ay 84) a0 a1 M Q) : ay 73 [a0,a1] M Q:=bH (fn:=Try.f73) h
theorem FD (h:Go.Ab.Sha.yU a0 a1 M Q) : ay 74 [a0,a1] M Q:=bH (fn:=Try.f74) h
theorem G5 (h:Go.Ab.Bl.Bv a0 M Q) : ay 75 [a0] M Q:=bH (fn:=Try.f75) h
theorem BZ (h:Go.Ab.Bl.qI a0 a1 M Q) : ay 76 [a0,a1] M Q:=bH (fn:=Try.f76) h
theorem pJ (h:Go.Ab.Sha.jC a0 a1 M Q) : ay 80 [a0,a1] M Q:=bH (fn:=Try.f80) h
theorem DX (h:Go.Ab.Sha.uQ a0 M Q) : ay 81 [a0] M Q:=bH (fn:=Try.f81) h
theorem Ez (h:Go.Ab.Sha.wL 130 a0 a1 M Q) : ay 82 [a0,a1] M Q:=bH (fn:=Try.f82) h
theorem Jb (h:Go.Ab.Sha.EF 130 a0 M Q) : ay 83 [a0] M Q:=bH (fn:=Try.f83) h
theorem Dj (h:Go.Ab.Sha.vC 130 a0 a1 M Q) : ay 84 [a0,a1] M Q:=bH (fn:=Try.f84) h
end Go.Proofs.Ytpdpipgmdhkomaa
namespace Go.Proofs.Ytpdpipgmdhkomaa
open Go Go.Ab Go.Proofs Go.RowKit Go.Shelf
attribute [local go_sem] Oper.semAt_some
set_option maxHeartbeats 4000000 in
theorem X6:Qy Try.prog 56:=by
 intro l J p2 p3 a len cap n hn0 hn1 hcap hlen hz1 hz2 hI hdr hY W h0
 have hmix:Try.prog.follows .mixedOrders=true:=by kernel_rfl
 refine callsIn_of_wp Try.func56 rfl trivial ?_ rfl
 simp only[Try.ntmps56,List.size_toArray,List.length_cons,List.length_nil,Nat.reduceAdd,Nat.reduceSub,Array.replicate_succ,Array.replicate_zero,List.push_toArray,List.append_toArray,List.nil_append,List.cons_append]
 gi_wp2
 gi_loopw [4] (fun i wr=>∃ k:Nat,k * n<len + n∧i=.int .i64 (k * n:Nat)∧J k wr) (fun i _=>len + n - (intOf i).toNat)
 case atStart=>exact⟨0,by omega,by simp,h0⟩
 case round =>
  obtain⟨k,hk,rfl,hJ⟩:=hrel
  obtain⟨hc2,hc3⟩:=hI k wr hJ
  obtain⟨i,hi⟩ : ∃ i,k * n=i:=⟨_,rfl⟩
  have hYk:=hY k wr.drew
  rw[hi] at hk hYk ⊢
  by_cases hlt:i<len
  ·obtain⟨ad,rfl⟩ : ∃ ad,a=some ad:=by
    cases a with
    | none=>have:=hz1 rfl; omega
    | some ad=>exact⟨ad,rfl⟩
   obtain⟨hd2,hd3⟩:=hI k wr.drew (hdr k wr hJ)
   obtain⟨fn,tmps,assign,body,hy,hR⟩:=hYk hlt (hdr k wr hJ)
   have hle:i≤len:=by omega
   have hle2:i≤cap:=by omega
   gi_wp2
   gi_region
   have hmin:(if len - i<n then((len - i:Nat) : Int) else(n:Int))=((min n (len - i) : Nat) : Int):=by
    split
    ·rw[Nat.min_eq_right (by omega)]
    ·rw[Nat.min_eq_left (by omega)]
   first
    | rw[hmin]
    | rw[show min (n:Int) ((len - i:Nat) : Int)=((min n (len - i) : Nat) : Int) by omega]
   obtain⟨h,hh⟩ : ∃ h,min n (len - i)=h:=⟨_,rfl⟩
   rw[hh] at hy ⊢
   have hm1:i + h≤len:=by omega
   have hm2:i + h≤cap:=by omega
   have hm3:h=n∨i + h=len:=by omega
   simp only[Option.map_some] at hy
   gi_wp2
   refine⟨rfl,hR.mono ?_⟩
   rintro e W3 ⟨rfl,hJ3⟩
   obtain⟨hd4,hd5⟩:=hI (k + 1) W3 hJ3
   gi_wp2
   go_roundw
   case rel=>exact⟨k + 1,by rw[Nat.add_mul,hi]; omega,by rw[Nat.add_mul,hi]; simp,hJ3⟩
   case measure=>simp[intOf]; omega
  ·gi_wp2
   refine bodyPost_end (results_none rfl _ _ _) rfl ?_
   exact⟨⟨_,rfl⟩,k,by omega,hJ⟩
end Go.Proofs.Ytpdpipgmdhkomaa
namespace Go.Proofs.Ytpdpipgmdhkomaa.nV
open Go Go.Ab Go.Ab.Sha Go.Ab.Bl Go.RowKit Go.Proofs Go.Proofs.Ytpdpipgmdhkomaa
theorem JG {f:FuncId} {W:RM→ak→Prop} (h:∀ {M:RM} {Q:ak},W M Q→ay f [] M Q) : ∀ args M Q,(args=[]∧W M Q)→ay f args M Q:=by
 rintro args M Q ⟨rfl,k⟩; exact h k
theorem gy {f:FuncId} {W:AV→RM→ak→Prop} (h:∀ {a0:AV} {M:RM} {Q:ak},W a0 M Q→ay f [a0] M Q) : ∀ args M Q,(∃ a0,args=[a0]∧W a0 M Q)→ay f args M Q:=by
 rintro args M Q ⟨a0,rfl,k⟩; exact h k
theorem eZ {f:FuncId} {W:AV→AV→RM→ak→Prop} (h:∀ {a0 a1:AV} {M:RM} {Q:ak},W a0 a1 M Q→ay f [a0,a1] M Q) : ∀ args M Q,(∃ a0 a1,args=[a0,a1]∧W a0 a1 M Q)→ay f args M Q:=by
 rintro args M Q ⟨a0,a1,rfl,k⟩; exact h k
theorem SE {f:FuncId} {W:AV→AV→AV→RM→ak→Prop} (h:∀ {a0 a1 a2:AV} {M:RM} {Q:ak},W a0 a1 a2 M Q→ay f [a0,a1,a2] M Q) : ∀ args M Q,(∃ a0 a1 a2,args=[a0,a1,a2]∧W a0 a1 a2 M Q)→ay f args M Q:=by
 rintro args M Q ⟨a0,a1,a2,rfl,k⟩; exact h k
theorem UU:Sha.kN 5 (ay 28):=by
 intro x0 x1 x2 x3 x4 x5 x6
 refine gy sG _ _ _ ?_
 apply Iz <;> assumption
theorem QE:Sha.kN 5 (ay 46):=by
 intro x0 x1 x2 x3 x4 x5 x6
 refine gy qA _ _ _ ?_
 apply O3 <;> assumption
theorem VX:Ke (ay 46):=by
 intro x0 x1 x2
 refine gy qA _ _ _ ?_
 apply Nr <;> assumption
theorem acE:WV (ay 80):=by
 intro x0 x1 x2 x3 x4 x5
 refine eZ pJ _ _ _ ?_
 apply WM <;> assumption
theorem abX:EU .i64 (ay 71):=by
 intro x0 x1 x2 x3 x4 x5
 refine eZ Gy _ _ _ ?_
 apply (Tu acE) <;> assumption
theorem abZ:SY 94 97 (ay 59):=by
 intro x0 x1 x2 x3 x4 x5 x6 x7 x8 x9 x10 x11 x12 x13 x14 x15 x16 x17
 refine SE yH _ _ _ ?_
 apply (TQ abX) <;> assumption
theorem Zp:Aa kW (ay 57):=by
 intro x0 x1 x2
 refine JG Ah _ _ _ ?_
 apply JS <;> assumption
theorem ZX:Aa hW (ay 58):=by
 intro x0 x1 x2
 refine JG Fx _ _ _ ?_
 apply QN <;> assumption
theorem Y3:CZ (ay 29):=by
 intro x0 x1 x2 x3 x4 x5 x6
 refine gy IY _ _ _ ?_
 apply (Xa Zp ZX abZ UU) <;> assumption
theorem Xz:Md (ay 36):=by
 intro x0 x1 x2 x3 x4
 refine gy HY _ _ _ ?_
 apply Un <;> assumption
theorem Ig:rQ (ay 30):=by
 intro x0 x1 x2 x3 x4 x5 x6
 refine gy Dq _ _ _ ?_
 apply (Yz Y3 Xz) <;> assumption
theorem ZG:EU .u64 (ay 74):=by
 intro x0 x1 x2 x3 x4 x5
 refine eZ FD _ _ _ ?_
 apply NF <;> assumption
theorem Y8:OP 93 (ay 63):=by
 intro x0 x1 x2 x3 x4 x5 x6 x7 x8 x9 x10 x11 x12 x13 x14
 refine SE Du _ _ _ ?_
 apply (SK ZG) <;> assumption
theorem ZL:NL (ay 81):=by
 intro x0 x1 x2 x3 x4 x5
 refine gy DX _ _ _ ?_
 apply RN <;> assumption
theorem X9:Kh 3 (ay 72):=by
 intro x0 x1 x2
 refine gy CK _ _ _ ?_
 apply (PL ZL) <;> assumption
theorem Za:MS (ay 82):=by
 intro x0 x1 x2 x3 x4 x5 x6 x7
 refine eZ Ez _ _ _ ?_
 apply SL <;> assumption
theorem cOf:Uq (ay 83):=by
 intro x0 x1 x2 x3 x4
 refine gy Jb _ _ _ ?_
 apply Qo <;> assumption
theorem ZC:MP (ay 84):=by
 intro x0 x1 x2 x3 x4 x5 x6
 refine eZ Dj _ _ _ ?_
 apply Re <;> assumption
theorem abr:RF (ay 73):=by
 intro x0 x1 x2 x3 x4 x5
 refine eZ Fw _ _ _ ?_
 apply (Ue cOf Za ZC) <;> assumption
theorem YI:Ky 93 (ay 62):=by
 intro x0 x1 x2
 refine JG CS _ _ _ ?_
 apply (Pb (TI:=3) X9 abr) <;> assumption
theorem XA:CZ (ay 41):=by
 intro x0 x1 x2 x3 x4 x5 x6
 refine gy GR _ _ _ ?_
 apply (Pn YI Y8) <;> assumption
theorem Xy:Mh (ay 42):=by
 intro x0 x1 x2 x3 x4 x5 x6
 refine gy Ht _ _ _ ?_
 apply UQ <;> assumption
theorem Ny:rQ (ay 13):=by
 intro x0 x1 x2 x3 x4 x5 x6
 refine gy Fy _ _ _ ?_
 apply (Ni XA Xy) <;> assumption
theorem ZM:NP (ay 67):=by
 intro x0 x1 x2 x3
 refine gy Fv _ _ _ ?_
 apply RG <;> assumption
theorem aaT:NW (ay 53):=by
 intro x0 x1 x2 x3 x4
 refine gy Gq _ _ _ ?_
 apply (Rh ZM) <;> assumption
theorem Yu:JP (ay 65):=by
 intro x0 x1 x2 x3 x4
 refine eZ CF _ _ _ ?_
 apply Pk <;> assumption
theorem Qe:aQ.kN 5 1 1 (ay 28):=fun h1 h2 h3 h4 _ hQ=>sG (Go.Ab.aQ.UW h1 h2 (Nat.le_refl _) h3 h4 hQ)
theorem abL:aQ.S9 5 (ay 26):=by
 intro M a0 cs n v h1 h2 h3 h4 Q hQ
 obtain⟨x0,x1,e,h⟩:=aQ.Vb Qe h1 h2 h3 h4 hQ
 cases e; exact Ox h
theorem abn:aQ.H5 102 (ay 31):=by
 intro x0 x1 x2 x3 x4 x5 x6
 refine gy OA _ _ _ ?_
 apply (aQ.KS Qe) <;> assumption
theorem ad1:aQ.VW 102 (ay 60):=by
 intro x0 x1 x2 x3 x4 x5 x6 x7
 refine gy Ai _ _ _ ?_
 apply aQ.Vx <;> assumption
theorem acS:aQ.VG 102 (ay 32):=by
 intro x0 x1 x2 x3 x4 x5 x6 x7 x8 x9
 refine eZ Et _ _ _ ?_
 apply (aQ.V4 ad1) <;> assumption
theorem adE:aQ.WI 102 (ay 33):=by
 intro x0 x1 x2 x3 x4 x5 x6 x7
 refine gy Dy _ _ _ ?_
 apply aQ.WT <;> assumption
theorem abJ:Q4 102 (ay 34):=by
 intro x0 x1 x2 x3 x4 x5 x6 x7
 refine gy CB _ _ _ ?_
 apply Vd <;> assumption
theorem Uj:I9 56 23 3 (ay 27):=by
 intro x0 x1 x2 x3 x4 x5 x6 x7 x8
 refine eZ EC _ _ _ ?_
 apply Rq <;> assumption
theorem Yo:QC (ay 35):=fun h1 h2=>AU (Pm h1 h2)
theorem Qf:rf Try.prog 56:=⟨X6,Try.f56,_,Try.func56,rfl⟩
theorem Ie:zT 9 (ay 8):=by
 intro x0 x1 x2 x3 x4 x5 x6 x7
 refine gy CR _ _ _ ?_
 apply (RL abn acS adE abJ Yo Uj Qf Xz) <;> assumption
theorem Kt:Vi 5 23 (ay 7):=by
 intro x0 x1 x2 x3 x4 x5 x6 x7
 refine gy FE _ _ _ ?_
 apply (Vj abL UU Uj Qf Y3 Ig) <;> assumption
theorem Od:tX 23 (ay 11):=by
 intro x0 x1 x2 x3 x4 x5 x6
 refine gy Br _ _ _ ?_
 apply JV <;> assumption
theorem Yi:∀ v:Nat,v<2 ^ 64→aQ.AO 5 v (ay 40):=by
 intro v
 induction v using Nat.strongRecOn with
 | _ v ih =>
   intro hv M Q hQ
   obtain⟨a0,e,h⟩:=aQ.OQ (T:=5) (c:=ay 40) hv (fun w hw=>ih w hw (by omega)) hQ
   cases e; exact FH h
theorem aab:Bl.MQ 5 (ay 40):=Yi
theorem Tq:uW (ay 12):=by
 intro x0 x1 x2 x3 x4 x5 x6
 refine gy yC _ _ _ ?_
 apply (Hr aab Od XA) <;> assumption
theorem abU:Bl.Wn (ay 75):=by
 intro x0 x1 x2 x3 x4 x5 x6 x7
 refine gy G5 _ _ _ ?_
 apply Vl <;> assumption
theorem aam:Bl.JH (ay 64):=by
 intro x0 x1 x2 x3 x4 x5 x6 x7 x8 x9
 refine eZ ED _ _ _ ?_
 apply (PH abU) <;> assumption
theorem Kv:rV 9 (ay 43):=by
 intro x0 x1 x2 x3 x4 x5 x6 x7
 refine gy CL _ _ _ ?_
 apply (LV aam Xy) <;> assumption
theorem Ze:Nq (ay 44):=by
 intro x0 x1 x2 x3 x4 x5 x6 x7 x8 x9 x10
 refine eZ CE _ _ _ ?_
 apply SG <;> assumption
theorem PZ:ES (ay 15):=by
 intro x0 x1 x2 x3 x4 x5 x6
 refine eZ CQ _ _ _ ?_
 apply Pp <;> assumption
theorem zO:AB 71 (ay 9):=by
 intro x0 x1 x2
 refine JG FC _ _ _ ?_
 apply He <;> assumption
theorem VC:NR 71 (ay 39):=by
 intro x0 x1 x2 x3 x4 x5 x6 x7 x8
 refine eZ wS _ _ _ ?_
 apply Wz <;> assumption
theorem GH:Ja 71 5 (ay 22):=by
 intro x0 x1 x2 x3 x4 x5 x6 x7 x8 x9
 refine eZ wR _ _ _ ?_
 apply (TJ QE VX) <;> assumption
theorem qB:OI 71 (ay 18):=by
 intro x0 x1 x2 x3 x4 x5 x6 x7 x8 x9 x10 x11
 refine eZ wU _ _ _ ?_
 apply (V6 Ig VC QE) <;> assumption
theorem Uo:Ao 71 (ay 25):=by
 intro x0 x1 x2 x3 x4 x5 x6 x7 x8
 refine gy uJ _ _ _ ?_
 apply Je <;> assumption
theorem YG:JZ (ay 76):=by
 intro x0 x1 x2 x3 x4 x5 x6 x7
 refine eZ BZ _ _ _ ?_
 apply Py <;> assumption
theorem Zt:Og (ay 66):=by
 intro x0 x1 x2 x3 x4 x5 x6 x7
 refine eZ wT _ _ _ ?_
 apply (Q7 YG) <;> assumption
theorem Ug:JF 71 9 (ay 50):=by
 intro x0 x1 x2 x3 x4 x5 x6 x7 x8 x9 x10 x11
 refine eZ uD _ _ _ ?_
 apply (RV VC Zt) <;> assumption
theorem MZ:Ce 71 (ay 21):=by
 intro x0 x1 x2 x3 x4 x5 x6 x7 x8
 refine eZ sw _ _ _ ?_
 apply (Ns Ie Ug) <;> assumption
theorem XB:E9 (fun _=>True) (fun x=>!bY x) (ql (ay) (.fn (.func 52) [] [])):=Rb (fun h=>tH h) aaT
theorem abN:Ad (fun _=>True) (fun x=>!bY x) (.fn (.func 52) [] []) (ay 61):=by
 intro x0 x1 x2 x3 x4 x5 x6 x7 x8 x9 x10
 refine eZ mG _ _ _ ?_
 apply (FZ XB) <;> assumption
theorem aeB:GG (fun _=>True) (fun x=>!bY x) (.fn (.func 52) [] []) (ay 51):=by
 intro x0 x1 x2 x3 x4 x5 x6 x7 x8 x9 x10 x11
 refine eZ tZ _ _ _ ?_
 apply (NY abN XB) <;> assumption
theorem xV:Ml 71 (ay 23):=by
 intro x0 x1 x2 x3 x4 x5 x6 x7 x8 x9 x10 x11 x12
 refine eZ wC _ _ _ ?_
 apply (U8 Ug aeB) <;> assumption
theorem BK:Mi 71 (ay 17):=by
 intro x0 x1 x2 x3 x4 x5 x6 x7 x8 x9 x10 x11 x12
 refine eZ vK _ _ _ ?_
 apply (Ty Ie) <;> assumption
theorem Zx {sb n b2:Nat} {f:Str→Option Str} {W:Nat→Prop} : NI (fun M=>kJ 71 M sb f W n∧M.heap b2=some (.row [.ptr sb 0] false 32 0)∧b2<M.next) (isNil f) (.fn (.func 38) [] [.ptr b2 0]) (ay 37):=by
 have hi:Ad (fun M=>kJ 71 M sb f W n∧M.heap b2=some (.row [.ptr sb 0] false 32 0)∧b2<M.next) (isNil f) (.fn (.func 38) [] [.ptr b2 0]) (ay 61):=by
  have hp:E9 (fun M=>kJ 71 M sb f W n∧M.heap b2=some (.row [.ptr sb 0] false 32 0)∧b2<M.next) (isNil f) (ql (ay) (.fn (.func 38) [] [.ptr b2 0])):=O7 (TSt:=71) (TP:=32) (sb:=sb) (n:=n) (b2:=b2) (f:=f) (W:=W) (cv:=ay) (g:=38) (fun h=>sM h) VC
  intro M v xs Q h1 h2 h3 h4 h5 h6 h7
  obtain⟨a0,a1,e,h⟩:=FZ hp h1 h2 h3 h4 h5 h6 h7
  cases e; exact mG h
 intro M v xs Q h1 h2 h3 h4 h5 h6
 obtain⟨a0,a1,e,h⟩:=Sj hi h1 h2 h3 h4 h5 h6
 cases e; exact rW h
theorem Tv:JB 71 (ay 10):=by
 intro x0 x1 x2 x3 x4 x5 x6 x7 x8
 refine eZ uj _ _ _ ?_
 apply (Rt Ie Zx) <;> assumption
theorem Fq:uI (ay 45):=by
 intro x0 x1 x2 x3 x4 x5 x6 x7 x8 x9
 refine eZ Dm _ _ _ ?_
 apply find_spec <;> assumption
theorem U0:BJ 9 (ay 47):=by
 intro x0 x1 x2 x3 x4 x5 x6 x7 x8 x9 x10 x11 x12
 refine eZ Ev _ _ _ ?_
 apply (MC Yu Fq) <;> assumption
theorem Ua:yT (ay 49):=by
 intro x0 x1 x2 x3 x4 x5 x6 x7 x8 x9
 refine eZ Ac _ _ _ ?_
 apply (H8 Fq Kv U0) <;> assumption
theorem Yv:Da (ay 48):=by
 intro x0 x1 x2 x3 x4 x5 x6 x7 x8 x9
 refine eZ CP _ _ _ ?_
 apply (LU Fq Kv) <;> assumption
theorem Bt:EP 80 (ay 19):=by
 intro x0 x1 x2 x3 x4 x5 x6 x7 x8 x9 x10 x11 x12 x13 x14
 refine eZ Fz _ _ _ ?_
 apply (O0 Ny Fq) <;> assumption
theorem aaZ:GQ 80 (ay 16):=by
 intro x0 x1 x2 x3 x4 x5 x6 x7 x8 x9 x10 x11 x12 x13 x14
 refine eZ Dx _ _ _ ?_
 apply (MK Fq Kv) <;> assumption
end Go.Proofs.Ytpdpipgmdhkomaa.nV
namespace Go.Proofs
open Go.RowKit Go.Maps Go.Sort Go.Shelf
def Try.lKeys_ren:Go.Shelf.Ren:=⟨fun | 7=>55 | 10=>70 | n=>n,fun | 23=>69 | 26=>9 | 3=>23 | 28=>91 | 0=>0 | 27=>90 | 33=>73 | 4=>4 | n=>n,fun | n=>n⟩
theorem Try.lKeys:Go.Proofs.SlLaysZ.n7 Try.prog Try.lKeys_ren where
 mixed:=by kernel_rfl
 f7:=⟨ "maps.Keys[map[string][]byte,string,[]byte]",by decide,Try.func55.trans (congrArg some (by kernel_rfl))⟩
 f10:=⟨ "maps.Keys[map[string][]byte,string,[]byte]$1",by decide,Try.func70.trans (congrArg some (by kernel_rfl))⟩
 t0:=Try.underlying0
 a0:=Try.isAgg0
 z0:=Try.sizeOf0
 v0:=Try.zeroValue0
 t4:=Try.underlying4
 a4:=Try.isAgg4
 z4:=Try.sizeOf4
 v4:=Try.zeroValue4
 t23:=Try.underlying69
 a23:=Try.isAgg69
 z23:=Try.sizeOf69
 v23:=Try.zeroValue69
 t26:=Try.underlying9
 a26:=Try.isAgg9
 z26:=Try.sizeOf9
 v26:=Try.zeroValue9
 t27:=Try.underlying90
 a27:=Try.isAgg90
 z27:=Try.sizeOf90
 v27:=Try.zeroValue90
 t28:=Try.underlying91
 a28:=Try.isAgg91
 z28:=Try.sizeOf91
 v28:=Try.zeroValue91
 t33:=Try.underlying73
 a33:=Try.isAgg73
 z33:=Try.sizeOf73
 v33:=Try.zeroValue73
def Try.lSorted_ren:Go.Shelf.Ren:=⟨fun | 6=>54 | 8=>68 | 9=>69 | 11=>77 | 13=>79 | 12=>78 | 23=>94 | 24=>95 | 14=>85 | 15=>86 | 16=>87 | 17=>88 | 18=>89 | 19=>90 | 20=>91 | 21=>92 | 22=>93 | 25=>96 | 26=>97 | 27=>98 | 28=>99 | 29=>100 | 30=>101 | 31=>102 | n=>n,fun | 26=>9 | 28=>91 | 24=>28 | 0=>0 | 3=>3 | 37=>45 | 48=>93 | 50=>58 | 4=>4 | 40=>136 | 39=>135 | 45=>141 | 5=>5 | 9=>9 | 51=>145 | 55=>149 | 57=>151 | 58=>152 | 33=>73 | n=>n,fun | n=>n⟩
theorem Try.lSorted:Go.Proofs.SlLaysZ.n6 Try.prog Try.lSorted_ren where
 mixed:=by kernel_rfl
 f6:=⟨ "slices.Sorted[string]",by decide,Try.func54.trans (congrArg some (by kernel_rfl))⟩
 f8:=⟨ "slices.Collect[string]",by decide,Try.func68.trans (congrArg some (by kernel_rfl))⟩
 f11:=⟨ "slices.AppendSeq[[]string,string]",by decide,Try.func77.trans (congrArg some (by kernel_rfl))⟩
 t0:=Try.underlying0
 a0:=Try.isAgg0
 z0:=Try.sizeOf0
 v0:=Try.zeroValue0
 t24:=Try.underlying28
 a24:=Try.isAgg28
 z24:=Try.sizeOf28
 v24:=Try.zeroValue28
 t26:=Try.underlying9
 a26:=Try.isAgg9
 z26:=Try.sizeOf9
 v26:=Try.zeroValue9
 t28:=Try.underlying91
 a28:=Try.isAgg91
 z28:=Try.sizeOf91
 v28:=Try.zeroValue91
 i26:=by kernel_rfl
def Try.lSort_ren:Go.Shelf.Ren:=⟨fun | 6=>69 | 8=>79 | 9=>78 | 19=>94 | 20=>95 | 21=>85 | 22=>86 | 23=>87 | 24=>88 | 25=>89 | 26=>90 | 27=>91 | 28=>92 | 29=>93 | 36=>96 | 31=>97 | 32=>98 | 37=>99 | 38=>100 | 39=>101 | 41=>102 | n=>n,fun | 27=>28 | 29=>9 | 3=>3 | 32=>45 | 26=>28 | 0=>0 | 44=>93 | 46=>58 | 4=>4 | 36=>136 | 35=>135 | 41=>141 | 5=>5 | 9=>9 | 53=>145 | 57=>149 | 63=>151 | 64=>152 | n=>n,fun | n=>n⟩
theorem Try.lSort:Go.Proofs.SlLaysM.n6 Try.prog Try.lSort_ren where
 mixed:=by kernel_rfl
 f6:=⟨ "slices.Sort[[]string,string]",by decide,Try.func69.trans (congrArg some (by kernel_rfl))⟩
 f8:=Try.func79.trans (congrArg some (by kernel_rfl))
 f9:=⟨ "slices.pdqsortOrdered[string]",by decide,Try.func78.trans (congrArg some (by kernel_rfl))⟩
 f19:=Try.func94.trans (congrArg some (by kernel_rfl))
 f20:=Try.func95.trans (congrArg some (by kernel_rfl))
 f21:=⟨ "slices.insertionSortOrdered[string]",by decide,Try.func85.trans (congrArg some (by kernel_rfl))⟩
 f22:=⟨ "slices.heapSortOrdered[string]",by decide,Try.func86.trans (congrArg some (by kernel_rfl))⟩
 f23:=⟨ "slices.breakPatternsOrdered[string]",by decide,Try.func87.trans (congrArg some (by kernel_rfl))⟩
 f24:=⟨ "slices.choosePivotOrdered[string]",by decide,Try.func88.trans (congrArg some (by kernel_rfl))⟩
 f25:=⟨ "slices.reverseRangeOrdered[string]",by decide,Try.func89.trans (congrArg some (by kernel_rfl))⟩
 f26:=⟨ "slices.partialInsertionSortOrdered[string]",by decide,Try.func90.trans (congrArg some (by kernel_rfl))⟩
 f27:=⟨ "cmp.Less[string]",by decide,Try.func91.trans (congrArg some (by kernel_rfl))⟩
 f28:=⟨ "slices.partitionEqualOrdered[string]",by decide,Try.func92.trans (congrArg some (by kernel_rfl))⟩
 f29:=⟨ "slices.partitionOrdered[string]",by decide,Try.func93.trans (congrArg some (by kernel_rfl))⟩
 f31:=Try.func97.trans (congrArg some (by kernel_rfl))
 f32:=Try.func98.trans (congrArg some (by kernel_rfl))
 f36:=⟨ "slices.siftDownOrdered[string]",by decide,Try.func96.trans (congrArg some (by kernel_rfl))⟩
 f37:=⟨ "slices.medianAdjacentOrdered[string]",by decide,Try.func99.trans (congrArg some (by kernel_rfl))⟩
 f38:=⟨ "slices.medianOrdered[string]",by decide,Try.func100.trans (congrArg some (by kernel_rfl))⟩
 f39:=⟨ "cmp.isNaN[string]",by decide,Try.func101.trans (congrArg some (by kernel_rfl))⟩
 f41:=⟨ "slices.order2Ordered[string]",by decide,Try.func102.trans (congrArg some (by kernel_rfl))⟩
 t0:=Try.underlying0
 a0:=Try.isAgg0
 z0:=Try.sizeOf0
 v0:=Try.zeroValue0
 t3:=Try.underlying3
 a3:=Try.isAgg3
 z3:=Try.sizeOf3
 v3:=Try.zeroValue3
 t4:=Try.underlying4
 a4:=Try.isAgg4
 z4:=Try.sizeOf4
 v4:=Try.zeroValue4
 t5:=Try.underlying5
 a5:=Try.isAgg5
 z5:=Try.sizeOf5
 v5:=Try.zeroValue5
 t9:=Try.underlying9
 a9:=Try.isAgg9
 z9:=Try.sizeOf9
 v9:=Try.zeroValue9
 t26:=Try.underlying28
 a26:=Try.isAgg28
 z26:=Try.sizeOf28
 v26:=Try.zeroValue28
 t27:=Try.underlying28
 a27:=Try.isAgg28
 z27:=Try.sizeOf28
 v27:=Try.zeroValue28
 t29:=Try.underlying9
 a29:=Try.isAgg9
 z29:=Try.sizeOf9
 v29:=Try.zeroValue9
 t32:=Try.underlying45
 a32:=Try.isAgg45
 z32:=Try.sizeOf45
 v32:=Try.zeroValue45
 t35:=Try.underlying135
 a35:=Try.isAgg135
 z35:=Try.sizeOf135
 v35:=Try.zeroValue135
 t36:=Try.underlying136
 a36:=Try.isAgg136
 z36:=Try.sizeOf136
 v36:=Try.zeroValue136
 t41:=Try.underlying141
 a41:=Try.isAgg141
 z41:=Try.sizeOf141
 v41:=Try.zeroValue141
 t44:=Try.underlying93
 a44:=Try.isAgg93
 z44:=Try.sizeOf93
 v44:=Try.zeroValue93
 t46:=Try.underlying58
 a46:=Try.isAgg58
 z46:=Try.sizeOf58
 v46:=Try.zeroValue58
 t53:=Try.underlying145
 a53:=Try.isAgg145
 z53:=Try.sizeOf145
 v53:=Try.zeroValue145
 t57:=Try.underlying149
 a57:=Try.isAgg149
 z57:=Try.sizeOf149
 v57:=Try.zeroValue149
 t63:=Try.underlying151
 a63:=Try.isAgg151
 z63:=Try.sizeOf151
 v63:=Try.zeroValue151
 t64:=Try.underlying152
 a64:=Try.isAgg152
 z64:=Try.sizeOf152
 v64:=Try.zeroValue152
end Go.Proofs
namespace Go.Proofs.Ytpdpipgmdhkomaa
open Go Go.Ab
theorem aaD:∀ (a0:AV) (M:RM) (Q:ak),Go.Ab.Dk.cB 69 70 a0 M Q=Fj Try.prog Try.f55 [a0] M Q:=by
 intros; kernel_rfl
theorem NT {a0:AV} {M:RM} {Q:ak} (h:Go.Ab.Dk.cB 69 70 a0 M Q) : ay 55 [a0] M Q:=LB Xj (fn:=Try.f55) (by kernel_rfl) (aaD a0 M Q▸h)
end Go.Proofs.Ytpdpipgmdhkomaa
namespace Go.Ab.Bl
open Go Go.Ab Go.Ab.Sha Go.RowKit Go.Proofs Go.Maps Go.Sort Go.MapKept Go.WideShapes
open Go.WideElems (Fit rg)
open Go.Ab.Dk (lh mV FI nz)
open Go.Proofs.Ytpdpipgmdhkomaa
theorem YU (m:Nat) : AnyZ.SortsIn Try.prog Try.lSorted_ren Fence.wide m :=
 ⟨fun blk off cap ss W hH hblk hsz=>callsIn_wide.2 (AnyM.slices_Sort_string Try.lSort blk off cap ss W hH hblk hsz),
  fun p cap W=>callsIn_wide.2 (AnyM.slices_Sort_string_none Try.lSort p cap W)⟩
def KJ:Value→Option (DataW Unit × List MemPlace):=fun _=>some (.nil,[])
theorem fits {ρ:Ren} {cl:Nat} : ∀ {T:List eQ} {fs:List MapEntry},T.Pairwise (fun a b=>a.2.2<b.2.2)→(∀ t∈T,t.2.2<cl)→bJ ρ (T.map fM) fs →
  (fs.map (·.key))=T.map (fun t=>encStr t.1)∧(∀ x∈fs,x.born<cl∧∃ t∈T,x.born=t.2.2)∧(fs.map (·.born)).Nodup∧fs.length=T.length
 | [],[],_,_,_=>⟨rfl,by simp,by simp,rfl⟩
 | t :: T,f :: fs,h1,h2,hr=>by
   obtain⟨r1,r2,r3,r4⟩:=hr
   rw[List.pairwise_cons] at h1
   obtain⟨a1,a2,a3,a4⟩:=fits h1.2 (fun x hx=>h2 x (List.mem_cons_of_mem _ hx)) r4
   have r3:f.born=t.2.2:=r3
   obtain⟨hk,_⟩:=aN r1
   refine⟨?_, ?_, ?_, ?_⟩
   ·simp only[List.map_cons,a1]
    rw[hk]
   ·intro y hy
    rcases List.mem_cons.1 hy with rfl | hy
    ·rw[r3]; exact⟨h2 t (List.mem_cons_self ..),t,List.mem_cons_self ..,rfl⟩
    ·obtain⟨b1,x,b2,b3⟩:=a2 y hy; exact⟨b1,x,List.mem_cons_of_mem _ b2,b3⟩
   ·rw[List.map_cons,List.nodup_cons]
    refine⟨fun hm=>?_,a3⟩
    obtain⟨y,hy,he⟩:=List.mem_map.1 hm
    obtain⟨_,x,hx,hxe⟩:=a2 y hy
    have:=h1.1 x hx
    omega
   ·simp[a4]
theorem strKeys_perm {fs:List MapEntry} {d:List eQ} (hk:fs.map (·.key)=d.map (fun e=>encStr e.1)) (hl:∀ n∈fA d,n.length≤64) :
  (strKeys (.map ((fs.map (rg (H:=Unit) Try.prog 9 KJ)).foldr DataW.insert []))).Perm (fA d):=by
 have h1:((fs.map (rg (H:=Unit) Try.prog 9 KJ)).foldr DataW.insert []).Perm (fs.map (rg (H:=Unit) Try.prog 9 KJ)):=sorted_perm _
 refine(h1.map _).trans ?_
 clear h1
 induction fs generalizing d with
 | nil =>
   cases d with
   | nil=>exact .refl _
   | cons=>simp at hk
 | cons f fs ih =>
   cases d with
   | nil=>simp at hk
   | cons x d =>
     simp only[List.map_cons,List.cons.injEq] at hk
     have e:strOf (rg (H:=Unit) Try.prog 9 KJ f).1=x.1:=by
      have hle:x.1.length≤64:=hl _ (by simp[fA])
      have:keyOf Try.prog 9 f.key=some (.string x.1):=by
       rw[hk.1]
       unfold keyOf mapKey
       simp only[Try.underlying9,encStr]
       rw[if_pos (by show x.1.length≤maxLen; unfold maxLen; omega)]
      unfold rg Go.WideElems.rd
      rw[this]; rfl
     simp only[fA,List.map_cons,e]
     exact .cons _ (ih hk.2 fun n hn=>hl n (List.mem_cons_of_mem _ hn))
theorem Lm (ρ:Ren) : ∀ l:List Str,aR ρ (l.map fun s=>St s) (l.map encStr)
 | []=>.nil
 | s :: l=>.cons _ _ _ _ (.sc _ rfl) (Lm ρ l)
theorem X5 {P:Program} {ρ:Ren} {M:RM} {w:World} (hw:bC P ρ M w) {b:Nat} {i:fD} {l:List AV} {p:Bool} {e f:Nat} (hb:ρ b=some i) (hh:M.heap b=some (.row l p e f)) : i.sh=0:=by
 obtain⟨A,hA⟩:=hw
 rcases hA.blk b _ hh with⟨y,hy,hr⟩ | ⟨c,he,_⟩
 ·obtain⟨o,_,ho⟩:=hA.rel.blk b i y hb hy
  cases y with
  | row n t z op el fz=>obtain⟨c,fr,_,hrow⟩:=ho; exact hrow.sh0
  | map=>exact hr.elim
  | iter=>exact hr.elim
  | jq=>exact hr.elim
 ·cases he
theorem sorted {TM:Nat} : KC 9 TM 70 (ay 54):=by
 intro M m b cl d Q hmh Wi adP hh hlt hlen hQ
 have hwf:(fA d).Nodup∧∀ n∈fA d,n.length≤64:=⟨Wi.nodup,fun n hn=>by
  obtain⟨t,ht,rfl⟩:=List.mem_map.1 hn
  rw[adP t ht]; omega⟩
 refine iy.aaV (T:=9) (n:=(lh (fA d)).length) (cs:=(lh (fA d)).map fun s=>St s) ⟨Try.f54,_,Try.func54,rfl⟩ (by kernel_rfl) (by simp[oneCell]) (by simp) (fun ρ w us hus hw=>?_) (fun v M' o k=>hQ v M' (by rw[← X7] at o; exact o) k)
 cases hus with
 | cons _ u1 _ us r1 hus =>
 cases hus
 cases r1 with
 | fn _ _ _ us1 vs1 hp q1 q2 =>
 cases q1
 cases q2 with
 | cons _ u2 _ us r2 q3 =>
 cases q3
 obtain⟨i,hbi,rfl⟩:=dz r2
 have hsh:=X5 hw hbi hh
 obtain⟨u,hu,hcell⟩:=Dv hw hbi (show M.loads b 0 1=some [.map m] by rw[RM.Mv hh]; rfl)
 cases hu with
 | map _ j hmj =>
 obtain⟨A,hA⟩:=hw
 obtain⟨fs,hob,hfs⟩:=CW hA hmj hmh
 obtain⟨a1,a2,a3,a4⟩:=fits Wi.up Wi.lt hfs
 rw[hsh] at hcell
 rw[hsh]
 have hdl:fs.size=d.length:=by rw[← a4]; simp
 have adb:Fit (H:=Unit) Try.prog 9 KJ fs cl:=by
  refine⟨by rw[hdl]; unfold maxLen; omega,⟨fun x hx=>(a2 x hx).1,a3, ?_⟩,fun x hx=>?_⟩
  ·rw[a1]
   have:=hwf.1
   have e:d.map (fun e=>encStr e.1)=(fA d).map encStr:=by simp[fA]
   rw[e]
   exact List.Pairwise.map _ (fun a b h h2=>h (encStr_inj h2)) this
  ·have hxk:x.key∈fs.toList.map (·.key):=List.mem_map_of_mem hx
   rw[a1] at hxk
   obtain⟨y,hy,hye⟩:=List.mem_map.1 hxk
   have hle:=hwf.2 y.1 (List.mem_map_of_mem hy)
   refine⟨(.string y.1,.nil), ?_⟩
   unfold Go.WideElems.rd
   have:keyOf Try.prog 9 x.key=some (.string y.1):=by
    rw[← hye]
    unfold keyOf mapKey
    simp only[Try.underlying9,encStr]
    rw[if_pos (by show y.1.length≤maxLen; unfold maxLen; omega)]
   rw[this]; rfl
 have hown:w.ownsMap Try.prog 9 KJ j.cb fs.size (.map ((fs.toList.map (rg (H:=Unit) Try.prog 9 KJ)).foldr DataW.insert [])):=⟨fs,cl,hob,adb,Nat.le_refl _,rfl⟩
 have hsz:Maps.size (DataW.map ((fs.toList.map (rg (H:=Unit) Try.prog 9 KJ)).foldr DataW.insert []))=d.length:=by
  rw[size_eq,length_sorted,List.length_map,a4]
 have hil:=hA.rel.dom b i hbi
 have hseq:SeqGives Fence.wide 2 Try.prog 70 #[.pointer (some ⟨i.cb,0,none⟩)] encStr _ _ w:=AnyZ.keys_gives (ρ:=Try.lKeys_ren) { Try.lKeys with } Fence.wide _ trivial rfl (by omega) i.cb j.cb fs.size _ w hil.2 hcell hown
 refine(callsIn_wide (n:=5)).1 ?_
 have cS:=AnyZ.sorted_in Try.lSorted Fence.wide 5 trivial trivial trivial trivial rfl (by omega) (YU _) (enters_of Try.func69 (by kernel_rfl) rfl) 70 #[.pointer (some ⟨i.cb,0,none⟩)] trivial (enters_of Try.func70 (by kernel_rfl) rfl) _ _ (by rw[hsz]; unfold maxLen; omega) (by rw[hsz]; omega) _ hseq
 change CallsIn _ _ Try.prog 54 _ _ _ at cS
 refine cS.mono ?_
 rintro e w' ⟨v,ss,rfl,hS,hrow,hnil,hb⟩
 have hperm:ss.Perm (fA d):=hS.trans (strKeys_perm a1 hwf.2)
 rw[FI hperm] at hrow
 have hl:ss.length=(lh (fA d)).length:=by rw[hperm.length_eq,(nz _).length_eq]
 rw[hl] at hrow
 exact⟨v,_,rfl,hrow,fun ρ'=>Lm ρ' _,hb⟩
theorem abv:Rm 69 70 (ay 55):=by
 intro M m Q hQ
 refine NT ?_
 unfold Go.Ab.Dk.cB
 refine⟨rfl,by show 1≤1; decide, ?_⟩
 dsimp only
 rw[aL]
 exact hQ
end Go.Ab.Bl
namespace Go.Proofs.Ytpdpipgmdhkomaa.nV
open Go Go.Ab Go.Ab.Sha Go.Ab.Bl Go.RowKit Go.Proofs Go.Proofs.Ytpdpipgmdhkomaa
theorem K9:xZ 71 9 (ay 24):=by
 intro x0 x1 x2 x3 x4 x5 x6 x7 x8
 refine gy uz _ _ _ ?_
 apply (LP abv sorted) <;> assumption
theorem YZ:Iy (ay 6):=by
 intro x0 x1 x2
 refine JG CO _ _ _ ?_
 apply QO (TSt:=71) (T8:=5) (TB:=23) (TS:=9) (T32:=0) { ph:=PZ,cut:=Kt,new:=zO,miss:=MZ,put:=qB,H7:=Tv,get:=GH,nm:=Ie,n2:=Ny,want:=xV,keep:=BK,ns:=K9,by_:=Uo } <;> assumption
theorem UY {P:Program} {M:RM} {t e:TypeId} {v:AV} (h:Fits P M t [v]) (hu:P.underlying t=some (.slice e)) (hz:0<P.cellsOf e) : EE v:=by
 generalize hc:[v]=cs at h
 cases h with
 | Ra _ e' h1=>cases hc; trivial
 | emp _ e' b h1=>cases hc; trivial
 | slc _ e' b o n c ds h1 h2 h3 h4 h5 h6=>cases hc; exact h3
 | zero _ e' _ h1 h2=>rw[hu] at h1; cases h1; omega
 | _=>simp_all [vS]
theorem cells5:Try.prog.cellsOf 5=1:=by kernel_rfl
theorem ZH:Try.prog.bytesOf 5=1:=by kernel_rfl
theorem Yq {M:RM} {cs:List AV} (h:Fits Try.prog M 5 cs) : ∃ k:UInt8,cs=[By k]:=by
 obtain⟨n,rfl,h1,h2⟩:=h.E5 Try.underlying5
 have h1:(0:Int)≤n:=h1
 have h2:n≤(255:Int):=h2
 refine⟨UInt8.ofNat n.toNat, ?_⟩
 have:((UInt8.ofNat n.toNat).toNat:Int)=n:=by
  rw[UInt8.toNat_ofNat']
  omega
 rw[By,this]
theorem QI {M:RM} {cs:List AV} (h:Fits Try.prog M 23 cs) : ∃ v,∃ bs:Str,cs=[v]∧Bs M v bs∧bs.length≤140737488355328:=by
 obtain⟨v,n,ds,rfl,hs,hb,he⟩:=h.Db Try.underlying23 (by rw[cells5]; decide)
 have hc:=UY h Try.underlying23 (by rw[cells5]; decide)
 rw[cells5] at hs he
 rw[ZH] at hb
 obtain⟨xs,rfl,rfl,_⟩:=EG (size:=1) BY.cells (fun _=>True) (fun _=>rfl) n ds hs.length fun i hi=>by
  obtain⟨k,e⟩:=Yq (he i hi)
  exact⟨k,trivial,e⟩
 exact⟨v,xs,rfl,⟨hs,hc⟩,Nat.le_trans (by omega) (show reachBytes≤140737488355328 by decide)⟩
theorem aaw:NB 71 (ay 20):=by
 intro x0 x1 x2 x3 x4 x5 x6 x7 x8 x9 x10 x11 x12 x13 x14 x15 x16 x17 x18 x19 x20 x21
 refine SE CJ _ _ _ ?_
 apply SB (TU:=5) (TS:=9) { ns:=K9,get:=GH,by_:=Uo,want:=xV,Xq:=U0,H7:=Tv,Ut:=Yv,find:=Fq,miss:=MZ,Xn:=Ua } Ze <;> assumption
theorem cells3:Try.prog.cellsOf 3=1:=by kernel_rfl
theorem Tz:Try.prog.cellsOf 9=1:=by kernel_rfl
theorem Yf:Try.prog.cellsOf 23=1:=by kernel_rfl
theorem JK:Try.prog.cellsOf 43=4:=by kernel_rfl
theorem V3:reachBytes≤281474976710656:=by decide +kernel
theorem UN {M:RM} {cs:List AV} (h:Fits Try.prog M 28 cs) : ∃ v,∃ l:List Str,cs=[v]∧Sl bO M v l∧∀ x∈l,x.length≤281474976710656:=by
 obtain⟨v,n,ds,rfl,hs,hb,he⟩:=h.Db Try.underlying28 (by rw[Tz]; decide)
 rw[Tz] at hs he
 obtain⟨xs,rfl,rfl,hp⟩:=EG (size:=1) bO.cells (fun x:Str=>x.length≤281474976710656) (fun _=>rfl) n ds hs.length fun i hi=>by
  obtain⟨s,e,g⟩:=(he i hi).Yw Try.underlying9
  exact⟨s,Nat.le_trans g V3,e⟩
 exact⟨v,xs,rfl,hs,hp⟩
theorem Vm {M:RM} {cs:List AV} (h:Fits Try.prog M 43 cs) : ∃ a:Rl,Sc.rel M cs a fun _=>True:=by
 obtain⟨hl,hf⟩:=h.Sy Try.underlying43
 rw[JK] at hl
 match cs,hl with
 | [a,b,c,d],_ =>
   have f0:Fits Try.prog M 3 (([a,b,c,d].drop 0).take (Try.prog.cellsOf 3)):=hf 0 _ rfl
   have f1:Fits Try.prog M 3 (([a,b,c,d].drop 1).take (Try.prog.cellsOf 3)):=hf 1 _ rfl
   have f2:Fits Try.prog M 3 (([a,b,c,d].drop 2).take (Try.prog.cellsOf 3)):=hf 2 _ rfl
   have f3:Fits Try.prog M 23 (([a,b,c,d].drop 3).take (Try.prog.cellsOf 23)):=hf 3 _ rfl
   rw[cells3] at f0 f1 f2
   rw[Yf] at f3
   obtain⟨n0,e0,_,_⟩:=f0.E5 Try.underlying3
   obtain⟨n1,e1,_,_⟩:=f1.E5 Try.underlying3
   obtain⟨n2,e2,_,_⟩:=f2.E5 Try.underlying3
   obtain⟨v3,b3,e3,h3,_⟩:=QI f3
   cases e0; cases e1; cases e2; cases e3
   exact⟨(n0,n1,n2,b3),_,rfl,h3,fun _ _=>trivial⟩
theorem JD {α:Type} {R:mF α} {M:RM} {S:Nat→Prop} : ∀ (n:Nat) (ds:List AV),ds.length=n * R.size→(∀ i,i<n→∃ a,R.rel M ((ds.drop (i * R.size)).take R.size) a S)→∃ xs:List α,xs.length=n∧eP R M S ds xs
 | 0,ds,hl,_=>by
   have:ds=[]:=List.length_eq_zero_iff.1 (by simpa using hl)
   subst this
   exact⟨[],rfl,.nil⟩
 | n + 1,ds,hl,h=>by
   obtain⟨a,ha⟩:=h 0 (by omega)
   simp only[Nat.zero_mul,List.drop_zero] at ha
   have hl' : (ds.drop R.size).length=n * R.size:=by rw[List.length_drop,hl,Nat.succ_mul]; omega
   obtain⟨xs,h1,h2⟩:=JD n (ds.drop R.size) hl' fun i hi=>by
    obtain⟨b,hb⟩:=h (i + 1) (by omega)
    refine⟨b, ?_⟩
    rw[List.drop_drop,show R.size + i * R.size=(i + 1) * R.size by rw[Nat.succ_mul]; omega]; exact hb
   refine⟨a :: xs,by simp[h1], ?_⟩
   have:=eP.cons ha h2
   rwa [List.take_append_drop] at this
theorem TE {M:RM} {cs:List AV} (h:Fits Try.prog M 40 cs) : ∃ v,∃ l:List Rl,cs=[v]∧fw Sc M v l fun _=>True:=by
 obtain⟨v,n,ds,rfl,hs,hb,he⟩:=h.Db Try.underlying40 (by rw[JK]; decide)
 rw[JK] at hs he
 obtain⟨xs,h1,h2⟩:=JD (R:=Sc) (M:=M) (S:=fun _=>True) n ds hs.length fun i hi=>Vm (he i hi)
 subst h1
 exact⟨v,xs,rfl,ds,hs,fun _ _=>trivial,h2⟩
theorem Zh:Uw (ay 5):=by
 intro x0 x1 x2 x3 x4 x5 x6 x7 x8 x9 x10
 refine eZ vL _ _ _ ?_
 apply (Sd YZ zO PZ Od Tq Ny aaZ BK qB Bt aaw) <;> assumption
end Go.Proofs.Ytpdpipgmdhkomaa.nV
namespace Go.Proofs.Ytpdpipgmdhkomaa.blobsPlays
open Go Go.Ab Go.ChangeShapes Go.WideShapes Go.ChangeAt Go.RowKit
theorem own:ownKnob Try.prog.godebug=none:=by kernel_rfl
open Go.Ab.Sha Go.Ab.Bl Go.Proofs.Ytpdpipgmdhkomaa.nV
def base (w:World) : Base:=Base.any w.heap.size
theorem walk (w:World) (v0 v1:Value) (h0:qc Try.prog (RM.old (base w) w) 40 (vR w.heap.size v0)) (h1:qc Try.prog (RM.old (base w) w) 28 (vR w.heap.size v1)) :
  Calls Try.prog 5 #[v0,v1] w fun e w'=>e=.returned (.bool true)∧Below w.heap.size w w':=by
 obtain⟨u0,l0,e0,g0⟩:=TE (h0.one (by kernel_rfl))
 obtain⟨u1,l1,e1,g1,g2⟩:=UN (h1.one (by kernel_rfl))
 refine iy.close (base:=base w) rfl trivial ?_
 simp only[List.map_cons,List.map_nil]
 rw[show vR (base w).n v0=u0 from(List.cons.inj e0).1,show vR (base w).n v1=u1 from(List.cons.inj e1).1]
 exact Zh (M:=RM.old (base w) w) (Q:=fun v _=>v=Bo true) g0 g1 g2 (fun M'=>rfl)
set_option maxRecDepth 100000 in
theorem lifted (os:Os) (started:os.Started) (H:Type) (enc:TypeId × Value→H) :
  ReturnsInHanded {} Try.checked os 5 .any (Rows.blobsPlaysSpec.pre6 enc Try.prog Try.f5 Rows.blobsPlaysRow.domain false) (Rows.blobsPlaysSpec.post enc Try.prog Try.f5 false true false false):=by
 refine returnsInHanded_of_change_sized (C:=Try.checked) own started (by kernel_rfl) Try.func5
  (ChangeSpec.witness6 (enc:=enc) (C:=Try.checked) false ⟨#[],#[.slice none 0 0,.slice none 0 0],[]⟩ 8 (by kernel_rfl) (by kernel_rfl) (by kernel_rfl) (by kernel_rfl)) ?_
 intro W b0 args ds gs before hval hW hcnd hwt _
 have hW':=hW
 obtain⟨p,q,hA,hV,rfl,hfz,hnd⟩:=hW
 rw[Try.params5] at hA hwt
 obtain⟨rfl,rfl⟩:=trodVars_none hV
 have hfit:=NU (base:=base W) rfl hA (fun j t v hj hv=>hval j t v (by rw[Try.params5]; simpa using hj) (by simpa using hv)) (fun y hy=>by
  have acp:(DataW.weightsEach Try.prog [40,28] (ds++[])).all (· ≤ reachBytes)=true:=hwt
  have:=List.all_eq_true.1 acp y (by rw[List.append_nil]; exact hy)
  simpa using this)
 simp only[List.append_nil] at hW'
 have hlt:∀ x∈p,x.block<W.heap.size:=fun x hx=>hW'.lt x hx
 obtain⟨v0,v1,d0,d1,p0,p1,rfl,rfl,rfl,h0,h1⟩:=trodAll_two hA
 refine(walk W v0 v1 (hfit 0 _ _ rfl rfl) (hfit 1 _ _ rfl rfl)).mono fun e W' ⟨he,hg⟩=>?_
 subst he
 exact⟨_,rfl,LW (pa:=_) (pv:=[]) hW' (fun _ _ _=>(trodAll_cons_mk (shut_bool Try.underlying4 _) trodAll_mk0)) (fun sp hsp=>by
   rw[Try.params5]
   exact Co (by kernel_rfl) hg (fun t ht=>by
    have ht:t=40∨t=28:=by simpa using ht
    rcases ht with rfl | rfl <;> exact⟨by kernel_rfl,of_decide_eq_true (by kernel_rfl)⟩) hA hlt hsp) (fun _ _=>rfl) (by simp)
  hg (ok_one (by kernel_rfl) rfl (okWide_bool_mk Try.underlying4 _))⟩
theorem over:Rows.blobsPlaysRow.holds Try.pinned (OpenSpec.ofChange Rows.blobsPlaysSpec) :=
 OpenClaim.holds_of_wide 5 Try.f5 rfl rfl rfl rfl rfl rfl rfl ⟨rfl,rfl,rfl,rfl,rfl⟩ rfl rfl rfl rfl rfl (by kernel_rfl) Try.func5 (by kernel_rfl)
  (of_decide_eq_true (by kernel_rfl)) (by unfold Func.isWrapper; first | (rw[if_pos (by decide +kernel)]; kernel_rfl) | (rw[if_neg (by decide +kernel)]; exact⟨rfl,rfl⟩))
  (fun os started H enc _=>lifted os started H enc)
theorem proved:Rows.BlobsPlaysSaid :=
 over
end Go.Proofs.Ytpdpipgmdhkomaa.blobsPlays
