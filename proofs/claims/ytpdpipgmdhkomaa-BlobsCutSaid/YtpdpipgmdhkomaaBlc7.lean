/- 'BlobsCut' returns true for any two texts, in whatever world it is called: a photo's bytes are cut, named and listed as the document says. No condition. By an AI agent. -/
import Derived.Test.YtpdpipgmdhkomaaBlc6
import Derived.KernelRfl
import Derived.Test.YtpdpipgmdhkomaaProg
import Derived.RangeFuncBox
import Derived.RangeFuncLeaves
import Derived.Shelf.Abstract
import Derived.Shelf.RegionOpen
import Derived.WalkKit
import Derived.OwnWalkIn
import Derived.TacticsInMore
import Derived.LoopNIn
import Derived.LoopIn
import Derived.Shelf.SlIter.Nil
import Derived.Shelf.SortM.Plain
import Derived.Shelf.SortM.SortNone
import Derived.Ground.GgzProg
import Derived.Ground.SlgmProg
import Derived.WideShapes
import Derived.Test.YtpdpipgmdhkomaaRows
import Derived.SizedLaws
import Derived.JoinedOf
import Derived.Carry
import Derived.ProofKit
import Derived.OpenShut
set_option maxRecDepth 100000
set_option linter.unusedVariables false
set_option linter.unusedSimpArgs false
namespace Go.Proofs.Ytpdpipgmdhkomaa
open Go Go.Ab
abbrev ax := @gy Try.prog
theorem U7:rG Try.prog:=⟨Tx (by kernel_rfl),by kernel_rfl⟩
theorem bG {f:FuncId} {fn:Func} {args:List AV} {M:RM} {Q:aj} {B:Prop} (h:B) (hfn:Try.prog.funcs[f]?=some fn:=by kernel_rfl) (e:B=DJ Try.prog fn args M Q:=by kernel_rfl) : ax f args M Q:=JC U7 hfn (e▸h)
variable {a0 a1 a2 a3 a4 a5 a6 a7:AV} {M:RM} {Q:aj}
theorem wN (h:Go.Ab.Bl.nD (ax 6) 5 (ax 7) (ax 11) (ax 12) (ax 13) (ax 14) a0 a1 M Q) : ax 4 [a0,a1] M Q:=bG (fn:=Try.f4) h
theorem AX (h:Go.Ab.Bl.qY (ax 15) (ax 7) (ax 9) (ax 21) (ax 18) (ax 10) (ax 22) (ax 8) 5 (ax 13) 9 (ax 23) (ax 17) (ax 24) (ax 25)  M Q) : ax 6 [] M Q:=bG (fn:=Try.f6) h
theorem Nr:∀ (a0:AV) (M:RM) (Q:aj),Go.Ab.Bl.qx (ax 26) 23 24 (ax 28) (ax 27) (pF Try.prog) (ax 29) 62 5 (ax 30) a0 M Q=Di Try.prog Try.f7 [a0] M Q:=by
 intros; kernel_rfl
theorem DW {a0:AV} {M:RM} {Q:aj} (h:Go.Ab.Bl.qx (ax 26) 23 24 (ax 28) (ax 27) (pF Try.prog) (ax 29) 62 5 (ax 30) a0 M Q) : ax 7 [a0] M Q:=Gv U7 (fn:=Try.f7) (by kernel_rfl) (Nr a0 M Q▸h)
theorem JQ:∀ (a0:AV) (M:RM) (Q:aj),Go.Ab.Bl.mY (ax 31) (ax 32) (ax 33) (ax 34) (ax 35) 28 (ax 27) (pF Try.prog) (ax 36) 9 a0 M Q=Di Try.prog Try.f8 [a0] M Q:=by
 intros; kernel_rfl
theorem AZ {a0:AV} {M:RM} {Q:aj} (h:Go.Ab.Bl.mY (ax 31) (ax 32) (ax 33) (ax 34) (ax 35) 28 (ax 27) (pF Try.prog) (ax 36) 9 a0 M Q) : ax 8 [a0] M Q:=Gv U7 (fn:=Try.f8) (by kernel_rfl) (JQ a0 M Q▸h)
theorem Ea (h:Go.Ab.Bl.wE 71  M Q) : ax 9 [] M Q:=bG (fn:=Try.f9) h
theorem sw (h:Go.Ab.Bl.kQ 32 (ax 8) 38 (ax 37) 5 a0 a1 M Q) : ax 10 [a0,a1] M Q:=bG (fn:=Try.f10) h
theorem yY (h:Go.Ab.Bl.pU 23 a0 M Q) : ax 11 [a0] M Q:=bG (fn:=Try.f11) h
theorem vV (h:Go.Ab.Bl.nz (ax 40) (ax 11) (ax 41) 62 5 a0 M Q) : ax 12 [a0] M Q:=bG (fn:=Try.f12) h
theorem DY (h:Go.Ab.Sha.wI (ax 41) 62 (ax 42) a0 M Q) : ax 13 [a0] M Q:=bG (fn:=Try.f13) h
theorem A9 (h:Go.Ab.Bl.ru (ax 8) (ax 43) (ax 44) a0 M Q) : ax 14 [a0] M Q:=bG (fn:=Try.f14) h
theorem Bb (h:Go.Ab.Bl.rf 5 a0 a1 M Q) : ax 15 [a0,a1] M Q:=bG (fn:=Try.f15) h
theorem uj (h:Go.Ab.Bl.lF (ax 8) a0 a1 M Q) : ax 17 [a0,a1] M Q:=bG (fn:=Try.f17) h
theorem uQ (h:Go.Ab.Bl.mi (ax 30) (ax 39) (ax 46) a0 a1 M Q) : ax 18 [a0,a1] M Q:=bG (fn:=Try.f18) h
theorem qN (h:Go.Ab.Bl.jO 9 (ax 8) (ax 50) a0 a1 M Q) : ax 21 [a0,a1] M Q:=bG (fn:=Try.f21) h
theorem uR (h:Go.Ab.Bl.mo (ax 46) a0 a1 M Q) : ax 22 [a0,a1] M Q:=bG (fn:=Try.f22) h
theorem uJ (h:Go.Ab.Bl.lG (ax 50) (ax 51) 52 a0 a1 M Q) : ax 23 [a0,a1] M Q:=bG (fn:=Try.f23) h
theorem sJ (h:Go.Ab.Bl.kR (ax 55) (ax 54) a0 M Q) : ax 24 [a0] M Q:=bG (fn:=Try.f24) h
theorem sD (h:Go.Ab.Bl.kN a0 M Q) : ax 25 [a0] M Q:=bG (fn:=Try.f25) h
theorem KV (h:Go.Ab.aR.Lm (ax 28) 5 a0 a1 M Q) : ax 26 [a0,a1] M Q:=bG (fn:=Try.f26) h
theorem CE (h:Go.Ab.Bl.uk 23 3 9 56 a0 a1 M Q) : ax 27 [a0,a1] M Q:=bG (fn:=Try.f27) h
theorem qE (h:Go.Ab.aR.uq 5 a0 M Q) : ax 28 [a0] M Q:=bG (fn:=Try.f28) h
theorem FO (h:Go.Ab.Sha.Bp 62 (ax 57) 94 (ax 58) 97 (ax 59) (ax 28) 5 a0 M Q) : ax 29 [a0] M Q:=bG (fn:=Try.f29) h
theorem Cv (h:Go.Ab.Bl.uE (ax 29) (ax 36) a0 M Q) : ax 30 [a0] M Q:=bG (fn:=Try.f30) h
theorem ME (h:Go.Ab.aR.LH (ax 28) 102 a0 M Q) : ax 31 [a0] M Q:=bG (fn:=Try.f31) h
theorem Bz (h:Go.Ab.aR.tX (ax 60) a0 a1 M Q) : ax 32 [a0,a1] M Q:=bG (fn:=Try.f32) h
theorem BI (h:Go.Ab.aR.sS a0 M Q) : ax 33 [a0] M Q:=bG (fn:=Try.f33) h
theorem AU (h:Go.Ab.Bl.rF a0 M Q) : ax 34 [a0] M Q:=bG (fn:=Try.f34) h
theorem zI (h:Go.Ab.Bl.qj a0 M Q) : ax 35 [a0] M Q:=bG (fn:=Try.f35) h
theorem GI (h:Go.Ab.Sha.BP 62 5 a0 M Q) : ax 36 [a0] M Q:=bG (fn:=Try.f36) h
theorem qQ (h:Go.Ab.Bl.jJ (ax 61) a0 a1 M Q) : ax 37 [a0,a1] M Q:=bG (fn:=Try.f37) h
theorem qF (h:Go.Ab.Bl.jL (ax 39) a0 a1 M Q) : ax 38 [a0,a1] M Q:=bG (fn:=Try.f38) h
theorem uS (h:Go.Ab.Bl.mD a0 a1 M Q) : ax 39 [a0,a1] M Q:=bG (fn:=Try.f39) h
theorem DU (h:Go.Ab.aR.vX 5 (ax 40) a0 M Q) : ax 40 [a0] M Q:=bG (fn:=Try.f40) h
theorem Fw (h:Go.Ab.Sha.Av 62 (ax 62) 5 (ax 63) a0 M Q) : ax 41 [a0] M Q:=bG (fn:=Try.f41) h
theorem EG (h:Go.Ab.Sha.yG 5 a0 M Q) : ax 42 [a0] M Q:=bG (fn:=Try.f42) h
theorem A7 (h:Go.Ab.Bl.rD (ax 64) 9 (ax 42) a0 M Q) : ax 43 [a0] M Q:=bG (fn:=Try.f43) h
theorem Ba (h:Go.Ab.Bl.qX a0 a1 M Q) : ax 44 [a0,a1] M Q:=bG (fn:=Try.f44) h
theorem pq (h:Go.Ab.Bl.nk 5 a0 M Q) : ax 46 [a0] M Q:=bG (fn:=Try.f46) h
theorem sI (h:Go.Ab.Bl.kX (ax 39) (ax 66) 9 a0 a1 M Q) : ax 50 [a0,a1] M Q:=bG (fn:=Try.f50) h
theorem rW (h:Go.Ab.Bl.kP (ax 61) (ax) a0 a1 M Q) : ax 51 [a0,a1] M Q:=bG (fn:=Try.f51) h
theorem qU (h:Go.Ab.Bl.ku (ax 53) 62 a0 M Q) : ax 52 [a0] M Q:=bG (fn:=Try.f52) h
theorem Fz (h:Go.Ab.Sha.yT 62 (ax 67) a0 M Q) : ax 53 [a0] M Q:=bG (fn:=Try.f53) h
theorem yE (h:Go.Ab.Sha.oK 94  M Q) : ax 57 [] M Q:=bG (fn:=Try.f57) h
theorem DX (h:Go.Ab.Sha.wY 97  M Q) : ax 58 [] M Q:=bG (fn:=Try.f58) h
theorem wU (h:Go.Ab.Sha.nE 94 (ax 71) 97 a0 a1 a2 M Q) : ax 59 [a0,a1,a2] M Q:=bG (fn:=Try.f59) h
theorem xX (h:Go.Ab.aR.oq a0 M Q) : ax 60 [a0] M Q:=bG (fn:=Try.f60) h
theorem lD (h:Go.Ab.Bl.lm (ax) a0 a1 M Q) : ax 61 [a0,a1] M Q:=bG (fn:=Try.f61) h
theorem AY (h:Go.Ab.Sha.qV (ax 72) 93 (ax 73)  M Q) : ax 62 [] M Q:=bG (fn:=Try.f62) h
theorem Ck (h:Go.Ab.Sha.uF 94 (ax 74) 93 a0 a1 a2 M Q) : ax 63 [a0,a1,a2] M Q:=bG (fn:=Try.f63) h
theorem BA (h:Go.Ab.Bl.sZ (ax 75) a0 a1 M Q) : ax 64 [a0,a1] M Q:=bG (fn:=Try.f64) h
theorem uT (h:Go.Ab.Bl.mq (ax 76) a0 a1 M Q) : ax 66 [a0,a1] M Q:=bG (fn:=Try.f66) h
theorem DT (h:Go.Ab.Sha.wF a0 M Q) : ax 67 [a0] M Q:=bG (fn:=Try.f67) h
theorem EE (h:Go.Ab.Sha.yL (ax 80) a0 a1 M Q) : ax 71 [a0,a1] M Q:=bG (fn:=Try.f71) h
theorem A8 (h:Go.Ab.Sha.qW 3 (ax 81) a0 M Q) : ax 72 [a0] M Q:=bG (fn:=Try.f72) h
theorem DZ (h:Go.Ab.Sha.wH (ax 83) (ax 82) 130 (ax 84) a0 a1 M Q) : ax 73 [a0,a1] M Q:=bG (fn:=Try.f73) h
theorem DV (h:Go.Ab.Sha.wT a0 a1 M Q) : ax 74 [a0,a1] M Q:=bG (fn:=Try.f74) h
theorem Fb (h:Go.Ab.Bl.zQ a0 M Q) : ax 75 [a0] M Q:=bG (fn:=Try.f75) h
theorem yF (h:Go.Ab.Bl.pY a0 a1 M Q) : ax 76 [a0,a1] M Q:=bG (fn:=Try.f76) h
theorem oo (h:Go.Ab.Sha.iX a0 a1 M Q) : ax 80 [a0,a1] M Q:=bG (fn:=Try.f80) h
theorem CP (h:Go.Ab.Sha.sV a0 M Q) : ax 81 [a0] M Q:=bG (fn:=Try.f81) h
theorem BO (h:Go.Ab.Sha.tO 130 a0 a1 M Q) : ax 82 [a0,a1] M Q:=bG (fn:=Try.f82) h
theorem Gl (h:Go.Ab.Sha.BQ 130 a0 M Q) : ax 83 [a0] M Q:=bG (fn:=Try.f83) h
theorem Cb (h:Go.Ab.Sha.tT 130 a0 a1 M Q) : ax 84 [a0,a1] M Q:=bG (fn:=Try.f84) h
end Go.Proofs.Ytpdpipgmdhkomaa
namespace Go.Proofs.Ytpdpipgmdhkomaa
open Go Go.Ab Go.Proofs Go.RowKit Go.Shelf
attribute [local go_sem] Oper.semAt_some
set_option maxHeartbeats 4000000 in
theorem VX:Ot Try.prog 56:=by
 intro l J p2 p3 a len cap n hn0 hn1 hcap hlen hz1 hz2 hI hdr hY W h0
 have hmix:Try.prog.follows .mixedOrders=true:=by kernel_rfl
 refine callsIn_of_wp Try.func56 rfl trivial ?_ rfl
 simp only[Try.ntmps56,List.size_toArray,List.length_cons,List.length_nil,Nat.reduceAdd,Nat.reduceSub,Array.replicate_succ,Array.replicate_zero,List.push_toArray,List.append_toArray,List.nil_append,List.cons_append]
 gi_wp2
 gi_loopw [4] (fun i wr=>∃ k:Nat,k * n<len + n∧i=.int .i64 (k * n:Nat)∧J k wr) (fun i _=>len + n - (intOf i).toNat)
 case atStart=>exact⟨0,by omega,by simp,h0⟩
 case round =>
  obtain⟨k,hk,rfl,hJ⟩:=hrel
  obtain⟨hc2,hc3⟩:=hI k wr hJ
  obtain⟨i,hi⟩ : ∃ i,k * n=i:=⟨_,rfl⟩
  have hYk:=hY k wr.drew
  rw[hi] at hk hYk ⊢
  by_cases hlt:i<len
  ·obtain⟨ad,rfl⟩ : ∃ ad,a=some ad:=by
    cases a with
    | none=>have:=hz1 rfl; omega
    | some ad=>exact⟨ad,rfl⟩
   obtain⟨hd2,hd3⟩:=hI k wr.drew (hdr k wr hJ)
   obtain⟨fn,tmps,assign,body,hy,hR⟩:=hYk hlt (hdr k wr hJ)
   have hle:i≤len:=by omega
   have hle2:i≤cap:=by omega
   gi_wp2
   gi_region
   have hmin:(if len - i<n then((len - i:Nat) : Int) else(n:Int))=((min n (len - i) : Nat) : Int):=by
    split
    ·rw[Nat.min_eq_right (by omega)]
    ·rw[Nat.min_eq_left (by omega)]
   first
    | rw[hmin]
    | rw[show min (n:Int) ((len - i:Nat) : Int)=((min n (len - i) : Nat) : Int) by omega]
   obtain⟨h,hh⟩ : ∃ h,min n (len - i)=h:=⟨_,rfl⟩
   rw[hh] at hy ⊢
   have hm1:i + h≤len:=by omega
   have hm2:i + h≤cap:=by omega
   have hm3:h=n∨i + h=len:=by omega
   simp only[Option.map_some] at hy
   gi_wp2
   refine⟨rfl,hR.mono ?_⟩
   rintro e W3 ⟨rfl,hJ3⟩
   obtain⟨hd4,hd5⟩:=hI (k + 1) W3 hJ3
   gi_wp2
   go_roundw
   case rel=>exact⟨k + 1,by rw[Nat.add_mul,hi]; omega,by rw[Nat.add_mul,hi]; simp,hJ3⟩
   case measure=>simp[intOf]; omega
  ·gi_wp2
   refine bodyPost_end (results_none rfl _ _ _) rfl ?_
   exact⟨⟨_,rfl⟩,k,by omega,hJ⟩
end Go.Proofs.Ytpdpipgmdhkomaa
namespace Go.Proofs.Ytpdpipgmdhkomaa.xV
open Go Go.Ab Go.Ab.Sha Go.Ab.Bl Go.RowKit Go.Proofs Go.Proofs.Ytpdpipgmdhkomaa
theorem Gf {f:FuncId} {W:RM→aj→Prop} (h:∀ {M:RM} {Q:aj},W M Q→ax f [] M Q) : ∀ args M Q,(args=[]∧W M Q)→ax f args M Q:=by
 rintro args M Q ⟨rfl,k⟩; exact h k
theorem eX {f:FuncId} {W:AV→RM→aj→Prop} (h:∀ {a0:AV} {M:RM} {Q:aj},W a0 M Q→ax f [a0] M Q) : ∀ args M Q,(∃ a0,args=[a0]∧W a0 M Q)→ax f args M Q:=by
 rintro args M Q ⟨a0,rfl,k⟩; exact h k
theorem fO {f:FuncId} {W:AV→AV→RM→aj→Prop} (h:∀ {a0 a1:AV} {M:RM} {Q:aj},W a0 a1 M Q→ax f [a0,a1] M Q) : ∀ args M Q,(∃ a0 a1,args=[a0,a1]∧W a0 a1 M Q)→ax f args M Q:=by
 rintro args M Q ⟨a0,a1,rfl,k⟩; exact h k
theorem UO {f:FuncId} {W:AV→AV→AV→RM→aj→Prop} (h:∀ {a0 a1 a2:AV} {M:RM} {Q:aj},W a0 a1 a2 M Q→ax f [a0,a1,a2] M Q) : ∀ args M Q,(∃ a0 a1 a2,args=[a0,a1,a2]∧W a0 a1 a2 M Q)→ax f args M Q:=by
 rintro args M Q ⟨a0,a1,a2,rfl,k⟩; exact h k
theorem QI:Sha.jP 5 (ax 28):=by
 intro x0 x1 x2 x3 x4 x5 x6
 refine eX qE _ _ _ ?_
 apply He <;> assumption
theorem NZ:Sha.jP 5 (ax 46):=by
 intro x0 x1 x2 x3 x4 x5 x6
 refine eX pq _ _ _ ?_
 apply Nk <;> assumption
theorem Td:IB (ax 46):=by
 intro x0 x1 x2
 refine eX pq _ _ _ ?_
 apply Mv <;> assumption
theorem ZO:SI (ax 80):=by
 intro x0 x1 x2 x3 x4 x5
 refine fO oo _ _ _ ?_
 apply SB <;> assumption
theorem YN:DK .i64 (ax 71):=by
 intro x0 x1 x2 x3 x4 x5
 refine fO EE _ _ _ ?_
 apply (RQ ZO) <;> assumption
theorem Yr:OB 94 97 (ax 59):=by
 intro x0 x1 x2 x3 x4 x5 x6 x7 x8 x9 x10 x11 x12 x13 x14 x15 x16 x17
 refine UO wU _ _ _ ?_
 apply (QO YN) <;> assumption
theorem Xi:xY kW (ax 57):=by
 intro x0 x1 x2
 refine Gf yE _ _ _ ?_
 apply IG <;> assumption
theorem Xt:xY hW (ax 58):=by
 intro x0 x1 x2
 refine Gf DX _ _ _ ?_
 apply OC <;> assumption
theorem Wn:Cr (ax 29):=by
 intro x0 x1 x2 x3 x4 x5 x6
 refine eX FO _ _ _ ?_
 apply (Ua Xi Xt Yr QI) <;> assumption
theorem U3:J8 (ax 36):=by
 intro x0 x1 x2 x3 x4
 refine eX GI _ _ _ ?_
 apply Ra <;> assumption
theorem Vf:uZ (ax 30):=by
 intro x0 x1 x2 x3 x4 x5 x6
 refine eX Cv _ _ _ ?_
 apply (VY Wn U3) <;> assumption
theorem Wq:DK .u64 (ax 74):=by
 intro x0 x1 x2 x3 x4 x5
 refine fO DV _ _ _ ?_
 apply Md <;> assumption
theorem X0:K8 93 (ax 63):=by
 intro x0 x1 x2 x3 x4 x5 x6 x7 x8 x9 x10 x11 x12 x13 x14
 refine UO Ck _ _ _ ?_
 apply (PV Wq) <;> assumption
theorem Ws:KW (ax 81):=by
 intro x0 x1 x2 x3 x4 x5
 refine eX CP _ _ _ ?_
 apply Qk <;> assumption
theorem Vp:Hy 3 (ax 72):=by
 intro x0 x1 x2
 refine eX A8 _ _ _ ?_
 apply (Np Ws) <;> assumption
theorem WV:LX (ax 82):=by
 intro x0 x1 x2 x3 x4 x5 x6 x7
 refine fO BO _ _ _ ?_
 apply Po <;> assumption
theorem cOf:Rn (ax 83):=by
 intro x0 x1 x2 x3 x4
 refine eX Gl _ _ _ ?_
 apply N9 <;> assumption
theorem X4:Ld (ax 84):=by
 intro x0 x1 x2 x3 x4 x5 x6
 refine fO Cb _ _ _ ?_
 apply Ph <;> assumption
theorem YJ:OW (ax 73):=by
 intro x0 x1 x2 x3 x4 x5
 refine fO DZ _ _ _ ?_
 apply (Rh cOf WV X4) <;> assumption
theorem VA:IA 93 (ax 62):=by
 intro x0 x1 x2
 refine Gf AY _ _ _ ?_
 apply (MS (TI:=3) Vp YJ) <;> assumption
theorem UN:Cr (ax 41):=by
 intro x0 x1 x2 x3 x4 x5 x6
 refine eX Fw _ _ _ ?_
 apply (MM VA X0) <;> assumption
theorem UM:JY (ax 42):=by
 intro x0 x1 x2 x3 x4 x5 x6
 refine eX EG _ _ _ ?_
 apply QF <;> assumption
theorem RN:uZ (ax 13):=by
 intro x0 x1 x2 x3 x4 x5 x6
 refine eX DY _ _ _ ?_
 apply (Ku UN UM) <;> assumption
theorem XX:KS (ax 67):=by
 intro x0 x1 x2 x3
 refine eX DT _ _ _ ?_
 apply PD <;> assumption
theorem XG:Ll (ax 53):=by
 intro x0 x1 x2 x3 x4
 refine eX Fz _ _ _ ?_
 apply (Pg XX) <;> assumption
theorem NU:aR.jP 5 1 1 (ax 28):=fun h1 h2 h3 h4 _ hQ=>qE (Go.Ab.aR.QG h1 h2 (Nat.le_refl _) h3 h4 hQ)
theorem YD:aR.OY 5 (ax 26):=by
 intro M a0 cs n v h1 h2 h3 h4 Q hQ
 obtain⟨x0,x1,e,h⟩:=aR.Ri NU h1 h2 h3 h4 hQ
 cases e; exact KV h
theorem YL:aR.Gs 102 (ax 31):=by
 intro x0 x1 x2 x3 x4 x5 x6
 refine eX ME _ _ _ ?_
 apply (aR.Jd NU) <;> assumption
theorem aaX:aR.TG 102 (ax 60):=by
 intro x0 x1 x2 x3 x4 x5 x6 x7
 refine eX xX _ _ _ ?_
 apply aR.Ug <;> assumption
theorem aaR:aR.UF 102 (ax 32):=by
 intro x0 x1 x2 x3 x4 x5 x6 x7 x8 x9
 refine fO Bz _ _ _ ?_
 apply (aR.Ud aaX) <;> assumption
theorem aao:aR.Ui 102 (ax 33):=by
 intro x0 x1 x2 x3 x4 x5 x6 x7
 refine eX BI _ _ _ ?_
 apply aR.Ul <;> assumption
theorem YW:O6 102 (ax 34):=by
 intro x0 x1 x2 x3 x4 x5 x6 x7
 refine eX AU _ _ _ ?_
 apply Rk <;> assumption
theorem Rv:Gx 56 23 3 (ax 27):=by
 intro x0 x1 x2 x3 x4 x5 x6 x7 x8
 refine fO CE _ _ _ ?_
 apply OA <;> assumption
theorem VE:ND (ax 35):=fun h1 h2=>zI (Nl h1 h2)
theorem Ov:pF Try.prog 56:=⟨VX,Try.f56,_,Try.func56,rfl⟩
theorem CO:tC 9 (ax 8):=by
 intro x0 x1 x2 x3 x4 x5 x6 x7
 refine eX AZ _ _ _ ?_
 apply (Qp YL aaR aao YW VE Rv Ov U3) <;> assumption
theorem vZ:Qi 5 23 (ax 7):=by
 intro x0 x1 x2 x3 x4 x5 x6 x7
 refine eX DW _ _ _ ?_
 apply (Uc YD QI Rv Ov Wn Vf) <;> assumption
theorem Km:sH 23 (ax 11):=by
 intro x0 x1 x2 x3 x4 x5 x6
 refine eX yY _ _ _ ?_
 apply IK <;> assumption
theorem VJ:∀ v:Nat,v<2 ^ 64→aR.zK 5 v (ax 40):=by
 intro v
 induction v using Nat.strongRecOn with
 | _ v ih =>
   intro hv M Q hQ
   obtain⟨a0,e,h⟩:=aR.Mw (T:=5) (c:=ax 40) hv (fun w hw=>ih w hw (by omega)) hQ
   cases e; exact DU h
theorem XN:Bl.KT 5 (ax 40):=VJ
theorem O7:uf (ax 12):=by
 intro x0 x1 x2 x3 x4 x5 x6
 refine eX vV _ _ _ ?_
 apply (EZ XN Km UN) <;> assumption
theorem YC:Bl.Tk (ax 75):=by
 intro x0 x1 x2 x3 x4 x5 x6 x7
 refine eX Fb _ _ _ ?_
 apply Tg <;> assumption
theorem WW:Bl.IP (ax 64):=by
 intro x0 x1 x2 x3 x4 x5 x6 x7 x8 x9
 refine fO BA _ _ _ ?_
 apply (Nu YC) <;> assumption
theorem Vz:BL 9 (ax 43):=by
 intro x0 x1 x2 x3 x4 x5 x6 x7
 refine eX A7 _ _ _ ?_
 apply (JM WW UM) <;> assumption
theorem Xg:KG (ax 44):=by
 intro x0 x1 x2 x3 x4 x5 x6 x7 x8 x9 x10
 refine fO Ba _ _ _ ?_
 apply Pf <;> assumption
theorem Vj:HV (ax 14):=by
 intro x0 x1 x2 x3 x4 x5 x6
 refine eX A9 _ _ _ ?_
 apply (MQ CO Vz Xg) <;> assumption
theorem Vq:IM (ax 15):=by
 intro x0 x1 x2 x3 x4 x5 x6
 refine fO Bb _ _ _ ?_
 apply Ni <;> assumption
theorem H7:CZ 71 (ax 9):=by
 intro x0 x1 x2
 refine Gf Ea _ _ _ ?_
 apply EJ <;> assumption
theorem Tp:LK 71 (ax 39):=by
 intro x0 x1 x2 x3 x4 x5 x6 x7 x8
 refine fO uS _ _ _ ?_
 apply UB <;> assumption
theorem HY:Ox 71 5 (ax 22):=by
 intro x0 x1 x2 x3 x4 x5 x6 x7 x8 x9
 refine fO uR _ _ _ ?_
 apply (QJ NZ Td) <;> assumption
theorem Iu:Sj 71 (ax 18):=by
 intro x0 x1 x2 x3 x4 x5 x6 x7 x8 x9 x10 x11
 refine fO uQ _ _ _ ?_
 apply (Ur Vf Tp NZ) <;> assumption
theorem Xf:Cz 71 (ax 25):=by
 intro x0 x1 x2 x3 x4 x5 x6 x7 x8
 refine eX sD _ _ _ ?_
 apply GN <;> assumption
theorem VD:IU (ax 76):=by
 intro x0 x1 x2 x3 x4 x5 x6 x7
 refine fO yF _ _ _ ?_
 apply MX <;> assumption
theorem XK:Li (ax 66):=by
 intro x0 x1 x2 x3 x4 x5 x6 x7
 refine fO uT _ _ _ ?_
 apply (PT VD) <;> assumption
theorem QQ:GK 71 9 (ax 50):=by
 intro x0 x1 x2 x3 x4 x5 x6 x7 x8 x9 x10 x11
 refine fO sI _ _ _ ?_
 apply (OG Tp XK) <;> assumption
theorem SS:ED 71 (ax 21):=by
 intro x0 x1 x2 x3 x4 x5 x6 x7 x8
 refine fO qN _ _ _ ?_
 apply (K7 CO QQ) <;> assumption
theorem Vh:Dp (fun _=>True) (fun x=>!gp x) (oZ (ax) (.fn (.func 52) [] [])):=O9 (fun h=>qU h) XG
theorem YQ:xK (fun _=>True) (fun x=>!gp x) (.fn (.func 52) [] []) (ax 61):=by
 intro x0 x1 x2 x3 x4 x5 x6 x7 x8 x9 x10
 refine fO lD _ _ _ ?_
 apply (Ef Vh) <;> assumption
theorem ZZ:E8 (fun _=>True) (fun x=>!gp x) (.fn (.func 52) [] []) (ax 51):=by
 intro x0 x1 x2 x3 x4 x5 x6 x7 x8 x9 x10 x11
 refine fO rW _ _ _ ?_
 apply (Mf YQ Vh) <;> assumption
theorem Al:PS 71 (ax 23):=by
 intro x0 x1 x2 x3 x4 x5 x6 x7 x8 x9 x10 x11 x12
 refine fO uJ _ _ _ ?_
 apply (QT QQ ZZ) <;> assumption
theorem Df:OL 71 (ax 17):=by
 intro x0 x1 x2 x3 x4 x5 x6 x7 x8 x9 x10 x11 x12
 refine fO uj _ _ _ ?_
 apply (Re CO) <;> assumption
theorem WS {sb n b2:Nat} {f:Str→Option Str} {W:Nat→Prop} : Ky (fun M=>mh 71 M sb f W n∧M.heap b2=some (.row [.ptr sb 0] false 32 0)∧b2<M.next) (isNil f) (.fn (.func 38) [] [.ptr b2 0]) (ax 37):=by
 have hi:xK (fun M=>mh 71 M sb f W n∧M.heap b2=some (.row [.ptr sb 0] false 32 0)∧b2<M.next) (isNil f) (.fn (.func 38) [] [.ptr b2 0]) (ax 61):=by
  have hp:Dp (fun M=>mh 71 M sb f W n∧M.heap b2=some (.row [.ptr sb 0] false 32 0)∧b2<M.next) (isNil f) (oZ (ax) (.fn (.func 38) [] [.ptr b2 0])):=MU (TSt:=71) (TP:=32) (sb:=sb) (n:=n) (b2:=b2) (f:=f) (W:=W) (cv:=ax) (g:=38) (fun h=>qF h) Tp
  intro M v xs Q h1 h2 h3 h4 h5 h6 h7
  obtain⟨a0,a1,e,h⟩:=Ef hp h1 h2 h3 h4 h5 h6 h7
  cases e; exact lD h
 intro M v xs Q h1 h2 h3 h4 h5 h6
 obtain⟨a0,a1,e,h⟩:=Qj hi h1 h2 h3 h4 h5 h6
 cases e; exact qQ h
theorem Xj:Lr 71 (ax 10):=by
 intro x0 x1 x2 x3 x4 x5 x6 x7 x8
 refine fO sw _ _ _ ?_
 apply (Qe CO WS) <;> assumption
end Go.Proofs.Ytpdpipgmdhkomaa.xV
namespace Go.Proofs
open Go.RowKit Go.Maps Go.Sort Go.Shelf
def Try.lKeys_ren:Go.Shelf.Ren:=⟨fun | 7=>55 | 10=>70 | n=>n,fun | 23=>69 | 26=>9 | 3=>23 | 28=>91 | 0=>0 | 27=>90 | 33=>73 | 4=>4 | n=>n,fun | n=>n⟩
theorem Try.lKeys:Go.Proofs.SlLaysZ.n7 Try.prog Try.lKeys_ren where
 mixed:=by kernel_rfl
 f7:=⟨ "maps.Keys[map[string][]byte,string,[]byte]",by decide,Try.func55.trans (congrArg some (by kernel_rfl))⟩
 f10:=⟨ "maps.Keys[map[string][]byte,string,[]byte]$1",by decide,Try.func70.trans (congrArg some (by kernel_rfl))⟩
 t0:=Try.underlying0
 a0:=Try.isAgg0
 z0:=Try.sizeOf0
 v0:=Try.zeroValue0
 t4:=Try.underlying4
 a4:=Try.isAgg4
 z4:=Try.sizeOf4
 v4:=Try.zeroValue4
 t23:=Try.underlying69
 a23:=Try.isAgg69
 z23:=Try.sizeOf69
 v23:=Try.zeroValue69
 t26:=Try.underlying9
 a26:=Try.isAgg9
 z26:=Try.sizeOf9
 v26:=Try.zeroValue9
 t27:=Try.underlying90
 a27:=Try.isAgg90
 z27:=Try.sizeOf90
 v27:=Try.zeroValue90
 t28:=Try.underlying91
 a28:=Try.isAgg91
 z28:=Try.sizeOf91
 v28:=Try.zeroValue91
 t33:=Try.underlying73
 a33:=Try.isAgg73
 z33:=Try.sizeOf73
 v33:=Try.zeroValue73
def Try.lSorted_ren:Go.Shelf.Ren:=⟨fun | 6=>54 | 8=>68 | 9=>69 | 11=>77 | 13=>79 | 12=>78 | 23=>94 | 24=>95 | 14=>85 | 15=>86 | 16=>87 | 17=>88 | 18=>89 | 19=>90 | 20=>91 | 21=>92 | 22=>93 | 25=>96 | 26=>97 | 27=>98 | 28=>99 | 29=>100 | 30=>101 | 31=>102 | n=>n,fun | 26=>9 | 28=>91 | 24=>28 | 0=>0 | 3=>3 | 37=>45 | 48=>93 | 50=>58 | 4=>4 | 40=>136 | 39=>135 | 45=>141 | 5=>5 | 9=>9 | 51=>145 | 55=>149 | 57=>151 | 58=>152 | 33=>73 | n=>n,fun | n=>n⟩
theorem Try.lSorted:Go.Proofs.SlLaysZ.n6 Try.prog Try.lSorted_ren where
 mixed:=by kernel_rfl
 f6:=⟨ "slices.Sorted[string]",by decide,Try.func54.trans (congrArg some (by kernel_rfl))⟩
 f8:=⟨ "slices.Collect[string]",by decide,Try.func68.trans (congrArg some (by kernel_rfl))⟩
 f11:=⟨ "slices.AppendSeq[[]string,string]",by decide,Try.func77.trans (congrArg some (by kernel_rfl))⟩
 t0:=Try.underlying0
 a0:=Try.isAgg0
 z0:=Try.sizeOf0
 v0:=Try.zeroValue0
 t24:=Try.underlying28
 a24:=Try.isAgg28
 z24:=Try.sizeOf28
 v24:=Try.zeroValue28
 t26:=Try.underlying9
 a26:=Try.isAgg9
 z26:=Try.sizeOf9
 v26:=Try.zeroValue9
 t28:=Try.underlying91
 a28:=Try.isAgg91
 z28:=Try.sizeOf91
 v28:=Try.zeroValue91
 i26:=by kernel_rfl
def Try.lSort_ren:Go.Shelf.Ren:=⟨fun | 6=>69 | 8=>79 | 9=>78 | 19=>94 | 20=>95 | 21=>85 | 22=>86 | 23=>87 | 24=>88 | 25=>89 | 26=>90 | 27=>91 | 28=>92 | 29=>93 | 36=>96 | 31=>97 | 32=>98 | 37=>99 | 38=>100 | 39=>101 | 41=>102 | n=>n,fun | 27=>28 | 29=>9 | 3=>3 | 32=>45 | 26=>28 | 0=>0 | 44=>93 | 46=>58 | 4=>4 | 36=>136 | 35=>135 | 41=>141 | 5=>5 | 9=>9 | 53=>145 | 57=>149 | 63=>151 | 64=>152 | n=>n,fun | n=>n⟩
theorem Try.lSort:Go.Proofs.SlLaysM.n6 Try.prog Try.lSort_ren where
 mixed:=by kernel_rfl
 f6:=⟨ "slices.Sort[[]string,string]",by decide,Try.func69.trans (congrArg some (by kernel_rfl))⟩
 f8:=Try.func79.trans (congrArg some (by kernel_rfl))
 f9:=⟨ "slices.pdqsortOrdered[string]",by decide,Try.func78.trans (congrArg some (by kernel_rfl))⟩
 f19:=Try.func94.trans (congrArg some (by kernel_rfl))
 f20:=Try.func95.trans (congrArg some (by kernel_rfl))
 f21:=⟨ "slices.insertionSortOrdered[string]",by decide,Try.func85.trans (congrArg some (by kernel_rfl))⟩
 f22:=⟨ "slices.heapSortOrdered[string]",by decide,Try.func86.trans (congrArg some (by kernel_rfl))⟩
 f23:=⟨ "slices.breakPatternsOrdered[string]",by decide,Try.func87.trans (congrArg some (by kernel_rfl))⟩
 f24:=⟨ "slices.choosePivotOrdered[string]",by decide,Try.func88.trans (congrArg some (by kernel_rfl))⟩
 f25:=⟨ "slices.reverseRangeOrdered[string]",by decide,Try.func89.trans (congrArg some (by kernel_rfl))⟩
 f26:=⟨ "slices.partialInsertionSortOrdered[string]",by decide,Try.func90.trans (congrArg some (by kernel_rfl))⟩
 f27:=⟨ "cmp.Less[string]",by decide,Try.func91.trans (congrArg some (by kernel_rfl))⟩
 f28:=⟨ "slices.partitionEqualOrdered[string]",by decide,Try.func92.trans (congrArg some (by kernel_rfl))⟩
 f29:=⟨ "slices.partitionOrdered[string]",by decide,Try.func93.trans (congrArg some (by kernel_rfl))⟩
 f31:=Try.func97.trans (congrArg some (by kernel_rfl))
 f32:=Try.func98.trans (congrArg some (by kernel_rfl))
 f36:=⟨ "slices.siftDownOrdered[string]",by decide,Try.func96.trans (congrArg some (by kernel_rfl))⟩
 f37:=⟨ "slices.medianAdjacentOrdered[string]",by decide,Try.func99.trans (congrArg some (by kernel_rfl))⟩
 f38:=⟨ "slices.medianOrdered[string]",by decide,Try.func100.trans (congrArg some (by kernel_rfl))⟩
 f39:=⟨ "cmp.isNaN[string]",by decide,Try.func101.trans (congrArg some (by kernel_rfl))⟩
 f41:=⟨ "slices.order2Ordered[string]",by decide,Try.func102.trans (congrArg some (by kernel_rfl))⟩
 t0:=Try.underlying0
 a0:=Try.isAgg0
 z0:=Try.sizeOf0
 v0:=Try.zeroValue0
 t3:=Try.underlying3
 a3:=Try.isAgg3
 z3:=Try.sizeOf3
 v3:=Try.zeroValue3
 t4:=Try.underlying4
 a4:=Try.isAgg4
 z4:=Try.sizeOf4
 v4:=Try.zeroValue4
 t5:=Try.underlying5
 a5:=Try.isAgg5
 z5:=Try.sizeOf5
 v5:=Try.zeroValue5
 t9:=Try.underlying9
 a9:=Try.isAgg9
 z9:=Try.sizeOf9
 v9:=Try.zeroValue9
 t26:=Try.underlying28
 a26:=Try.isAgg28
 z26:=Try.sizeOf28
 v26:=Try.zeroValue28
 t27:=Try.underlying28
 a27:=Try.isAgg28
 z27:=Try.sizeOf28
 v27:=Try.zeroValue28
 t29:=Try.underlying9
 a29:=Try.isAgg9
 z29:=Try.sizeOf9
 v29:=Try.zeroValue9
 t32:=Try.underlying45
 a32:=Try.isAgg45
 z32:=Try.sizeOf45
 v32:=Try.zeroValue45
 t35:=Try.underlying135
 a35:=Try.isAgg135
 z35:=Try.sizeOf135
 v35:=Try.zeroValue135
 t36:=Try.underlying136
 a36:=Try.isAgg136
 z36:=Try.sizeOf136
 v36:=Try.zeroValue136
 t41:=Try.underlying141
 a41:=Try.isAgg141
 z41:=Try.sizeOf141
 v41:=Try.zeroValue141
 t44:=Try.underlying93
 a44:=Try.isAgg93
 z44:=Try.sizeOf93
 v44:=Try.zeroValue93
 t46:=Try.underlying58
 a46:=Try.isAgg58
 z46:=Try.sizeOf58
 v46:=Try.zeroValue58
 t53:=Try.underlying145
 a53:=Try.isAgg145
 z53:=Try.sizeOf145
 v53:=Try.zeroValue145
 t57:=Try.underlying149
 a57:=Try.isAgg149
 z57:=Try.sizeOf149
 v57:=Try.zeroValue149
 t63:=Try.underlying151
 a63:=Try.isAgg151
 z63:=Try.sizeOf151
 v63:=Try.zeroValue151
 t64:=Try.underlying152
 a64:=Try.isAgg152
 z64:=Try.sizeOf152
 v64:=Try.zeroValue152
end Go.Proofs
namespace Go.Proofs.Ytpdpipgmdhkomaa
open Go Go.Ab
theorem Wo:∀ (a0:AV) (M:RM) (Q:aj),Go.Ab.Dk.bM 69 70 a0 M Q=DJ Try.prog Try.f55 [a0] M Q:=by
 intros; kernel_rfl
theorem Ml {a0:AV} {M:RM} {Q:aj} (h:Go.Ab.Dk.bM 69 70 a0 M Q) : ax 55 [a0] M Q:=JC U7 (fn:=Try.f55) (by kernel_rfl) (Wo a0 M Q▸h)
end Go.Proofs.Ytpdpipgmdhkomaa
namespace Go.Ab.Bl
open Go Go.Ab Go.Ab.Sha Go.RowKit Go.Proofs Go.Maps Go.Sort Go.MapKept Go.WideShapes
open Go.WideElems (Fit rg)
open Go.Ab.Dk (lX mF Ee rZ)
open Go.Proofs.Ytpdpipgmdhkomaa
theorem Vm (m:Nat) : AnyZ.SortsIn Try.prog Try.lSorted_ren Fence.wide m :=
 ⟨fun blk off cap ss W hH hblk hsz=>callsIn_wide.2 (AnyM.slices_Sort_string Try.lSort blk off cap ss W hH hblk hsz),
  fun p cap W=>callsIn_wide.2 (AnyM.slices_Sort_string_none Try.lSort p cap W)⟩
def JL:Value→Option (DataW Unit × List MemPlace):=fun _=>some (.nil,[])
theorem fits {ρ:Ren} {cl:Nat} : ∀ {T:List eF} {fs:List MapEntry},T.Pairwise (fun a b=>a.2.2<b.2.2)→(∀ t∈T,t.2.2<cl)→bD ρ (T.map eQ) fs →
  (fs.map (·.key))=T.map (fun t=>encStr t.1)∧(∀ x∈fs,x.born<cl∧∃ t∈T,x.born=t.2.2)∧(fs.map (·.born)).Nodup∧fs.length=T.length
 | [],[],_,_,_=>⟨rfl,by simp,by simp,rfl⟩
 | t :: T,f :: fs,h1,h2,hr=>by
   obtain⟨r1,r2,r3,r4⟩:=hr
   rw[List.pairwise_cons] at h1
   obtain⟨a1,a2,a3,a4⟩:=fits h1.2 (fun x hx=>h2 x (List.mem_cons_of_mem _ hx)) r4
   have r3:f.born=t.2.2:=r3
   obtain⟨hk,_⟩:=aF r1
   refine⟨?_, ?_, ?_, ?_⟩
   ·simp only[List.map_cons,a1]
    rw[hk]
   ·intro y hy
    rcases List.mem_cons.1 hy with rfl | hy
    ·rw[r3]; exact⟨h2 t (List.mem_cons_self ..),t,List.mem_cons_self ..,rfl⟩
    ·obtain⟨b1,x,b2,b3⟩:=a2 y hy; exact⟨b1,x,List.mem_cons_of_mem _ b2,b3⟩
   ·rw[List.map_cons,List.nodup_cons]
    refine⟨fun hm=>?_,a3⟩
    obtain⟨y,hy,he⟩:=List.mem_map.1 hm
    obtain⟨_,x,hx,hxe⟩:=a2 y hy
    have:=h1.1 x hx
    omega
   ·simp[a4]
theorem strKeys_perm {fs:List MapEntry} {d:List eF} (hk:fs.map (·.key)=d.map (fun e=>encStr e.1)) (hl:∀ n∈iT d,n.length≤64) :
  (strKeys (.map ((fs.map (rg (H:=Unit) Try.prog 9 JL)).foldr DataW.insert []))).Perm (iT d):=by
 have h1:((fs.map (rg (H:=Unit) Try.prog 9 JL)).foldr DataW.insert []).Perm (fs.map (rg (H:=Unit) Try.prog 9 JL)):=sorted_perm _
 refine(h1.map _).trans ?_
 clear h1
 induction fs generalizing d with
 | nil =>
   cases d with
   | nil=>exact .refl _
   | cons=>simp at hk
 | cons f fs ih =>
   cases d with
   | nil=>simp at hk
   | cons x d =>
     simp only[List.map_cons,List.cons.injEq] at hk
     have e:strOf (rg (H:=Unit) Try.prog 9 JL f).1=x.1:=by
      have hle:x.1.length≤64:=hl _ (by simp[iT])
      have:keyOf Try.prog 9 f.key=some (.string x.1):=by
       rw[hk.1]
       unfold keyOf mapKey
       simp only[Try.underlying9,encStr]
       rw[if_pos (by show x.1.length≤maxLen; unfold maxLen; omega)]
      unfold rg Go.WideElems.rd
      rw[this]; rfl
     simp only[iT,List.map_cons,e]
     exact .cons _ (ih hk.2 fun n hn=>hl n (List.mem_cons_of_mem _ hn))
theorem JH (ρ:Ren) : ∀ l:List Str,aJ ρ (l.map fun s=>St s) (l.map encStr)
 | []=>.nil
 | s :: l=>.cons _ _ _ _ (.sc _ rfl) (JH ρ l)
theorem Vx {P:Program} {ρ:Ren} {M:RM} {w:World} (hw:bn P ρ M w) {b:Nat} {i:eu} {l:List AV} {p:Bool} {e f:Nat} (hb:ρ b=some i) (hh:M.heap b=some (.row l p e f)) : i.sh=0:=by
 obtain⟨A,hA⟩:=hw
 rcases hA.blk b _ hh with⟨y,hy,hr⟩ | ⟨c,he,_⟩
 ·obtain⟨o,_,ho⟩:=hA.rel.blk b i y hb hy
  cases y with
  | row n t z op el fz=>obtain⟨c,fr,_,hrow⟩:=ho; exact hrow.sh0
  | map=>exact hr.elim
  | iter=>exact hr.elim
  | iM=>exact hr.elim
 ·cases he
theorem sorted {TM:Nat} : H8 9 TM 70 (ax 54):=by
 intro M m b cl d Q hmh SL aaT hh hlt hlen hQ
 have hwf:(iT d).Nodup∧∀ n∈iT d,n.length≤64:=⟨SL.nodup,fun n hn=>by
  obtain⟨t,ht,rfl⟩:=List.mem_map.1 hn
  rw[aaT t ht]; omega⟩
 refine gy.XE (T:=9) (n:=(lX (iT d)).length) (cs:=(lX (iT d)).map fun s=>St s) ⟨Try.f54,_,Try.func54,rfl⟩ (by kernel_rfl) (by simp[oneCell]) (by simp) (fun ρ w us hus hw=>?_) (fun v M' o k=>hQ v M' (by rw[← VR] at o; exact o) k)
 cases hus with
 | cons _ u1 _ us r1 hus =>
 cases hus
 cases r1 with
 | fn _ _ _ us1 vs1 hp q1 q2 =>
 cases q1
 cases q2 with
 | cons _ u2 _ us r2 q3 =>
 cases q3
 obtain⟨i,hbi,rfl⟩:=bV r2
 have hsh:=Vx hw hbi hh
 obtain⟨u,hu,hcell⟩:=CK hw hbi (show M.loads b 0 1=some [.map m] by rw[RM.Mt hh]; rfl)
 cases hu with
 | map _ j hmj =>
 obtain⟨A,hA⟩:=hw
 obtain⟨fs,hob,hfs⟩:=BG hA hmj hmh
 obtain⟨a1,a2,a3,a4⟩:=fits SL.up SL.lt hfs
 rw[hsh] at hcell
 rw[hsh]
 have hdl:fs.size=d.length:=by rw[← a4]; simp
 have aaY:Fit (H:=Unit) Try.prog 9 JL fs cl:=by
  refine⟨by rw[hdl]; unfold maxLen; omega,⟨fun x hx=>(a2 x hx).1,a3, ?_⟩,fun x hx=>?_⟩
  ·rw[a1]
   have:=hwf.1
   have e:d.map (fun e=>encStr e.1)=(iT d).map encStr:=by simp[iT]
   rw[e]
   exact List.Pairwise.map _ (fun a b h h2=>h (encStr_inj h2)) this
  ·have hxk:x.key∈fs.toList.map (·.key):=List.mem_map_of_mem hx
   rw[a1] at hxk
   obtain⟨y,hy,hye⟩:=List.mem_map.1 hxk
   have hle:=hwf.2 y.1 (List.mem_map_of_mem hy)
   refine⟨(.string y.1,.nil), ?_⟩
   unfold Go.WideElems.rd
   have:keyOf Try.prog 9 x.key=some (.string y.1):=by
    rw[← hye]
    unfold keyOf mapKey
    simp only[Try.underlying9,encStr]
    rw[if_pos (by show y.1.length≤maxLen; unfold maxLen; omega)]
   rw[this]; rfl
 have hown:w.ownsMap Try.prog 9 JL j.cb fs.size (.map ((fs.toList.map (rg (H:=Unit) Try.prog 9 JL)).foldr DataW.insert [])):=⟨fs,cl,hob,aaY,Nat.le_refl _,rfl⟩
 have hsz:Maps.size (DataW.map ((fs.toList.map (rg (H:=Unit) Try.prog 9 JL)).foldr DataW.insert []))=d.length:=by
  rw[size_eq,length_sorted,List.length_map,a4]
 have hil:=hA.rel.dom b i hbi
 have hseq:SeqGives Fence.wide 2 Try.prog 70 #[.pointer (some ⟨i.cb,0,none⟩)] encStr _ _ w:=AnyZ.keys_gives (ρ:=Try.lKeys_ren) { Try.lKeys with } Fence.wide _ trivial rfl (by omega) i.cb j.cb fs.size _ w hil.2 hcell hown
 refine(callsIn_wide (n:=5)).1 ?_
 have cS:=AnyZ.sorted_in Try.lSorted Fence.wide 5 trivial trivial trivial trivial rfl (by omega) (Vm _) (enters_of Try.func69 (by kernel_rfl) rfl) 70 #[.pointer (some ⟨i.cb,0,none⟩)] trivial (enters_of Try.func70 (by kernel_rfl) rfl) _ _ (by rw[hsz]; unfold maxLen; omega) (by rw[hsz]; omega) _ hseq
 change CallsIn _ _ Try.prog 54 _ _ _ at cS
 refine cS.mono ?_
 rintro e w' ⟨v,ss,rfl,hS,hrow,hnil,hb⟩
 have hperm:ss.Perm (iT d):=hS.trans (strKeys_perm a1 hwf.2)
 rw[Ee hperm] at hrow
 have hl:ss.length=(lX (iT d)).length:=by rw[hperm.length_eq,(rZ _).length_eq]
 rw[hl] at hrow
 exact⟨v,_,rfl,hrow,fun ρ'=>JH ρ' _,hb⟩
theorem YU:Pb 69 70 (ax 55):=by
 intro M m Q hQ
 refine Ml ?_
 unfold Go.Ab.Dk.bM
 refine⟨rfl,by show 1≤1; decide, ?_⟩
 dsimp only
 rw[aN]
 exact hQ
end Go.Ab.Bl
namespace Go.Proofs.Ytpdpipgmdhkomaa.xV
open Go Go.Ab Go.Ab.Sha Go.Ab.Bl Go.RowKit Go.Proofs Go.Proofs.Ytpdpipgmdhkomaa
theorem QA:CJ 71 9 (ax 24):=by
 intro x0 x1 x2 x3 x4 x5 x6 x7 x8
 refine eX sJ _ _ _ ?_
 apply (JR YU sorted) <;> assumption
theorem WG:GJ (ax 6):=by
 intro x0 x1 x2
 refine Gf AX _ _ _ ?_
 apply Ps (TSt:=71) (T8:=5) (TB:=23) (TS:=9) (T32:=0) { ph:=Vq,cut:=vZ,new:=H7,miss:=SS,put:=Iu,UX:=Xj,get:=HY,nm:=CO,n2:=RN,want:=Al,keep:=Df,ns:=QA,by_:=Xf } <;> assumption
theorem Yi:Vg (ax 4):=by
 intro x0 x1 x2 x3 x4 x5 x6 x7 x8 x9
 refine fO wN _ _ _ ?_
 apply (RD WG vZ Km O7 RN Vj) <;> assumption
theorem Q5 {P:Program} {M:RM} {t e:TypeId} {v:AV} (h:Fits P M t [v]) (hu:P.underlying t=some (.slice e)) (hz:0<P.cellsOf e) : Bt v:=by
 generalize hc:[v]=cs at h
 cases h with
 | OP _ e' h1=>cases hc; trivial
 | emp _ e' b h1=>cases hc; trivial
 | slc _ e' b o n c ds h1 h2 h3 h4 h5 h6=>cases hc; exact h3
 | zero _ e' _ h1 h2=>rw[hu] at h1; cases h1; omega
 | _=>simp_all [CW]
theorem cells5:Try.prog.cellsOf 5=1:=by kernel_rfl
theorem XW:Try.prog.bytesOf 5=1:=by kernel_rfl
theorem VM {M:RM} {cs:List AV} (h:Fits Try.prog M 5 cs) : ∃ k:UInt8,cs=[By k]:=by
 obtain⟨n,rfl,h1,h2⟩:=h.VU Try.underlying5
 have h1:(0:Int)≤n:=h1
 have h2:n≤(255:Int):=h2
 refine⟨UInt8.ofNat n.toNat, ?_⟩
 have:((UInt8.ofNat n.toNat).toNat:Int)=n:=by
  rw[UInt8.toNat_ofNat']
  omega
 rw[By,this]
theorem Gu {M:RM} {cs:List AV} (h:Fits Try.prog M 23 cs) : ∃ v,∃ bs:Str,cs=[v]∧Bs M v bs∧bs.length≤140737488355328:=by
 obtain⟨v,n,ds,rfl,hs,hb,he⟩:=h.Rl Try.underlying23 (by rw[cells5]; decide)
 have hc:=Q5 h Try.underlying23 (by rw[cells5]; decide)
 rw[cells5] at hs he
 rw[XW] at hb
 obtain⟨xs,rfl,rfl,_⟩:=JA (size:=1) BY.cells (fun _=>True) (fun _=>rfl) n ds hs.length fun i hi=>by
  obtain⟨k,e⟩:=VM (he i hi)
  exact⟨k,trivial,e⟩
 exact⟨v,xs,rfl,⟨hs,hc⟩,Nat.le_trans (by omega) (show reachBytes≤140737488355328 by decide)⟩
end Go.Proofs.Ytpdpipgmdhkomaa.xV
namespace Go.Proofs.Ytpdpipgmdhkomaa.blobsCut
open Go Go.Ab Go.ChangeShapes Go.WideShapes Go.ChangeAt Go.RowKit
theorem own:ownKnob Try.prog.godebug=none:=by kernel_rfl
open Go.Ab.Sha Go.Ab.Bl Go.Proofs.Ytpdpipgmdhkomaa.xV
def base (w:World) : Base:=Base.any w.heap.size
theorem walk (w:World) (v0 v1:Value) (h0:oJ Try.prog (RM.old (base w) w) 23 (ul w.heap.size v0)) (h1:oJ Try.prog (RM.old (base w) w) 23 (ul w.heap.size v1)) :
  Calls Try.prog 4 #[v0,v1] w fun e w'=>e=.returned (.bool true)∧Below w.heap.size w w':=by
 obtain⟨u0,b0,e0,g0,_⟩:=Gu (h0.one (by kernel_rfl))
 obtain⟨u1,b1,e1,g1,g2⟩:=Gu (h1.one (by kernel_rfl))
 refine gy.close (base:=base w) rfl trivial ?_
 simp only[List.map_cons,List.map_nil]
 rw[show ul (base w).n v0=u0 from(List.cons.inj e0).1,show ul (base w).n v1=u1 from(List.cons.inj e1).1]
 exact Yi (M:=RM.old (base w) w) (Q:=fun v _=>v=Bo true) g0 g1 g2 (fun M'=>rfl)
set_option maxRecDepth 100000 in
theorem lifted (os:Os) (started:os.Started) (H:Type) (enc:TypeId × Value→H) :
  ReturnsInHanded {} Try.checked os 4 .any (Rows.blobsCutSpec.pre6 enc Try.prog Try.f4 Rows.blobsCutRow.domain false) (Rows.blobsCutSpec.post enc Try.prog Try.f4 false true false false):=by
 refine returnsInHanded_of_change_sized (C:=Try.checked) own started (by kernel_rfl) Try.func4
  (ChangeSpec.witness6 (enc:=enc) (C:=Try.checked) false ⟨#[],#[.slice none 0 0,.slice none 0 0],[]⟩ 8 (by kernel_rfl) (by kernel_rfl) (by kernel_rfl) (by kernel_rfl)) ?_
 intro W b0 args ds gs before hval hW hcnd hwt _
 have hW':=hW
 obtain⟨p,q,hA,hV,rfl,hfz,hnd⟩:=hW
 rw[Try.params4] at hA hwt
 obtain⟨rfl,rfl⟩:=trodVars_none hV
 have hfit:=Mi (base:=base W) rfl hA (fun j t v hj hv=>hval j t v (by rw[Try.params4]; simpa using hj) (by simpa using hv)) (fun y hy=>by
  have aac:(DataW.weightsEach Try.prog [23,23] (ds++[])).all (· ≤ reachBytes)=true:=hwt
  have:=List.all_eq_true.1 aac y (by rw[List.append_nil]; exact hy)
  simpa using this)
 simp only[List.append_nil] at hW'
 have hlt:∀ x∈p,x.block<W.heap.size:=fun x hx=>hW'.lt x hx
 obtain⟨v0,v1,d0,d1,p0,p1,rfl,rfl,rfl,h0,h1⟩:=trodAll_two hA
 refine(walk W v0 v1 (hfit 0 _ _ rfl rfl) (hfit 1 _ _ rfl rfl)).mono fun e W' ⟨he,hg⟩=>?_
 subst he
 exact⟨_,rfl,JW (pa:=_) (pv:=[]) hW' (fun _ _ _=>(trodAll_cons_mk (shut_bool Try.underlying4 _) trodAll_mk0)) (fun sp hsp=>by
   rw[Try.params4]
   exact Ay (by kernel_rfl) hg (fun t ht=>by
    have ht:t=23∨t=23:=by simpa using ht
    rcases ht with rfl | rfl <;> exact⟨by kernel_rfl,of_decide_eq_true (by kernel_rfl)⟩) hA hlt hsp) (fun _ _=>rfl) (by simp)
  hg (ok_one (by kernel_rfl) rfl (okWide_bool_mk Try.underlying4 _))⟩
theorem over:Rows.blobsCutRow.holds Try.pinned (OpenSpec.ofChange Rows.blobsCutSpec) :=
 OpenClaim.holds_of_wide 4 Try.f4 rfl rfl rfl rfl rfl rfl rfl ⟨rfl,rfl,rfl,rfl,rfl⟩ rfl rfl rfl rfl rfl (by kernel_rfl) Try.func4 (by kernel_rfl)
  (of_decide_eq_true (by kernel_rfl)) (by unfold Func.isWrapper; first | (rw[if_pos (by decide +kernel)]; kernel_rfl) | (rw[if_neg (by decide +kernel)]; exact⟨rfl,rfl⟩))
  (fun os started H enc _=>lifted os started H enc)
theorem proved:Rows.BlobsCutSaid :=
 over
end Go.Proofs.Ytpdpipgmdhkomaa.blobsCut
