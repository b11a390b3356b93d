/- 'BlobsKnown' returns true, in whatever world it is called: the examples of chapter 16 answer as they are told. No condition. By an AI agent. -/
import Derived.Test.YtpdpipgmdhkomaaBlk5
import Derived.KernelRfl
import Derived.Test.YtpdpipgmdhkomaaProg
import Derived.RangeFuncBox
import Derived.RangeFuncLeaves
import Derived.Shelf.Abstract
import Derived.Shelf.RegionOpen
import Derived.WalkKit
import Derived.OwnWalkIn
import Derived.TacticsInMore
import Derived.LoopNIn
import Derived.LoopIn
import Derived.Shelf.SlIter.Nil
import Derived.Shelf.SortM.Plain
import Derived.Shelf.SortM.SortNone
import Derived.Ground.GgzProg
import Derived.Ground.SlgmProg
import Derived.WideShapes
import Derived.Test.YtpdpipgmdhkomaaRows
import Derived.SizedLaws
import Derived.JoinedOf
import Derived.Carry
import Derived.ProofKit
import Derived.OpenShut
set_option maxRecDepth 100000
set_option linter.unusedVariables false
set_option linter.unusedSimpArgs false
namespace Go.Proofs.Ytpdpipgmdhkomaa
open Go Go.Ab
abbrev ax := @fD Try.prog
theorem TG:qI Try.prog:=⟨RP (by kernel_rfl),by kernel_rfl⟩
theorem bJ {f:FuncId} {fn:Func} {args:List AV} {M:RM} {Q:ah} {B:Prop} (h:B) (hfn:Try.prog.funcs[f]?=some fn:=by kernel_rfl) (e:B=Co Try.prog fn args M Q:=by kernel_rfl) : ax f args M Q:=Hw TG hfn (e▸h)
variable {a0 a1 a2 a3 a4 a5 a6 a7:AV} {M:RM} {Q:ah}
theorem sI (h:Go.Ab.Bl.kN (ax 6) 5 (ax 7) (ax 8) (ax 9) (ax 10)  M Q) : ax 3 [] M Q:=bJ (fn:=Try.f3) h
theorem zT (h:Go.Ab.Bl.qG (ax 15) (ax 7) (ax 9) (ax 21) (ax 18) (ax 10) (ax 22) (ax 8) 5 (ax 13) 9 (ax 23) (ax 17) (ax 24) (ax 25)  M Q) : ax 6 [] M Q:=bJ (fn:=Try.f6) h
theorem Ll:∀ (a0:AV) (M:RM) (Q:ah),Go.Ab.Bl.pX (ax 26) 23 24 (ax 28) (ax 27) (oZ Try.prog) (ax 29) 62 5 (ax 30) a0 M Q=Cz Try.prog Try.f7 [a0] M Q:=by
 intros; kernel_rfl
theorem CL {a0:AV} {M:RM} {Q:ah} (h:Go.Ab.Bl.pX (ax 26) 23 24 (ax 28) (ax 27) (oZ Try.prog) (ax 29) 62 5 (ax 30) a0 M Q) : ax 7 [a0] M Q:=EZ TG (fn:=Try.f7) (by kernel_rfl) (Ll a0 M Q▸h)
theorem IM:∀ (a0:AV) (M:RM) (Q:ah),Go.Ab.Bl.mI (ax 31) (ax 32) (ax 33) (ax 34) (ax 35) 28 (ax 27) (oZ Try.prog) (ax 36) 9 a0 M Q=Cz Try.prog Try.f8 [a0] M Q:=by
 intros; kernel_rfl
theorem zR {a0:AV} {M:RM} {Q:ah} (h:Go.Ab.Bl.mI (ax 31) (ax 32) (ax 33) (ax 34) (ax 35) 28 (ax 27) (oZ Try.prog) (ax 36) 9 a0 M Q) : ax 8 [a0] M Q:=EZ TG (fn:=Try.f8) (by kernel_rfl) (IM a0 M Q▸h)
theorem CO (h:Go.Ab.Bl.uZ 71  M Q) : ax 9 [] M Q:=bJ (fn:=Try.f9) h
theorem rq (h:Go.Ab.Bl.kE 32 (ax 8) 38 (ax 37) 5 a0 a1 M Q) : ax 10 [a0,a1] M Q:=bJ (fn:=Try.f10) h
theorem CP (h:Go.Ab.Sha.vD (ax 41) 62 (ax 42) a0 M Q) : ax 13 [a0] M Q:=bJ (fn:=Try.f13) h
theorem zS (h:Go.Ab.Bl.qD 5 a0 a1 M Q) : ax 15 [a0,a1] M Q:=bJ (fn:=Try.f15) h
theorem sO (h:Go.Ab.Bl.lm (ax 8) a0 a1 M Q) : ax 17 [a0,a1] M Q:=bJ (fn:=Try.f17) h
theorem uh (h:Go.Ab.Bl.lX (ax 30) (ax 39) (ax 46) a0 a1 M Q) : ax 18 [a0,a1] M Q:=bJ (fn:=Try.f18) h
theorem qh (h:Go.Ab.Bl.jE 9 (ax 8) (ax 50) a0 a1 M Q) : ax 21 [a0,a1] M Q:=bJ (fn:=Try.f21) h
theorem uj (h:Go.Ab.Bl.lS (ax 46) a0 a1 M Q) : ax 22 [a0,a1] M Q:=bJ (fn:=Try.f22) h
theorem r9 (h:Go.Ab.Bl.kM (ax 50) (ax 51) 52 a0 a1 M Q) : ax 23 [a0,a1] M Q:=bJ (fn:=Try.f23) h
theorem qQ (h:Go.Ab.Bl.kC (ax 55) (ax 54) a0 M Q) : ax 24 [a0] M Q:=bJ (fn:=Try.f24) h
theorem rC (h:Go.Ab.Bl.ku a0 M Q) : ax 25 [a0] M Q:=bJ (fn:=Try.f25) h
theorem J5 (h:Go.Ab.aP.JM (ax 28) 5 a0 a1 M Q) : ax 26 [a0,a1] M Q:=bJ (fn:=Try.f26) h
theorem AZ (h:Go.Ab.Bl.tK 23 3 9 56 a0 a1 M Q) : ax 27 [a0,a1] M Q:=bJ (fn:=Try.f27) h
theorem qd (h:Go.Ab.aP.rV 5 a0 M Q) : ax 28 [a0] M Q:=bJ (fn:=Try.f28) h
theorem FI (h:Go.Ab.Sha.BD 62 (ax 57) 94 (ax 58) 97 (ax 59) (ax 28) 5 a0 M Q) : ax 29 [a0] M Q:=bJ (fn:=Try.f29) h
theorem A7 (h:Go.Ab.Bl.sS (ax 29) (ax 36) a0 M Q) : ax 30 [a0] M Q:=bJ (fn:=Try.f30) h
theorem Kq (h:Go.Ab.aP.Jv (ax 28) 102 a0 M Q) : ax 31 [a0] M Q:=bJ (fn:=Try.f31) h
theorem Bj (h:Go.Ab.aP.rU (ax 60) a0 a1 M Q) : ax 32 [a0,a1] M Q:=bJ (fn:=Try.f32) h
theorem AP (h:Go.Ab.aP.tT a0 M Q) : ax 33 [a0] M Q:=bJ (fn:=Try.f33) h
theorem zV (h:Go.Ab.Bl.qC a0 M Q) : ax 34 [a0] M Q:=bJ (fn:=Try.f34) h
theorem xE (h:Go.Ab.Bl.oO a0 M Q) : ax 35 [a0] M Q:=bJ (fn:=Try.f35) h
theorem FL (h:Go.Ab.Sha.AL 62 5 a0 M Q) : ax 36 [a0] M Q:=bJ (fn:=Try.f36) h
theorem qb (h:Go.Ab.Bl.jy (ax 61) a0 a1 M Q) : ax 37 [a0,a1] M Q:=bJ (fn:=Try.f37) h
theorem qj (h:Go.Ab.Bl.jG (ax 39) a0 a1 M Q) : ax 38 [a0,a1] M Q:=bJ (fn:=Try.f38) h
theorem ui (h:Go.Ab.Bl.lT a0 a1 M Q) : ax 39 [a0,a1] M Q:=bJ (fn:=Try.f39) h
theorem En (h:Go.Ab.Sha.yF 62 (ax 62) 5 (ax 63) a0 M Q) : ax 41 [a0] M Q:=bJ (fn:=Try.f41) h
theorem Ep (h:Go.Ab.Sha.xN 5 a0 M Q) : ax 42 [a0] M Q:=bJ (fn:=Try.f42) h
theorem oK (h:Go.Ab.Bl.mF 5 a0 M Q) : ax 46 [a0] M Q:=bJ (fn:=Try.f46) h
theorem rE (h:Go.Ab.Bl.kw (ax 39) (ax 66) 9 a0 a1 M Q) : ax 50 [a0,a1] M Q:=bJ (fn:=Try.f50) h
theorem qO (h:Go.Ab.Bl.kD (ax 61) (ax) a0 a1 M Q) : ax 51 [a0,a1] M Q:=bJ (fn:=Try.f51) h
theorem qB (h:Go.Ab.Bl.jK (ax 53) 62 a0 M Q) : ax 52 [a0] M Q:=bJ (fn:=Try.f52) h
theorem DF (h:Go.Ab.Sha.yC 62 (ax 67) a0 M Q) : ax 53 [a0] M Q:=bJ (fn:=Try.f53) h
theorem wF (h:Go.Ab.Sha.nZ 94  M Q) : ax 57 [] M Q:=bJ (fn:=Try.f57) h
theorem CG (h:Go.Ab.Sha.vL 97  M Q) : ax 58 [] M Q:=bJ (fn:=Try.f58) h
theorem vO (h:Go.Ab.Sha.mM 94 (ax 71) 97 a0 a1 a2 M Q) : ax 59 [a0,a1,a2] M Q:=bJ (fn:=Try.f59) h
theorem wJ (h:Go.Ab.aP.nN a0 M Q) : ax 60 [a0] M Q:=bJ (fn:=Try.f60) h
theorem kY (h:Go.Ab.Bl.kX (ax) a0 a1 M Q) : ax 61 [a0,a1] M Q:=bJ (fn:=Try.f61) h
theorem zQ (h:Go.Ab.Sha.qz (ax 72) 93 (ax 73)  M Q) : ax 62 [] M Q:=bJ (fn:=Try.f62) h
theorem Ad (h:Go.Ab.Sha.tO 94 (ax 74) 93 a0 a1 a2 M Q) : ax 63 [a0,a1,a2] M Q:=bJ (fn:=Try.f63) h
theorem ug (h:Go.Ab.Bl.lW (ax 76) a0 a1 M Q) : ax 66 [a0,a1] M Q:=bJ (fn:=Try.f66) h
theorem CF (h:Go.Ab.Sha.uW a0 M Q) : ax 67 [a0] M Q:=bJ (fn:=Try.f67) h
theorem Ec (h:Go.Ab.Sha.xV (ax 80) a0 a1 M Q) : ax 71 [a0,a1] M Q:=bJ (fn:=Try.f71) h
theorem zP (h:Go.Ab.Sha.qx 3 (ax 81) a0 M Q) : ax 72 [a0] M Q:=bJ (fn:=Try.f72) h
theorem CJ (h:Go.Ab.Sha.vT (ax 83) (ax 82) 130 (ax 84) a0 a1 M Q) : ax 73 [a0,a1] M Q:=bJ (fn:=Try.f73) h
theorem CK (h:Go.Ab.Sha.u7 a0 a1 M Q) : ax 74 [a0,a1] M Q:=bJ (fn:=Try.f74) h
theorem zF (h:Go.Ab.Bl.oW a0 a1 M Q) : ax 76 [a0,a1] M Q:=bJ (fn:=Try.f76) h
theorem oF (h:Go.Ab.Sha.iF a0 a1 M Q) : ax 80 [a0,a1] M Q:=bJ (fn:=Try.f80) h
theorem Au (h:Go.Ab.Sha.sj a0 M Q) : ax 81 [a0] M Q:=bJ (fn:=Try.f81) h
theorem Bb (h:Go.Ab.Sha.su 130 a0 a1 M Q) : ax 82 [a0,a1] M Q:=bJ (fn:=Try.f82) h
theorem EO (h:Go.Ab.Sha.BH 130 a0 M Q) : ax 83 [a0] M Q:=bJ (fn:=Try.f83) h
theorem Bh (h:Go.Ab.Sha.rZ 130 a0 a1 M Q) : ax 84 [a0,a1] M Q:=bJ (fn:=Try.f84) h
end Go.Proofs.Ytpdpipgmdhkomaa
namespace Go.Proofs.Ytpdpipgmdhkomaa
open Go Go.Ab Go.Proofs Go.RowKit Go.Shelf
attribute [local go_sem] Oper.semAt_some
set_option maxHeartbeats 4000000 in
theorem Uv:Mr Try.prog 56:=by
 intro l J p2 p3 a len cap n hn0 hn1 hcap hlen hz1 hz2 hI hdr hY W h0
 have hmix:Try.prog.follows .mixedOrders=true:=by kernel_rfl
 refine callsIn_of_wp Try.func56 rfl trivial ?_ rfl
 simp only[Try.ntmps56,List.size_toArray,List.length_cons,List.length_nil,Nat.reduceAdd,Nat.reduceSub,Array.replicate_succ,Array.replicate_zero,List.push_toArray,List.append_toArray,List.nil_append,List.cons_append]
 gi_wp2
 gi_loopw [4] (fun i wr=>∃ k:Nat,k * n<len + n∧i=.int .i64 (k * n:Nat)∧J k wr) (fun i _=>len + n - (intOf i).toNat)
 case atStart=>exact⟨0,by omega,by simp,h0⟩
 case round =>
  obtain⟨k,hk,rfl,hJ⟩:=hrel
  obtain⟨hc2,hc3⟩:=hI k wr hJ
  obtain⟨i,hi⟩ : ∃ i,k * n=i:=⟨_,rfl⟩
  have hYk:=hY k wr.drew
  rw[hi] at hk hYk ⊢
  by_cases hlt:i<len
  ·obtain⟨ad,rfl⟩ : ∃ ad,a=some ad:=by
    cases a with
    | none=>have:=hz1 rfl; omega
    | some ad=>exact⟨ad,rfl⟩
   obtain⟨hd2,hd3⟩:=hI k wr.drew (hdr k wr hJ)
   obtain⟨fn,tmps,assign,body,hy,hR⟩:=hYk hlt (hdr k wr hJ)
   have hle:i≤len:=by omega
   have hle2:i≤cap:=by omega
   gi_wp2
   gi_region
   have hmin:(if len - i<n then((len - i:Nat) : Int) else(n:Int))=((min n (len - i) : Nat) : Int):=by
    split
    ·rw[Nat.min_eq_right (by omega)]
    ·rw[Nat.min_eq_left (by omega)]
   first
    | rw[hmin]
    | rw[show min (n:Int) ((len - i:Nat) : Int)=((min n (len - i) : Nat) : Int) by omega]
   obtain⟨h,hh⟩ : ∃ h,min n (len - i)=h:=⟨_,rfl⟩
   rw[hh] at hy ⊢
   have hm1:i + h≤len:=by omega
   have hm2:i + h≤cap:=by omega
   have hm3:h=n∨i + h=len:=by omega
   simp only[Option.map_some] at hy
   gi_wp2
   refine⟨rfl,hR.mono ?_⟩
   rintro e W3 ⟨rfl,hJ3⟩
   obtain⟨hd4,hd5⟩:=hI (k + 1) W3 hJ3
   gi_wp2
   go_roundw
   case rel=>exact⟨k + 1,by rw[Nat.add_mul,hi]; omega,by rw[Nat.add_mul,hi]; simp,hJ3⟩
   case measure=>simp[intOf]; omega
  ·gi_wp2
   refine bodyPost_end (results_none rfl _ _ _) rfl ?_
   exact⟨⟨_,rfl⟩,k,by omega,hJ⟩
end Go.Proofs.Ytpdpipgmdhkomaa
namespace Go.Proofs.Ytpdpipgmdhkomaa.F9
open Go Go.Ab Go.Ab.Sha Go.Ab.Bl Go.RowKit Go.Proofs Go.Proofs.Ytpdpipgmdhkomaa
theorem Cf {f:FuncId} {W:RM→ah→Prop} (h:∀ {M:RM} {Q:ah},W M Q→ax f [] M Q) : ∀ args M Q,(args=[]∧W M Q)→ax f args M Q:=by
 rintro args M Q ⟨rfl,k⟩; exact h k
theorem fU {f:FuncId} {W:AV→RM→ah→Prop} (h:∀ {a0:AV} {M:RM} {Q:ah},W a0 M Q→ax f [a0] M Q) : ∀ args M Q,(∃ a0,args=[a0]∧W a0 M Q)→ax f args M Q:=by
 rintro args M Q ⟨a0,rfl,k⟩; exact h k
theorem gG {f:FuncId} {W:AV→AV→RM→ah→Prop} (h:∀ {a0 a1:AV} {M:RM} {Q:ah},W a0 a1 M Q→ax f [a0,a1] M Q) : ∀ args M Q,(∃ a0 a1,args=[a0,a1]∧W a0 a1 M Q)→ax f args M Q:=by
 rintro args M Q ⟨a0,a1,rfl,k⟩; exact h k
theorem Tw {f:FuncId} {W:AV→AV→AV→RM→ah→Prop} (h:∀ {a0 a1 a2:AV} {M:RM} {Q:ah},W a0 a1 a2 M Q→ax f [a0,a1,a2] M Q) : ∀ args M Q,(∃ a0 a1 a2,args=[a0,a1,a2]∧W a0 a1 a2 M Q)→ax f args M Q:=by
 rintro args M Q ⟨a0,a1,a2,rfl,k⟩; exact h k
theorem Qf:Sha.jw 5 (ax 28):=by
 intro x0 x1 x2 x3 x4 x5 x6
 refine fU qd _ _ _ ?_
 apply FZ <;> assumption
theorem MG:Sha.jw 5 (ax 46):=by
 intro x0 x1 x2 x3 x4 x5 x6
 refine fU oK _ _ _ ?_
 apply Lr <;> assumption
theorem Q4:GM (ax 46):=by
 intro x0 x1 x2
 refine fU oK _ _ _ ?_
 apply Kv <;> assumption
theorem Ze:Rq (ax 80):=by
 intro x0 x1 x2 x3 x4 x5
 refine gG oF _ _ _ ?_
 apply Rm <;> assumption
theorem W9:Cx .i64 (ax 71):=by
 intro x0 x1 x2 x3 x4 x5
 refine gG Ec _ _ _ ?_
 apply (PK Ze) <;> assumption
theorem Xl:OB 94 97 (ax 59):=by
 intro x0 x1 x2 x3 x4 x5 x6 x7 x8 x9 x10 x11 x12 x13 x14 x15 x16 x17
 refine Tw vO _ _ _ ?_
 apply (QB W9) <;> assumption
theorem Vb:wP kW (ax 57):=by
 intro x0 x1 x2
 refine Cf wF _ _ _ ?_
 apply GV <;> assumption
theorem Wu:wP hW (ax 58):=by
 intro x0 x1 x2
 refine Cf CG _ _ _ ?_
 apply N8 <;> assumption
theorem U6:DT (ax 29):=by
 intro x0 x1 x2 x3 x4 x5 x6
 refine fU FI _ _ _ ?_
 apply (SF Vb Wu Xl Qf) <;> assumption
theorem Tt:Ji (ax 36):=by
 intro x0 x1 x2 x3 x4
 refine fU FL _ _ _ ?_
 apply PH <;> assumption
theorem Tx:xS (ax 30):=by
 intro x0 x1 x2 x3 x4 x5 x6
 refine fU A7 _ _ _ ?_
 apply (UE U6 Tt) <;> assumption
theorem UW:Cx .u64 (ax 74):=by
 intro x0 x1 x2 x3 x4 x5
 refine gG CK _ _ _ ?_
 apply JQ <;> assumption
theorem VJ:KY 93 (ax 63):=by
 intro x0 x1 x2 x3 x4 x5 x6 x7 x8 x9 x10 x11 x12 x13 x14
 refine Tw Ad _ _ _ ?_
 apply (MV UW) <;> assumption
theorem VT:KI (ax 81):=by
 intro x0 x1 x2 x3 x4 x5
 refine fU Au _ _ _ ?_
 apply O0 <;> assumption
theorem Uu:Gs 3 (ax 72):=by
 intro x0 x1 x2
 refine fU zP _ _ _ ?_
 apply (LC VT) <;> assumption
theorem U1:Ld (ax 82):=by
 intro x0 x1 x2 x3 x4 x5 x6 x7
 refine gG Bb _ _ _ ?_
 apply N7 <;> assumption
theorem Z6:Qw (ax 83):=by
 intro x0 x1 x2 x3 x4
 refine fU EO _ _ _ ?_
 apply Mi <;> assumption
theorem VB:JX (ax 84):=by
 intro x0 x1 x2 x3 x4 x5 x6
 refine gG Bh _ _ _ ?_
 apply Oc <;> assumption
theorem Xh:NZ (ax 73):=by
 intro x0 x1 x2 x3 x4 x5
 refine gG CJ _ _ _ ?_
 apply (Qj Z6 U1 VB) <;> assumption
theorem Uy:Gt 93 (ax 62):=by
 intro x0 x1 x2
 refine Cf zQ _ _ _ ?_
 apply (Lm (TI:=3) Uu Xh) <;> assumption
theorem Xk:DT (ax 41):=by
 intro x0 x1 x2 x3 x4 x5 x6
 refine fU En _ _ _ ?_
 apply (LK Uy VJ) <;> assumption
theorem Xj:Oz (ax 42):=by
 intro x0 x1 x2 x3 x4 x5 x6
 refine fU Ep _ _ _ ?_
 apply Pm <;> assumption
theorem Ve:xS (ax 13):=by
 intro x0 x1 x2 x3 x4 x5 x6
 refine fU CP _ _ _ ?_
 apply (Jl Xk Xj) <;> assumption
theorem Vo:JK (ax 67):=by
 intro x0 x1 x2 x3
 refine fU CF _ _ _ ?_
 apply NT <;> assumption
theorem VD:J3 (ax 53):=by
 intro x0 x1 x2 x3 x4
 refine fU DF _ _ _ ?_
 apply (OG Vo) <;> assumption
theorem Mg:aP.jw 5 1 1 (ax 28):=fun h1 h2 h3 h4 _ hQ=>qd (Go.Ab.aP.Qm h1 h2 (Nat.le_refl _) h3 h4 hQ)
theorem WC:aP.NG 5 (ax 26):=by
 intro M a0 cs n v h1 h2 h3 h4 Q hQ
 obtain⟨x0,x1,e,h⟩:=aP.Qd Mg h1 h2 h3 h4 hQ
 cases e; exact J5 h
theorem Xe:aP.EI 102 (ax 31):=by
 intro x0 x1 x2 x3 x4 x5 x6
 refine fU Kq _ _ _ ?_
 apply (aP.IA Mg) <;> assumption
theorem ZF:aP.Ri 102 (ax 60):=by
 intro x0 x1 x2 x3 x4 x5 x6 x7
 refine fU wJ _ _ _ ?_
 apply aP.Sr <;> assumption
theorem Zq:aP.Ry 102 (ax 32):=by
 intro x0 x1 x2 x3 x4 x5 x6 x7 x8 x9
 refine gG Bj _ _ _ ?_
 apply (aP.Q6 ZF) <;> assumption
theorem XU:aP.Rp 102 (ax 33):=by
 intro x0 x1 x2 x3 x4 x5 x6 x7
 refine fU AP _ _ _ ?_
 apply aP.QW <;> assumption
theorem WI:OY 102 (ax 34):=by
 intro x0 x1 x2 x3 x4 x5 x6 x7
 refine fU zV _ _ _ ?_
 apply PT <;> assumption
theorem Qu:EL 56 23 3 (ax 27):=by
 intro x0 x1 x2 x3 x4 x5 x6 x7 x8
 refine gG AZ _ _ _ ?_
 apply MX <;> assumption
theorem UI:Mw (ax 35):=fun h1 h2=>xE (LZ h1 h2)
theorem MB:oZ Try.prog 56:=⟨Uv,Try.f56,_,Try.func56,rfl⟩
theorem A9:rX 9 (ax 8):=by
 intro x0 x1 x2 x3 x4 x5 x6 x7
 refine fU zR _ _ _ ?_
 apply (NA Xe Zq XU WI UI Qu MB Tt) <;> assumption
theorem uS:NL 5 23 (ax 7):=by
 intro x0 x1 x2 x3 x4 x5 x6 x7
 refine fU CL _ _ _ ?_
 apply (QT WC Qf Qu MB U6 Tx) <;> assumption
theorem UO:Gm (ax 15):=by
 intro x0 x1 x2 x3 x4 x5 x6
 refine gG zS _ _ _ ?_
 apply Lu <;> assumption
theorem vR:xC 71 (ax 9):=by
 intro x0 x1 x2
 refine Cf CO _ _ _ ?_
 apply DV <;> assumption
theorem RU:Kn 71 (ax 39):=by
 intro x0 x1 x2 x3 x4 x5 x6 x7 x8
 refine gG ui _ _ _ ?_
 apply RA <;> assumption
theorem Gw:Na 71 5 (ax 22):=by
 intro x0 x1 x2 x3 x4 x5 x6 x7 x8 x9
 refine gG uj _ _ _ ?_
 apply (Qh MG Q4) <;> assumption
theorem Gq:Sa 71 (ax 18):=by
 intro x0 x1 x2 x3 x4 x5 x6 x7 x8 x9 x10 x11
 refine gG uh _ _ _ ?_
 apply (Sc Tx RU MG) <;> assumption
theorem VR:Bn 71 (ax 25):=by
 intro x0 x1 x2 x3 x4 x5 x6 x7 x8
 refine fU rC _ _ _ ?_
 apply Fh <;> assumption
theorem Ua:G7 (ax 76):=by
 intro x0 x1 x2 x3 x4 x5 x6 x7
 refine gG zF _ _ _ ?_
 apply LP <;> assumption
theorem Vx:JD (ax 66):=by
 intro x0 x1 x2 x3 x4 x5 x6 x7
 refine gG ug _ _ _ ?_
 apply (OM Ua) <;> assumption
theorem PY:ES 71 9 (ax 50):=by
 intro x0 x1 x2 x3 x4 x5 x6 x7 x8 x9 x10 x11
 refine gG rE _ _ _ ?_
 apply (NW RU Vx) <;> assumption
theorem Sv:Dw 71 (ax 21):=by
 intro x0 x1 x2 x3 x4 x5 x6 x7 x8
 refine gG qh _ _ _ ?_
 apply (JO A9 PY) <;> assumption
theorem Tv:CE (fun _=>True) (fun x=>!fI x) (nU (ax) (.fn (.func 52) [] [])):=Nr (fun h=>qB h) VD
theorem Xf:wN (fun _=>True) (fun x=>!fI x) (.fn (.func 52) [] []) (ax 61):=by
 intro x0 x1 x2 x3 x4 x5 x6 x7 x8 x9 x10
 refine gG kY _ _ _ ?_
 apply (Dq Tv) <;> assumption
theorem Za:Ef (fun _=>True) (fun x=>!fI x) (.fn (.func 52) [] []) (ax 51):=by
 intro x0 x1 x2 x3 x4 x5 x6 x7 x8 x9 x10 x11
 refine gG qO _ _ _ ?_
 apply (KU Xf Tv) <;> assumption
theorem zA:Nh 71 (ax 23):=by
 intro x0 x1 x2 x3 x4 x5 x6 x7 x8 x9 x10 x11 x12
 refine gG r9 _ _ _ ?_
 apply (Pz PY Za) <;> assumption
theorem Ci:Ot 71 (ax 17):=by
 intro x0 x1 x2 x3 x4 x5 x6 x7 x8 x9 x10 x11 x12
 refine gG sO _ _ _ ?_
 apply (Qa A9) <;> assumption
theorem UX {sb n b2:Nat} {f:Str→Option Str} {W:Nat→Prop} : J4 (fun M=>lQ 71 M sb f W n∧M.heap b2=some (.row [.ptr sb 0] false 32 0)∧b2<M.next) (isNil f) (.fn (.func 38) [] [.ptr b2 0]) (ax 37):=by
 have hi:wN (fun M=>lQ 71 M sb f W n∧M.heap b2=some (.row [.ptr sb 0] false 32 0)∧b2<M.next) (isNil f) (.fn (.func 38) [] [.ptr b2 0]) (ax 61):=by
  have hp:CE (fun M=>lQ 71 M sb f W n∧M.heap b2=some (.row [.ptr sb 0] false 32 0)∧b2<M.next) (isNil f) (nU (ax) (.fn (.func 38) [] [.ptr b2 0])):=LU (TSt:=71) (TP:=32) (sb:=sb) (n:=n) (b2:=b2) (f:=f) (W:=W) (cv:=ax) (g:=38) (fun h=>qj h) RU
  intro M v xs Q h1 h2 h3 h4 h5 h6 h7
  obtain⟨a0,a1,e,h⟩:=Dq hp h1 h2 h3 h4 h5 h6 h7
  cases e; exact kY h
 intro M v xs Q h1 h2 h3 h4 h5 h6
 obtain⟨a0,a1,e,h⟩:=Ob hi h1 h2 h3 h4 h5 h6
 cases e; exact qb h
theorem Pj:EX 71 (ax 10):=by
 intro x0 x1 x2 x3 x4 x5 x6 x7 x8
 refine gG rq _ _ _ ?_
 apply (O7 A9 UX) <;> assumption
end Go.Proofs.Ytpdpipgmdhkomaa.F9
namespace Go.Proofs
open Go.RowKit Go.Maps Go.Sort Go.Shelf
def Try.lKeys_ren:Go.Shelf.Ren:=⟨fun | 7=>55 | 10=>70 | n=>n,fun | 23=>69 | 26=>9 | 3=>23 | 28=>91 | 0=>0 | 27=>90 | 33=>73 | 4=>4 | n=>n,fun | n=>n⟩
theorem Try.lKeys:Go.Proofs.SlLaysZ.n7 Try.prog Try.lKeys_ren where
 mixed:=by kernel_rfl
 f7:=⟨ "maps.Keys[map[string][]byte,string,[]byte]",by decide,Try.func55.trans (congrArg some (by kernel_rfl))⟩
 f10:=⟨ "maps.Keys[map[string][]byte,string,[]byte]$1",by decide,Try.func70.trans (congrArg some (by kernel_rfl))⟩
 t0:=Try.underlying0
 a0:=Try.isAgg0
 z0:=Try.sizeOf0
 v0:=Try.zeroValue0
 t4:=Try.underlying4
 a4:=Try.isAgg4
 z4:=Try.sizeOf4
 v4:=Try.zeroValue4
 t23:=Try.underlying69
 a23:=Try.isAgg69
 z23:=Try.sizeOf69
 v23:=Try.zeroValue69
 t26:=Try.underlying9
 a26:=Try.isAgg9
 z26:=Try.sizeOf9
 v26:=Try.zeroValue9
 t27:=Try.underlying90
 a27:=Try.isAgg90
 z27:=Try.sizeOf90
 v27:=Try.zeroValue90
 t28:=Try.underlying91
 a28:=Try.isAgg91
 z28:=Try.sizeOf91
 v28:=Try.zeroValue91
 t33:=Try.underlying73
 a33:=Try.isAgg73
 z33:=Try.sizeOf73
 v33:=Try.zeroValue73
def Try.lSorted_ren:Go.Shelf.Ren:=⟨fun | 6=>54 | 8=>68 | 9=>69 | 11=>77 | 13=>79 | 12=>78 | 23=>94 | 24=>95 | 14=>85 | 15=>86 | 16=>87 | 17=>88 | 18=>89 | 19=>90 | 20=>91 | 21=>92 | 22=>93 | 25=>96 | 26=>97 | 27=>98 | 28=>99 | 29=>100 | 30=>101 | 31=>102 | n=>n,fun | 26=>9 | 28=>91 | 24=>28 | 0=>0 | 3=>3 | 37=>45 | 48=>93 | 50=>58 | 4=>4 | 40=>136 | 39=>135 | 45=>141 | 5=>5 | 9=>9 | 51=>145 | 55=>149 | 57=>151 | 58=>152 | 33=>73 | n=>n,fun | n=>n⟩
theorem Try.lSorted:Go.Proofs.SlLaysZ.n6 Try.prog Try.lSorted_ren where
 mixed:=by kernel_rfl
 f6:=⟨ "slices.Sorted[string]",by decide,Try.func54.trans (congrArg some (by kernel_rfl))⟩
 f8:=⟨ "slices.Collect[string]",by decide,Try.func68.trans (congrArg some (by kernel_rfl))⟩
 f11:=⟨ "slices.AppendSeq[[]string,string]",by decide,Try.func77.trans (congrArg some (by kernel_rfl))⟩
 t0:=Try.underlying0
 a0:=Try.isAgg0
 z0:=Try.sizeOf0
 v0:=Try.zeroValue0
 t24:=Try.underlying28
 a24:=Try.isAgg28
 z24:=Try.sizeOf28
 v24:=Try.zeroValue28
 t26:=Try.underlying9
 a26:=Try.isAgg9
 z26:=Try.sizeOf9
 v26:=Try.zeroValue9
 t28:=Try.underlying91
 a28:=Try.isAgg91
 z28:=Try.sizeOf91
 v28:=Try.zeroValue91
 i26:=by kernel_rfl
def Try.lSort_ren:Go.Shelf.Ren:=⟨fun | 6=>69 | 8=>79 | 9=>78 | 19=>94 | 20=>95 | 21=>85 | 22=>86 | 23=>87 | 24=>88 | 25=>89 | 26=>90 | 27=>91 | 28=>92 | 29=>93 | 36=>96 | 31=>97 | 32=>98 | 37=>99 | 38=>100 | 39=>101 | 41=>102 | n=>n,fun | 27=>28 | 29=>9 | 3=>3 | 32=>45 | 26=>28 | 0=>0 | 44=>93 | 46=>58 | 4=>4 | 36=>136 | 35=>135 | 41=>141 | 5=>5 | 9=>9 | 53=>145 | 57=>149 | 63=>151 | 64=>152 | n=>n,fun | n=>n⟩
theorem Try.lSort:Go.Proofs.SlLaysM.n6 Try.prog Try.lSort_ren where
 mixed:=by kernel_rfl
 f6:=⟨ "slices.Sort[[]string,string]",by decide,Try.func69.trans (congrArg some (by kernel_rfl))⟩
 f8:=Try.func79.trans (congrArg some (by kernel_rfl))
 f9:=⟨ "slices.pdqsortOrdered[string]",by decide,Try.func78.trans (congrArg some (by kernel_rfl))⟩
 f19:=Try.func94.trans (congrArg some (by kernel_rfl))
 f20:=Try.func95.trans (congrArg some (by kernel_rfl))
 f21:=⟨ "slices.insertionSortOrdered[string]",by decide,Try.func85.trans (congrArg some (by kernel_rfl))⟩
 f22:=⟨ "slices.heapSortOrdered[string]",by decide,Try.func86.trans (congrArg some (by kernel_rfl))⟩
 f23:=⟨ "slices.breakPatternsOrdered[string]",by decide,Try.func87.trans (congrArg some (by kernel_rfl))⟩
 f24:=⟨ "slices.choosePivotOrdered[string]",by decide,Try.func88.trans (congrArg some (by kernel_rfl))⟩
 f25:=⟨ "slices.reverseRangeOrdered[string]",by decide,Try.func89.trans (congrArg some (by kernel_rfl))⟩
 f26:=⟨ "slices.partialInsertionSortOrdered[string]",by decide,Try.func90.trans (congrArg some (by kernel_rfl))⟩
 f27:=⟨ "cmp.Less[string]",by decide,Try.func91.trans (congrArg some (by kernel_rfl))⟩
 f28:=⟨ "slices.partitionEqualOrdered[string]",by decide,Try.func92.trans (congrArg some (by kernel_rfl))⟩
 f29:=⟨ "slices.partitionOrdered[string]",by decide,Try.func93.trans (congrArg some (by kernel_rfl))⟩
 f31:=Try.func97.trans (congrArg some (by kernel_rfl))
 f32:=Try.func98.trans (congrArg some (by kernel_rfl))
 f36:=⟨ "slices.siftDownOrdered[string]",by decide,Try.func96.trans (congrArg some (by kernel_rfl))⟩
 f37:=⟨ "slices.medianAdjacentOrdered[string]",by decide,Try.func99.trans (congrArg some (by kernel_rfl))⟩
 f38:=⟨ "slices.medianOrdered[string]",by decide,Try.func100.trans (congrArg some (by kernel_rfl))⟩
 f39:=⟨ "cmp.isNaN[string]",by decide,Try.func101.trans (congrArg some (by kernel_rfl))⟩
 f41:=⟨ "slices.order2Ordered[string]",by decide,Try.func102.trans (congrArg some (by kernel_rfl))⟩
 t0:=Try.underlying0
 a0:=Try.isAgg0
 z0:=Try.sizeOf0
 v0:=Try.zeroValue0
 t3:=Try.underlying3
 a3:=Try.isAgg3
 z3:=Try.sizeOf3
 v3:=Try.zeroValue3
 t4:=Try.underlying4
 a4:=Try.isAgg4
 z4:=Try.sizeOf4
 v4:=Try.zeroValue4
 t5:=Try.underlying5
 a5:=Try.isAgg5
 z5:=Try.sizeOf5
 v5:=Try.zeroValue5
 t9:=Try.underlying9
 a9:=Try.isAgg9
 z9:=Try.sizeOf9
 v9:=Try.zeroValue9
 t26:=Try.underlying28
 a26:=Try.isAgg28
 z26:=Try.sizeOf28
 v26:=Try.zeroValue28
 t27:=Try.underlying28
 a27:=Try.isAgg28
 z27:=Try.sizeOf28
 v27:=Try.zeroValue28
 t29:=Try.underlying9
 a29:=Try.isAgg9
 z29:=Try.sizeOf9
 v29:=Try.zeroValue9
 t32:=Try.underlying45
 a32:=Try.isAgg45
 z32:=Try.sizeOf45
 v32:=Try.zeroValue45
 t35:=Try.underlying135
 a35:=Try.isAgg135
 z35:=Try.sizeOf135
 v35:=Try.zeroValue135
 t36:=Try.underlying136
 a36:=Try.isAgg136
 z36:=Try.sizeOf136
 v36:=Try.zeroValue136
 t41:=Try.underlying141
 a41:=Try.isAgg141
 z41:=Try.sizeOf141
 v41:=Try.zeroValue141
 t44:=Try.underlying93
 a44:=Try.isAgg93
 z44:=Try.sizeOf93
 v44:=Try.zeroValue93
 t46:=Try.underlying58
 a46:=Try.isAgg58
 z46:=Try.sizeOf58
 v46:=Try.zeroValue58
 t53:=Try.underlying145
 a53:=Try.isAgg145
 z53:=Try.sizeOf145
 v53:=Try.zeroValue145
 t57:=Try.underlying149
 a57:=Try.isAgg149
 z57:=Try.sizeOf149
 v57:=Try.zeroValue149
 t63:=Try.underlying151
 a63:=Try.isAgg151
 z63:=Try.sizeOf151
 v63:=Try.zeroValue151
 t64:=Try.underlying152
 a64:=Try.isAgg152
 z64:=Try.sizeOf152
 v64:=Try.zeroValue152
end Go.Proofs
namespace Go.Proofs.Ytpdpipgmdhkomaa
open Go Go.Ab
theorem U7:∀ (a0:AV) (M:RM) (Q:ah),Go.Ab.Dk.bG 69 70 a0 M Q=Co Try.prog Try.f55 [a0] M Q:=by
 intros; kernel_rfl
theorem J9 {a0:AV} {M:RM} {Q:ah} (h:Go.Ab.Dk.bG 69 70 a0 M Q) : ax 55 [a0] M Q:=Hw TG (fn:=Try.f55) (by kernel_rfl) (U7 a0 M Q▸h)
end Go.Proofs.Ytpdpipgmdhkomaa
namespace Go.Ab.Bl
open Go Go.Ab Go.Ab.Sha Go.RowKit Go.Proofs Go.Maps Go.Sort Go.MapKept Go.WideShapes
open Go.WideElems (Fit rg)
open Go.Ab.Dk (lL mh Dc qL)
open Go.Proofs.Ytpdpipgmdhkomaa
theorem TQ (m:Nat) : AnyZ.SortsIn Try.prog Try.lSorted_ren Fence.wide m :=
 ⟨fun blk off cap ss W hH hblk hsz=>callsIn_wide.2 (AnyM.slices_Sort_string Try.lSort blk off cap ss W hH hblk hsz),
  fun p cap W=>callsIn_wide.2 (AnyM.slices_Sort_string_none Try.lSort p cap W)⟩
def II:Value→Option (DataW Unit × List MemPlace):=fun _=>some (.nil,[])
theorem fits {ρ:Ren} {cl:Nat} : ∀ {T:List dX} {fs:List MapEntry},T.Pairwise (fun a b=>a.2.2<b.2.2)→(∀ t∈T,t.2.2<cl)→bz ρ (T.map ed) fs →
  (fs.map (·.key))=T.map (fun t=>encStr t.1)∧(∀ x∈fs,x.born<cl∧∃ t∈T,x.born=t.2.2)∧(fs.map (·.born)).Nodup∧fs.length=T.length
 | [],[],_,_,_=>⟨rfl,by simp,by simp,rfl⟩
 | t :: T,f :: fs,h1,h2,hr=>by
   obtain⟨r1,r2,r3,r4⟩:=hr
   rw[List.pairwise_cons] at h1
   obtain⟨a1,a2,a3,a4⟩:=fits h1.2 (fun x hx=>h2 x (List.mem_cons_of_mem _ hx)) r4
   have r3:f.born=t.2.2:=r3
   obtain⟨hk,_⟩:=aD r1
   refine⟨?_, ?_, ?_, ?_⟩
   ·simp only[List.map_cons,a1]
    rw[hk]
   ·intro y hy
    rcases List.mem_cons.1 hy with rfl | hy
    ·rw[r3]; exact⟨h2 t (List.mem_cons_self ..),t,List.mem_cons_self ..,rfl⟩
    ·obtain⟨b1,x,b2,b3⟩:=a2 y hy; exact⟨b1,x,List.mem_cons_of_mem _ b2,b3⟩
   ·rw[List.map_cons,List.nodup_cons]
    refine⟨fun hm=>?_,a3⟩
    obtain⟨y,hy,he⟩:=List.mem_map.1 hm
    obtain⟨_,x,hx,hxe⟩:=a2 y hy
    have:=h1.1 x hx
    omega
   ·simp[a4]
theorem strKeys_perm {fs:List MapEntry} {d:List dX} (hk:fs.map (·.key)=d.map (fun e=>encStr e.1)) (hl:∀ n∈iG d,n.length≤64) :
  (strKeys (.map ((fs.map (rg (H:=Unit) Try.prog 9 II)).foldr DataW.insert []))).Perm (iG d):=by
 have h1:((fs.map (rg (H:=Unit) Try.prog 9 II)).foldr DataW.insert []).Perm (fs.map (rg (H:=Unit) Try.prog 9 II)):=sorted_perm _
 refine(h1.map _).trans ?_
 clear h1
 induction fs generalizing d with
 | nil =>
   cases d with
   | nil=>exact .refl _
   | cons=>simp at hk
 | cons f fs ih =>
   cases d with
   | nil=>simp at hk
   | cons x d =>
     simp only[List.map_cons,List.cons.injEq] at hk
     have e:strOf (rg (H:=Unit) Try.prog 9 II f).1=x.1:=by
      have hle:x.1.length≤64:=hl _ (by simp[iG])
      have:keyOf Try.prog 9 f.key=some (.string x.1):=by
       rw[hk.1]
       unfold keyOf mapKey
       simp only[Try.underlying9,encStr]
       rw[if_pos (by show x.1.length≤maxLen; unfold maxLen; omega)]
      unfold rg Go.WideElems.rd
      rw[this]; rfl
     simp only[iG,List.map_cons,e]
     exact .cons _ (ih hk.2 fun n hn=>hl n (List.mem_cons_of_mem _ hn))
theorem Ic (ρ:Ren) : ∀ l:List Str,aH ρ (l.map fun s=>St s) (l.map encStr)
 | []=>.nil
 | s :: l=>.cons _ _ _ _ (.sc _ rfl) (Ic ρ l)
theorem Ux {P:Program} {ρ:Ren} {M:RM} {w:World} (hw:bg P ρ M w) {b:Nat} {i:dU} {l:List AV} {p:Bool} {e f:Nat} (hb:ρ b=some i) (hh:M.heap b=some (.row l p e f)) : i.sh=0:=by
 obtain⟨A,hA⟩:=hw
 rcases hA.blk b _ hh with⟨y,hy,hr⟩ | ⟨c,he,_⟩
 ·obtain⟨o,_,ho⟩:=hA.rel.blk b i y hb hy
  cases y with
  | row n t z op el fz=>obtain⟨c,fr,_,hrow⟩:=ho; exact hrow.sh0
  | map=>exact hr.elim
  | iter=>exact hr.elim
  | gX=>exact hr.elim
 ·cases he
theorem sorted {TM:Nat} : GH 9 TM 70 (ax 54):=by
 intro M m b cl d Q hmh Su XW hh hlt hlen hQ
 have hwf:(iG d).Nodup∧∀ n∈iG d,n.length≤64:=⟨Su.nodup,fun n hn=>by
  obtain⟨t,ht,rfl⟩:=List.mem_map.1 hn
  rw[XW t ht]; omega⟩
 refine fD.Vp (T:=9) (n:=(lL (iG d)).length) (cs:=(lL (iG d)).map fun s=>St s) ⟨Try.f54,_,Try.func54,rfl⟩ (by kernel_rfl) (by simp[oneCell]) (by simp) (fun ρ w us hus hw=>?_) (fun v M' o k=>hQ v M' (by rw[← Ul] at o; exact o) k)
 cases hus with
 | cons _ u1 _ us r1 hus =>
 cases hus
 cases r1 with
 | fn _ _ _ us1 vs1 hp q1 q2 =>
 cases q1
 cases q2 with
 | cons _ u2 _ us r2 q3 =>
 cases q3
 obtain⟨i,hbi,rfl⟩:=bQ r2
 have hsh:=Ux hw hbi hh
 obtain⟨u,hu,hcell⟩:=Ao hw hbi (show M.loads b 0 1=some [.map m] by rw[RM.Ki hh]; rfl)
 cases hu with
 | map _ j hmj =>
 obtain⟨A,hA⟩:=hw
 obtain⟨fs,hob,hfs⟩:=Ae hA hmj hmh
 obtain⟨a1,a2,a3,a4⟩:=fits Su.up Su.lt hfs
 rw[hsh] at hcell
 rw[hsh]
 have hdl:fs.size=d.length:=by rw[← a4]; simp
 have XR:Fit (H:=Unit) Try.prog 9 II fs cl:=by
  refine⟨by rw[hdl]; unfold maxLen; omega,⟨fun x hx=>(a2 x hx).1,a3, ?_⟩,fun x hx=>?_⟩
  ·rw[a1]
   have:=hwf.1
   have e:d.map (fun e=>encStr e.1)=(iG d).map encStr:=by simp[iG]
   rw[e]
   exact List.Pairwise.map _ (fun a b h h2=>h (encStr_inj h2)) this
  ·have hxk:x.key∈fs.toList.map (·.key):=List.mem_map_of_mem hx
   rw[a1] at hxk
   obtain⟨y,hy,hye⟩:=List.mem_map.1 hxk
   have hle:=hwf.2 y.1 (List.mem_map_of_mem hy)
   refine⟨(.string y.1,.nil), ?_⟩
   unfold Go.WideElems.rd
   have:keyOf Try.prog 9 x.key=some (.string y.1):=by
    rw[← hye]
    unfold keyOf mapKey
    simp only[Try.underlying9,encStr]
    rw[if_pos (by show y.1.length≤maxLen; unfold maxLen; omega)]
   rw[this]; rfl
 have hown:w.ownsMap Try.prog 9 II j.cb fs.size (.map ((fs.toList.map (rg (H:=Unit) Try.prog 9 II)).foldr DataW.insert [])):=⟨fs,cl,hob,XR,Nat.le_refl _,rfl⟩
 have hsz:Maps.size (DataW.map ((fs.toList.map (rg (H:=Unit) Try.prog 9 II)).foldr DataW.insert []))=d.length:=by
  rw[size_eq,length_sorted,List.length_map,a4]
 have hil:=hA.rel.dom b i hbi
 have hseq:SeqGives Fence.wide 2 Try.prog 70 #[.pointer (some ⟨i.cb,0,none⟩)] encStr _ _ w:=AnyZ.keys_gives (ρ:=Try.lKeys_ren) { Try.lKeys with } Fence.wide _ trivial rfl (by omega) i.cb j.cb fs.size _ w hil.2 hcell hown
 refine(callsIn_wide (n:=5)).1 ?_
 have cS:=AnyZ.sorted_in Try.lSorted Fence.wide 5 trivial trivial trivial trivial rfl (by omega) (TQ _) (enters_of Try.func69 (by kernel_rfl) rfl) 70 #[.pointer (some ⟨i.cb,0,none⟩)] trivial (enters_of Try.func70 (by kernel_rfl) rfl) _ _ (by rw[hsz]; unfold maxLen; omega) (by rw[hsz]; omega) _ hseq
 change CallsIn _ _ Try.prog 54 _ _ _ at cS
 refine cS.mono ?_
 rintro e w' ⟨v,ss,rfl,hS,hrow,hnil,hb⟩
 have hperm:ss.Perm (iG d):=hS.trans (strKeys_perm a1 hwf.2)
 rw[Dc hperm] at hrow
 have hl:ss.length=(lL (iG d)).length:=by rw[hperm.length_eq,(qL _).length_eq]
 rw[hl] at hrow
 exact⟨v,_,rfl,hrow,fun ρ'=>Ic ρ' _,hb⟩
theorem Xy:Nn 69 70 (ax 55):=by
 intro M m Q hQ
 refine J9 ?_
 unfold Go.Ab.Dk.bG
 refine⟨rfl,by show 1≤1; decide, ?_⟩
 dsimp only
 rw[aV]
 exact hQ
end Go.Ab.Bl
namespace Go.Proofs.Ytpdpipgmdhkomaa.F9
open Go Go.Ab Go.Ab.Sha Go.Ab.Bl Go.RowKit Go.Proofs Go.Proofs.Ytpdpipgmdhkomaa
theorem Qy:BC 71 9 (ax 24):=by
 intro x0 x1 x2 x3 x4 x5 x6 x7 x8
 refine fU qQ _ _ _ ?_
 apply (IP Xy sorted) <;> assumption
theorem VY:F6 (ax 6):=by
 intro x0 x1 x2
 refine Cf zT _ _ _ ?_
 apply Nk (TSt:=71) (T8:=5) (TB:=23) (TS:=9) (T32:=0) { ph:=UO,cut:=uS,new:=vR,miss:=Sv,put:=Gq,Tz:=Pj,get:=Gw,nm:=A9,n2:=Ve,want:=zA,keep:=Ci,ns:=Qy,by_:=VR } <;> assumption
theorem V6:Qx (ax 3):=by
 intro x0 x1 x2
 refine Cf sI _ _ _ ?_
 apply (Ny VY uS A9 vR Pj) <;> assumption
end Go.Proofs.Ytpdpipgmdhkomaa.F9
namespace Go.Proofs.Ytpdpipgmdhkomaa.blobsKnown
open Go Go.Ab Go.ChangeShapes Go.WideShapes Go.ChangeAt Go.RowKit
theorem own:ownKnob Try.prog.godebug=none:=by kernel_rfl
open Go.Ab.Sha Go.Ab.Bl Go.Proofs.Ytpdpipgmdhkomaa.F9
theorem walk (w:World) : Calls Try.prog 3 #[] w fun e w'=>e=.returned (.bool true)∧Below w.heap.size w w':=by
 refine fD.close (base:=Base.any w.heap.size) rfl trivial ?_
 exact V6 fun M'=>rfl
set_option maxRecDepth 100000 in
theorem lifted (os:Os) (started:os.Started) (H:Type) (enc:TypeId × Value→H) :
  ReturnsInHanded {} Try.checked os 3 .any (Rows.blobsKnownSpec.pre6 enc Try.prog Try.f3 Rows.blobsKnownRow.domain false) (Rows.blobsKnownSpec.post enc Try.prog Try.f3 false true false false):=by
 refine returnsInHanded_of_change_sized (C:=Try.checked) own started (by kernel_rfl) Try.func3
  (ChangeSpec.witness6 (enc:=enc) (C:=Try.checked) false ⟨#[],#[],[]⟩ 8 (by kernel_rfl) (by kernel_rfl) (by kernel_rfl) (by kernel_rfl)) ?_
 intro W b0 args ds gs before hval hW hcnd hwt _
 have hW':=hW
 obtain⟨p,q,hA,hV,rfl,hfz,hnd⟩:=hW
 rw[Try.params3] at hA
 obtain⟨rfl,rfl,rfl⟩:=trodAll_none hA
 obtain⟨rfl,rfl⟩:=trodVars_none hV
 simp only[List.append_nil] at hW'
 refine(walk W).mono fun e W' ⟨he,hg⟩=>?_
 subst he
 exact⟨_,rfl,IK (pa:=[]) (pv:=[]) hW' (fun _ _ _=>(trodAll_cons_mk (shut_bool Try.underlying4 _) trodAll_mk0)) (fun sp _=>rfl) (fun _ _=>rfl) rfl
  hg (ok_one (by kernel_rfl) rfl (okWide_bool_mk Try.underlying4 _))⟩
theorem over:Rows.blobsKnownRow.holds Try.pinned (OpenSpec.ofChange Rows.blobsKnownSpec) :=
 OpenClaim.holds_of_wide 3 Try.f3 rfl rfl rfl rfl rfl rfl rfl ⟨rfl,rfl,rfl,rfl,rfl⟩ rfl rfl rfl rfl rfl (by kernel_rfl) Try.func3 (by kernel_rfl)
  (of_decide_eq_true (by kernel_rfl)) (by unfold Func.isWrapper; first | (rw[if_pos (by decide +kernel)]; kernel_rfl) | (rw[if_neg (by decide +kernel)]; exact⟨rfl,rfl⟩))
  (fun os started H enc _=>lifted os started H enc)
theorem proved:Rows.BlobsKnownSaid :=
 over
end Go.Proofs.Ytpdpipgmdhkomaa.blobsKnown
