/- Part 4 of the ground of the proofs of this seat (texts WCrw to D4). By an AI agent. -/
import Derived.Test.YtngfappichkflaaGreatSho3
import Derived.ChangeShapes
import Derived.OpenShut
import Derived.WideKeyArgs
import GoSem.ClaimJoined
set_option maxRecDepth 100000
set_option linter.unusedVariables false
set_option linter.unusedSimpArgs false
namespace Go.Ab.Crw
open Go Go.Ab
def acT (p1:ak) (p2:Nat) (M0:RM) (Q:aj) : Prop :=
 p1 [] M0 fun t1 M =>
 q8 [(.sc (.pointer none)),(.sc (.slice none 0 0))] [(0,1,t1)] fun t2 =>
 jR p2 t2 fun r f =>
 bU r f M fun t3 M_0 =>
 Q t3 M_0
def Ak (p1:Nat) (p2 p3:ak) (p4:Nat) (p5 p6:ak) (p7:Nat) (p8 p9:ak) (p10 p11:Nat) (p12 p13 p14:ak) (a0 a1:AV) (M0:RM) (Q:aj) : Prop :=
 jR p1 a1 fun r f =>
 bU r f M0 fun t3 M =>
 aB M t3 7 fun t12 =>
 p2 [t12] M fun t13 M_0 =>
 dM t13 fun t14 =>
 av t14 (
 Q (.tup [(Bo false),(N .i64 1)]) M_0) (
 dx a0 fun t16 =>
 aI t16 0 fun t17 =>
 au M_0 t17 fun t18 =>
 p3 [t18] M_0 fun t19 M_1 =>
 aI t3 0 fun t20 =>
 aB M_1 t20 2 fun t21 =>
 eB p4 1 [(N .i64 0),(N .u64 0)] [(0,2,t21)] fun r_2 f_3 =>
 bU r_2 f_3 M_1 fun t22 M_4 =>
 aI t3 6 fun t23 =>
 au M_4 t23 fun t24 =>
 appW p4 2 16 [(N .i64 0),(N .u64 0)] false t22 t24 M_4 fun t25 M_5 =>
 bu t25 fun t26 =>
 aM (fun next xs M_6 =>
 af .lss (aa xs 0) t26 fun t28 =>
 av t28 (
 ah t25 (aa xs 0) 2 fun t29 =>
 aB M_6 t29 2 fun t30 =>
 bU (.row [(N .i64 0),(N .u64 0)] false p4 0) (fun b=>.ptr b 0) M_6 fun t8 M_7 =>
 aF M_7 t8 t30 2 fun M_8 =>
 aB M_8 t8 2 fun t32 =>
 p5 [t19,t32] M_8 fun t33 M_9 =>
 af .neq t33 (N .i64 0) fun t35 =>
 av t35 (
 Q (.tup [(Bo false),t33]) M_9) (
 af .add (aa xs 0) (N .i64 1) fun t37 =>
 next [t37] M_9)) (
 dx a0 fun t39 =>
 aI t39 1 fun t40 =>
 au M_6 t40 fun t41 =>
 bQ (fun J =>
 aI t3 2 fun t42 =>
 au M_6 t42 fun t43 =>
 af .eql t43 (N .i64 1) fun t44 =>
 ae t44 true (fun k=>k a0 M_6 none) (fun k=>k .undef M_6 none) fun t46 dW b =>
 ae t44 true (fun nu=>dx t46 fun t47 =>
 nu t47 dW none) (fun k=>k .undef dW none) fun ar7 ed adC =>
 ae t44 true (fun qN=>aI ar7 0 fun t48 =>
 qN t48 ed none) (fun k=>k .undef ed none) fun am5 mq ana =>
 ae t44 true (fun sI=>au mq am5 fun t49 =>
 sI t49 mq none) (fun k=>k .undef mq none) fun apI dz KJ =>
 ae t44 true (fun nR=>aI t3 0 fun t50 =>
 nR t50 dz none) (fun k=>k .undef dz none) fun apG fe Et =>
 ae t44 true (fun l6=>aB fe apG 2 fun t51 =>
 l6 t51 fe none) (fun k=>k .undef fe none) fun aqn fo yB =>
 ai t44 true (fun iE=>p6 [apI,aqn] fo fun t52 iR =>
 iE t52 iR) (fun k=>k .undef fo) fun aov eU =>
 ae t44 true (fun jr=>dM aov fun t53 =>
 jr t53 eU none) (fun k=>k .undef eU none) fun amm dh CJ =>
 aK t44 amm (Bo false) fun t54 =>
 av t54 (
 aI t3 0 fun t57 =>
 aB dh t57 2 fun t58 =>
 aI t3 3 fun t59 =>
 au dh t59 fun t60 =>
 aI t3 4 fun t61 =>
 au dh t61 fun t62 =>
 aI t3 5 fun t63 =>
 au dh t63 fun t64 =>
 q8 [(N .i64 0),(N .u64 0),(St []),(St []),(St [])] [(0,2,t58),(2,1,t60),(3,1,t62),(4,1,t64)] fun t65 =>
 eB p7 1 [(N .i64 0),(N .u64 0),(St []),(St []),(St [])] [(0,5,t65)] fun avt avp =>
 vF avt avp dh fun t66 eT Cg =>
 p8 [t41] eT fun t56 iL =>
 aB iL t57 2 fun ao5 =>
 (ao5=t58∧au iL t59 fun aof =>
 (aof=t60∧au iL t61 fun an0 =>
 (an0=t62∧au iL t63 fun an8 =>
 (an8=t64∧eB p7 1 [(N .i64 0),(N .u64 0),(St []),(St []),(St [])] [(0,5,t65)] fun av1 axl =>
 (Eb Cg iL av1 axl t66∧appW p7 5 64 [(N .i64 0),(N .u64 0),(St []),(St []),(St [])] false t56 t66 iL fun t67 l7 =>
 p9 [t67,(.fn (.func p10) [] [])] l7 fun t69 jS =>
 J [t67] jS)))))) (
 J [t41] dh)) (fun mX ic =>
 p8 [(aa mX 0)] ic fun t71 jE =>
 p12 [t71,(.fn (.func p11) [] [t3])] jE fun t73 ku =>
 dx a0 fun t76 =>
 aI t76 0 fun t77 =>
 au ku t77 fun t78 =>
 p13 [t19,t78] ku fun t79 l8 =>
 dM t79 fun t80 =>
 ai t80 false (fun ND=>ND t73 l8) (fun k=>k .undef l8) fun t82 vM =>
 ai t80 false (fun wD=>wD a0 vM) (fun k=>k .undef vM) fun t83 iO =>
 ai t80 false (fun Ic=>dx t83 fun t84 =>
 Ic t84 iO) (fun k=>k .undef iO) fun amJ pR =>
 ai t80 false (fun YH=>aI amJ 1 fun t85 =>
 YH t85 pR) (fun k=>k .undef pR) fun ar5 x8 =>
 ai t80 false (fun Oz=>au x8 ar5 fun t86 =>
 Oz t86 x8) (fun k=>k .undef x8) fun arH om =>
 ai t80 false (fun Xd=>p14 [t82,arH] om fun t87 rO =>
 Xd t87 rO) (fun k=>k .undef om) fun aqi og =>
 ai t80 false (fun aaa=>dM aqi fun t88 =>
 aaa t88 og) (fun k=>k .undef og) fun apt Ez =>
 aK t80 (Bo true) apt fun t89 =>
 dx a0 fun t94 =>
 aI t94 0 fun t95 =>
 aF Ez t95 t19 1 fun xW =>
 dx a0 fun t96 =>
 aI t96 1 fun t97 =>
 aF xW t97 t73 1 fun AB =>
 Q (.tup [t89,(N .i64 0)]) AB))) [(N .i64 0)] M_5)
def Zg (p1:Nat) (p2 p3:ak) (p4:Nat) (p5:ak) (a0:AV) (M0:RM) (Q:aj) : Prop :=
 jR p1 a0 fun r f =>
 bU r f M0 fun t1 M =>
 aI t1 0 fun t5 =>
 aB M t5 2 fun t6 =>
 p2 [t6] M fun t7 M_0 =>
 dM t7 fun t8 =>
 ai t8 false (fun k=>aI t1 3 fun bW =>
 k bW M_0) (fun k=>k .undef M_0) fun asM M_2 =>
 ai t8 false (fun k_3=>au M_2 asM fun bM =>
 k_3 bM M_2) (fun k=>k .undef M_2) fun atA M_5 =>
 ai t8 false (fun k_6=>aI t1 4 fun t12 =>
 k_6 t12 M_5) (fun k=>k .undef M_5) fun as4 M_8 =>
 ai t8 false (fun k_9=>au M_8 as4 fun t13 =>
 k_9 t13 M_8) (fun k=>k .undef M_8) fun amw df =>
 ai t8 false (fun nS=>aI t1 5 fun t14 =>
 nS t14 df) (fun k=>k .undef df) fun apy fV =>
 ai t8 false (fun qN=>au fV apy fun t15 =>
 qN t15 fV) (fun k=>k .undef fV) fun arB mq =>
 ai t8 false (fun nQ=>p3 [atA,amw,arB] mq fun t16 dU =>
 nQ t16 dU) (fun k=>k .undef mq) fun aoZ dz =>
 ai t8 false (fun l9=>dM aoZ fun t17 =>
 l9 t17 dz) (fun k=>k .undef dz) fun anE iG =>
 aK t8 (Bo true) anE fun t18 =>
 ai t18 false (fun mi=>aI t1 6 fun t20 =>
 mi t20 iG) (fun k=>k .undef iG) fun aqO kg =>
 ai t18 false (fun kQ=>au kg aqO fun t21 =>
 kQ t21 kg) (fun k=>k .undef kg) fun aoV fQ =>
 ai t18 false (fun iE=>bu aoV fun t22 =>
 iE t22 fQ) (fun k=>k .undef fQ) fun amZ eY =>
 ai t18 false (fun sQ=>af .gtr amZ (N .i64 64) fun t23 =>
 sQ t23 eY) (fun k=>k .undef eY) fun ape jF =>
 aK t18 (Bo true) ape fun t24 =>
 av t24 (
 Q (Bo false) jF) (
 aI t1 6 fun t25 =>
 au jF t25 fun t26 =>
 bu t26 fun t27 =>
 aM (fun next xs dh =>
 af .lss (aa xs 0) t27 fun t29 =>
 av t29 (
 ah t26 (aa xs 0) 2 fun t31 =>
 aB dh t31 2 fun t32 =>
 bU (.row [(N .i64 0),(N .u64 0)] false p4 0) (fun b=>.ptr b 0) dh fun t4 qX =>
 aF qX t4 t32 2 fun iC =>
 aB iC t4 2 fun t33 =>
 p2 [t33] iC fun t34 vQ =>
 dM t34 fun t35 =>
 ae t35 false (fun CE=>aB vQ t4 2 fun t37 =>
 CE t37 vQ none) (fun k=>k .undef vQ none) fun aop iL b =>
 ae t35 false (fun Cn=>aI t1 0 fun t38 =>
 Cn t38 iL none) (fun k=>k .undef iL none) fun apD fG SY =>
 ae t35 false (fun Hw=>aB fG apD 2 fun t39 =>
 Hw t39 fG none) (fun k=>k .undef fG none) fun arX je SL =>
 ae t35 false (fun yJ=>mD false [1,1] aop arX fun t40 =>
 yJ t40 je none) (fun k=>k .undef je none) fun apw jE ah6 =>
 aK t35 (Bo true) apw fun t41 =>
 ae t41 false (fun MW=>MW (aa xs 0) jE none) (fun k=>k .undef jE none) fun t43 fM Nq =>
 ae t41 false (fun wD=>af .gtr t43 (N .i64 0) fun t44 =>
 wD t44 fM none) (fun k=>k .undef fM none) fun aoz nK awk =>
 ae t41 false (fun agE=>agE aoz nK none) (fun k=>k .undef nK none) fun t45 kR aaf =>
 ae t45 true (fun OG=>aI t1 6 fun t46 =>
 OG t46 kR none) (fun k=>k .undef kR none) fun amR EN awD =>
 ae t45 true (fun Xd=>au EN amR fun t47 =>
 Xd t47 EN none) (fun k=>k .undef EN none) fun arS JD b_73 =>
 ae t45 true (fun aaa=>aaa (aa xs 0) JD none) (fun k=>k .undef JD none) fun t48 Gr aoY =>
 ae t45 true (fun Gc=>af .sub t48 (N .i64 1) fun t49 =>
 Gc t49 Gr none) (fun k=>k .undef Gr none) fun arL CW aqN =>
 ae t45 true (fun O4=>ah arS arL 2 fun t50 =>
 O4 t50 CW none) (fun k=>k .undef CW none) fun anW j6 ai9 =>
 ae t45 true (fun aie=>aB j6 anW 2 fun t51 =>
 aie t51 j6 none) (fun k=>k .undef j6 none) fun aqx y5 aqV =>
 ae t45 true (fun NM=>aB y5 t4 2 fun t52 =>
 NM t52 y5 none) (fun k=>k .undef y5 none) fun aoX vZ axf =>
 ai t45 true (fun aiG=>p5 [aqx,aoX] vZ fun t53 xY =>
 aiG t53 xY) (fun k=>k .undef vZ) fun ar4 CB =>
 ae t45 true (fun ahx=>dM ar4 fun t54 =>
 ahx t54 CB none) (fun k=>k .undef CB none) fun am2 xD Vx =>
 ae t41 false (fun Bu=>aK t45 am2 (Bo false) fun t55 =>
 Bu t55 xD none) (fun k=>k .undef xD none) fun alk LC atZ =>
 aK t41 (Bo true) alk fun t56 =>
 av t56 (
 Q (Bo false) LC) (
 af .add (aa xs 0) (N .i64 1) fun t57 =>
 next [t57] LC)) (
 aI t1 2 fun t58 =>
 au dh t58 fun t59 =>
 af .eql t59 (N .i64 1) fun t60 =>
 ai t60 true (fun aco=>aI t1 4 fun t62 =>
 aco t62 dh) (fun k=>k .undef dh) fun al3 xu =>
 ai t60 true (fun IL=>au xu al3 fun t63 =>
 IL t63 xu) (fun k=>k .undef xu) fun alX uz =>
 ai t60 true (fun atu=>fF .neq alX (St []) fun t64 =>
 atu t64 uz) (fun k=>k .undef uz) fun akR xJ =>
 aK t60 akR (Bo false) fun t65 =>
 ai t65 false (fun atc=>aI t1 2 fun t67 =>
 atc t67 xJ) (fun k=>k .undef xJ) fun ama qQ =>
 ai t65 false (fun ac0=>au qQ ama fun t68 =>
 ac0 t68 qQ) (fun k=>k .undef qQ) fun alo LU =>
 ai t65 false (fun aec=>af .eql alo (N .i64 2) fun t69 =>
 aec t69 LU) (fun k=>k .undef LU) fun aly Qp =>
 ai t65 false (fun asK=>asK aly Qp) (fun k=>k .undef Qp) fun t70 mM =>
 ai t70 true (fun atw=>aI t1 5 fun t71 =>
 atw t71 mM) (fun k=>k .undef mM) fun ak7 GA =>
 ai t70 true (fun auk=>au GA ak7 fun t72 =>
 auk t72 GA) (fun k=>k .undef GA) fun al2 akj =>
 ai t70 true (fun adk=>fF .eql al2 (St []) fun t73 =>
 adk t73 akj) (fun k=>k .undef akj) fun ami PR =>
 ai t65 false (fun acr=>aK t70 ami (Bo false) fun t74 =>
 acr t74 PR) (fun k=>k .undef PR) fun alf Be =>
 aK t65 (Bo true) alf fun t75 =>
 Q t75 Be)) [(N .i64 0)] jF)
def yl (p1:ak) (a0:AV) (M0:RM) (Q:aj) : Prop :=
 dx a0 fun t4 =>
 aI t4 1 fun t5 =>
 au M0 t5 fun t6 =>
 p1 [t6] M0 fun t7 M =>
 Q t7 M
def aka (p1:Nat) (p2:ak) (a0:AV) (M0:RM) (Q:aj) : Prop :=
 Ho p1 96 [(N .i64 0),(N .u64 0),(N .i64 0),(St []),(St []),(St []),(.sc (.slice none 0 0))] (N .i64 0) (N .i64 0) fun r f =>
 bU r f M0 fun t7 M =>
 aM (fun next xs M_0 =>
 bu a0 fun bW =>
 af .lss (aa xs 1) bW fun bM =>
 av bM (
 bQ (fun J =>
 ah a0 (aa xs 1) 7 fun t16 =>
 aB M_0 t16 7 fun t17 =>
 p2 [t17] M_0 fun t18 M_1 =>
 dM t18 fun t19 =>
 aM (fun tJ bG M_4 =>
 bu (aa xs 0) fun t22 =>
 af .lss (aa bG 1) t22 fun t23 =>
 av t23 (
 ae (aa bG 0) false (fun k=>k (aa xs 0) M_4 none) (fun k=>k .undef M_4 none) fun t28 M_5 b =>
 ae (aa bG 0) false (fun k_6=>k_6 (aa bG 1) M_5 none) (fun k=>k .undef M_5 none) fun t29 M_7 b_8 =>
 ae (aa bG 0) false (fun k_9=>ah t28 t29 7 fun t30 =>
 k_9 t30 M_7 none) (fun k=>k .undef M_7 none) fun Yq df Kg =>
 ae (aa bG 0) false (fun nG=>aI Yq 0 fun t31 =>
 nG t31 df none) (fun k=>k .undef df none) fun YC fZ KP =>
 ae (aa bG 0) false (fun jG=>aB fZ YC 2 fun t32 =>
 jG t32 fZ none) (fun k=>k .undef fZ none) fun Ze dU Kh =>
 ae (aa bG 0) false (fun nD=>nD a0 dU none) (fun k=>k .undef dU none) fun t33 fD IM =>
 ae (aa bG 0) false (fun nE=>nE (aa xs 1) fD none) (fun k=>k .undef fD none) fun t34 fe Et =>
 ae (aa bG 0) false (fun l6=>ah t33 t34 7 fun t35 =>
 l6 t35 fe none) (fun k=>k .undef fe none) fun We fo yB =>
 ae (aa bG 0) false (fun iE=>aI We 0 fun t36 =>
 iE t36 fo none) (fun k=>k .undef fo none) fun X4 eY Kb =>
 ae (aa bG 0) false (fun jr=>aB eY X4 2 fun t37 =>
 jr t37 eY none) (fun k=>k .undef eY none) fun Xi dh CJ =>
 ae (aa bG 0) false (fun su=>mD false [1,1] Ze Xi fun t38 =>
 su t38 dh none) (fun k=>k .undef dh none) fun KO eT Cg =>
 aK (aa bG 0) (Bo true) KO fun t39 =>
 af .add (aa bG 1) (N .i64 1) fun t25 =>
 tJ [t39,t25] eT) (
 dM (aa bG 0) fun t41 =>
 av t41 (
 ah a0 (aa xs 1) 7 fun t45 =>
 aB M_4 t45 7 fun t46 =>
 eB p1 1 [(N .i64 0),(N .u64 0),(N .i64 0),(St []),(St []),(St []),(.sc (.slice none 0 0))] [(0,7,t46)] fun YP W9 =>
 bU YP W9 M_4 fun t47 jS =>
 appW p1 7 96 [(N .i64 0),(N .u64 0),(N .i64 0),(St []),(St []),(St []),(.sc (.slice none 0 0))] false (aa xs 0) t47 jS fun t48 fG =>
 J [t48] fG) (
 J [(aa xs 0)] M_4))) [t19,(N .i64 0)] M_1) (fun ll il =>
 af .add (aa xs 1) (N .i64 1) fun t13 =>
 next [(aa ll 0),t13] il)) (
 Q (aa xs 0) M_0)) [t7,(N .i64 0)] M
def EF (p1:Nat) (p2 p3:ak) (a0:AV) (M0:RM) (Q:aj) : Prop :=
 jR p1 a0 fun r f =>
 bU r f M0 fun t1 M =>
 aI t1 0 fun t4 =>
 aB M t4 2 fun t5 =>
 p2 [t5] M fun t6 M_0 =>
 dM t6 fun t7 =>
 ai t7 false (fun k=>aI t1 2 fun t9 =>
 k t9 M_0) (fun k=>k .undef M_0) fun awm M_2 =>
 ai t7 false (fun k_3=>au M_2 awm fun bW =>
 k_3 bW M_2) (fun k=>k .undef M_2) fun auI M_5 =>
 ai t7 false (fun k_6=>af .neq auI (N .i64 1) fun bM =>
 k_6 bM M_5) (fun k=>k .undef M_5) fun auc M_8 =>
 ai t7 false (fun k_9=>k_9 auc M_8) (fun k=>k .undef M_8) fun t12 dW =>
 ai t12 true (fun nu=>aI t1 2 fun t13 =>
 nu t13 dW) (fun k=>k .undef dW) fun K8 ed =>
 ai t12 true (fun ik=>au ed K8 fun t14 =>
 ik t14 ed) (fun k=>k .undef ed) fun JU cK =>
 ai t12 true (fun jG=>af .neq JU (N .i64 2) fun t15 =>
 jG t15 cK) (fun k=>k .undef cK) fun aqK dU =>
 ai t7 false (fun iZ=>aK t12 aqK (Bo false) fun t16 =>
 iZ t16 dU) (fun k=>k .undef dU) fun anu fD =>
 aK t7 (Bo true) anu fun t17 =>
 ai t17 false (fun nR=>aI t1 3 fun t19 =>
 nR t19 fD) (fun k=>k .undef fD) fun JY fe =>
 ai t17 false (fun Co=>au fe JY fun t20 =>
 Co t20 fe) (fun k=>k .undef fe) fun aqe kw =>
 ai t17 false (fun Ox=>oW aqe fun t21 =>
 Ox t21 kw) (fun k=>k .undef kw) fun an3 nH =>
 ai t17 false (fun vR=>af .lss an3 (N .i64 1) fun t22 =>
 vR t22 nH) (fun k=>k .undef nH) fun aoo eU =>
 aK t17 (Bo true) aoo fun t23 =>
 ai t23 false (fun jr=>aI t1 3 fun t25 =>
 jr t25 eU) (fun k=>k .undef eU) fun KU dh =>
 ai t23 false (fun yR=>au dh KU fun t26 =>
 yR t26 dh) (fun k=>k .undef dh) fun amT vQ =>
 ai t23 false (fun CE=>oW amT fun t27 =>
 CE t27 vQ) (fun k=>k .undef vQ) fun amv iL =>
 ai t23 false (fun Cn=>af .gtr amv (N .i64 64) fun t28 =>
 Cn t28 iL) (fun k=>k .undef iL) fun amG fG =>
 aK t23 (Bo true) amG fun t29 =>
 ai t29 false (fun OO=>aI t1 4 fun t31 =>
 OO t31 fG) (fun k=>k .undef fG) fun arx mW =>
 ai t29 false (fun WJ=>au mW arx fun t32 =>
 WJ t32 mW) (fun k=>k .undef mW) fun apZ yj =>
 ai t29 false (fun N8=>oW apZ fun t33 =>
 N8 t33 yj) (fun k=>k .undef yj) fun aoc ku =>
 ai t29 false (fun MW=>af .gtr aoc (N .i64 64) fun t34 =>
 MW t34 ku) (fun k=>k .undef ku) fun aoR vM =>
 aK t29 (Bo true) aoR fun t35 =>
 ai t35 false (fun wD=>aI t1 5 fun t37 =>
 wD t37 vM) (fun k=>k .undef vM) fun arb nK =>
 ai t35 false (fun tT=>au nK arb fun t38 =>
 tT t38 nK) (fun k=>k .undef nK) fun am6 kR =>
 ai t35 false (fun Ck=>oW am6 fun t39 =>
 Ck t39 kR) (fun k=>k .undef kR) fun anF jh =>
 ai t35 false (fun avH=>af .gtr anF (N .i64 512) fun t40 =>
 avH t40 jh) (fun k=>k .undef jh) fun aqZ EJ =>
 aK t35 (Bo true) aqZ fun t41 =>
 ai t41 false (fun Zz=>aI t1 6 fun t43 =>
 Zz t43 EJ) (fun k=>k .undef EJ) fun ap3 og =>
 ai t41 false (fun aaa=>au og ap3 fun t44 =>
 aaa t44 og) (fun k=>k .undef og) fun aqu Ez =>
 ai t41 false (fun Gc=>bu aqu fun t45 =>
 Gc t45 Ez) (fun k=>k .undef Ez) fun ard CW =>
 ai t41 false (fun MR=>af .gtr ard (N .i64 64) fun t46 =>
 MR t46 CW) (fun k=>k .undef CW) fun aqD OD =>
 aK t41 (Bo true) aqD fun t47 =>
 av t47 (
 Q (Bo false) OD) (
 aI t1 2 fun t48 =>
 au OD t48 fun t49 =>
 af .eql t49 (N .i64 1) fun t50 =>
 ai t50 true (fun aiO=>aI t1 4 fun t52 =>
 aiO t52 OD) (fun k=>k .undef OD) fun apn yE =>
 ai t50 true (fun XF=>au yE apn fun t53 =>
 XF t53 yE) (fun k=>k .undef yE) fun anb yY =>
 ai t50 true (fun NM=>fF .eql anb (St []) fun t54 =>
 NM t54 yY) (fun k=>k .undef yY) fun ano vZ =>
 aK t50 ano (Bo false) fun t55 =>
 ai t55 false (fun ags=>aI t1 2 fun t57 =>
 ags t57 vZ) (fun k=>k .undef vZ) fun apK xY =>
 ai t55 false (fun HZ=>au xY apK fun t58 =>
 HZ t58 xY) (fun k=>k .undef xY) fun am3 Wo =>
 ai t55 false (fun Ol=>af .eql am3 (N .i64 2) fun t59 =>
 Ol t59 Wo) (fun k=>k .undef Wo) fun arj ajG =>
 ai t55 false (fun Bu=>Bu arj ajG) (fun k=>k .undef ajG) fun t60 rU =>
 ai t60 true (fun ab9=>aI t1 5 fun t61 =>
 ab9 t61 rU) (fun k=>k .undef rU) fun alx IB =>
 ai t60 true (fun acZ=>au IB alx fun t62 =>
 acZ t62 IB) (fun k=>k .undef IB) fun amf akz =>
 ai t60 true (fun PH=>fF .neq amf (St []) fun t63 =>
 PH t63 akz) (fun k=>k .undef akz) fun alD Qi =>
 ai t55 false (fun Gd=>aK t60 alD (Bo false) fun t64 =>
 Gd t64 Qi) (fun k=>k .undef Qi) fun amk Qw =>
 aK t55 (Bo true) amk fun t65 =>
 av t65 (
 Q (Bo false) Qw) (
 aM (fun next xs Eg =>
 aI t1 6 fun t67 =>
 au Eg t67 fun t68 =>
 bu t68 fun t69 =>
 af .lss (aa xs 0) t69 fun t70 =>
 av t70 (
 aI t1 6 fun t73 =>
 au Eg t73 fun t74 =>
 ah t74 (aa xs 0) 2 fun t76 =>
 aB Eg t76 2 fun t77 =>
 p2 [t77] Eg fun t78 qQ =>
 dM t78 fun t79 =>
 ae t79 false (fun ac0=>aI t1 6 fun t81 =>
 ac0 t81 qQ none) (fun k=>k .undef qQ none) fun akY LU b =>
 ae t79 false (fun aec=>au LU akY fun t82 =>
 aec t82 LU none) (fun k=>k .undef LU none) fun al5 Qp b_123 =>
 ae t79 false (fun auM=>auM (aa xs 0) Qp none) (fun k=>k .undef Qp none) fun t83 akv b_126 =>
 ae t79 false (fun asw=>ah al5 t83 2 fun t84 =>
 asw t84 akv none) (fun k=>k .undef akv none) fun al0 Bf b_130 =>
 ae t79 false (fun adk=>aB Bf al0 2 fun t85 =>
 adk t85 Bf none) (fun k=>k .undef Bf none) fun akM PR b_134 =>
 ae t79 false (fun ati=>aI t1 0 fun t86 =>
 ati t86 PR none) (fun k=>k .undef PR none) fun akO Re b_138 =>
 ae t79 false (fun atJ=>aB Re akO 2 fun t87 =>
 atJ t87 Re none) (fun k=>k .undef Re none) fun alr zx ajV =>
 ae t79 false (fun QM=>mD false [1,1] akM alr fun t88 =>
 QM t88 zx none) (fun k=>k .undef zx none) fun al9 VO b_146 =>
 aK t79 (Bo true) al9 fun t89 =>
 ae t89 false (fun as5=>as5 (aa xs 0) VO none) (fun k=>k .undef VO none) fun t91 zu ajH =>
 ae t89 false (fun Ph=>af .gtr t91 (N .i64 0) fun t92 =>
 Ph t92 zu none) (fun k=>k .undef zu none) fun alZ zJ ajX =>
 ae t89 false (fun Qf=>Qf alZ zJ none) (fun k=>k .undef zJ none) fun t93 zq akp =>
 ae t93 true (fun QV=>aI t1 6 fun t94 =>
 QV t94 zq none) (fun k=>k .undef zq none) fun alb ac7 b_160 =>
 ae t93 true (fun ate=>au ac7 alb fun t95 =>
 ate t95 ac7 none) (fun k=>k .undef ac7 none) fun alL aj9 b_164 =>
 ae t93 true (fun auD=>auD (aa xs 0) aj9 none) (fun k=>k .undef aj9 none) fun t96 Dw ajZ =>
 ae t93 true (fun Pg=>af .sub t96 (N .i64 1) fun t97 =>
 Pg t97 Dw none) (fun k=>k .undef Dw none) fun amc akr b_171 =>
 ae t93 true (fun QC=>ah alL amc 2 fun t98 =>
 QC t98 akr none) (fun k=>k .undef akr none) fun alN Bn ajw =>
 ae t93 true (fun Pp=>aB Bn alN 2 fun t99 =>
 Pp t99 Bn none) (fun k=>k .undef Bn none) fun ala nU ajE =>
 ae t93 true (fun asF=>aI t1 6 fun kP =>
 asF kP nU none) (fun k=>k .undef nU none) fun ajg zN asH =>
 ae t93 true (fun acu=>au zN ajg fun lD =>
 acu lD zN none) (fun k=>k .undef zN none) fun ah4 akc b_187 =>
 ae t93 true (fun asN=>asN (aa xs 0) akc none) (fun k=>k .undef akc none) fun Y8 Pb asO =>
 ae t93 true (fun adx=>ah ah4 Y8 2 fun wE =>
 adx wE Pb none) (fun k=>k .undef Pb none) fun ahq Le asY =>
 ae t93 true (fun ado=>aB Le ahq 2 fun vP =>
 ado vP Le none) (fun k=>k .undef Le none) fun ahj LD auO =>
 ai t93 true (fun acj=>p3 [ala,ahj] LD fun t105 asX =>
 acj t105 asX) (fun k=>k .undef LD) fun ahK ajR =>
 ae t93 true (fun aeK=>dM ahK fun Cr =>
 aeK Cr ajR none) (fun k=>k .undef ajR none) fun aiP Qr asB =>
 ae t89 false (fun ace=>aK t93 aiP (Bo false) fun t107 =>
 ace t107 Qr none) (fun k=>k .undef Qr none) fun ah1 ajU b_210 =>
 aK t89 (Bo true) ah1 fun vV =>
 av vV (
 Q (Bo false) ajU) (
 af .add (aa xs 0) (N .i64 1) fun t72 =>
 next [t72] ajU)) (
 Q (Bo true) Eg)) [(N .i64 0)] Qw))
def ai2 (p1:Nat) (a0 a1 a2:AV) (M0:RM) (Q:aj) : Prop :=
 Ho p1 64 [(N .i64 0),(N .u64 0),(St []),(St []),(St [])] (N .i64 0) (N .i64 0) fun r f =>
 bU r f M0 fun t9 M =>
 aM (fun next xs M_0 =>
 bu a0 fun t12 =>
 af .lss (aa xs 1) t12 fun t13 =>
 av t13 (
 bQ (fun J =>
 ah a0 (aa xs 1) 5 fun t18 =>
 aI t18 2 fun t19 =>
 au M_0 t19 fun t20 =>
 fF .eql t20 a1 fun t22 =>
 ai t22 true (fun k=>k a2 M_0) (fun k=>k .undef M_0) fun t24 M_1 =>
 ai t22 true (fun k_2=>fF .eql t24 (St []) fun t25 =>
 k_2 t25 M_1) (fun k=>k .undef M_1) fun as0 M_4 =>
 ai t22 true (fun k_5=>k_5 as0 M_4) (fun k=>k .undef M_4) fun t26 M_6 =>
 ai t26 false (fun k_7=>k_7 a0 M_6) (fun k=>k .undef M_6) fun t27 M_8 =>
 ai t26 false (fun k_9=>k_9 (aa xs 1) M_8) (fun k=>k .undef M_8) fun t28 dW =>
 ai t26 false (fun nu=>ah t27 t28 5 fun t29 =>
 nu t29 dW) (fun k=>k .undef dW) fun aot ed =>
 ai t26 false (fun ik=>aI aot 3 fun t30 =>
 ik t30 ed) (fun k=>k .undef ed) fun aqh cK =>
 ai t26 false (fun jG=>au cK aqh fun t31 =>
 jG t31 cK) (fun k=>k .undef cK) fun art dU =>
 ai t26 false (fun iZ=>iZ a2 dU) (fun k=>k .undef dU) fun t32 dz =>
 ai t26 false (fun l9=>fF .eql art t32 fun t33 =>
 l9 t33 dz) (fun k=>k .undef dz) fun apL iG =>
 ai t22 true (fun mi=>aK t26 (Bo true) apL fun t34 =>
 mi t34 iG) (fun k=>k .undef iG) fun apb kg =>
 aK t22 apb (Bo false) fun t35 =>
 av t35 (
 ah a0 (aa xs 1) 5 fun t39 =>
 aB kg t39 5 fun t40 =>
 eB p1 1 [(N .i64 0),(N .u64 0),(St []),(St []),(St [])] [(0,5,t40)] fun avU awf =>
 bU avU awf kg fun t41 fQ =>
 appW p1 5 64 [(N .i64 0),(N .u64 0),(St []),(St []),(St [])] false (aa xs 0) t41 fQ fun t42 nH =>
 J [t42] nH) (
 J [(aa xs 0)] kg)) (fun atx eY =>
 af .add (aa xs 1) (N .i64 1) fun t15 =>
 next [(aa atx 0),t15] eY)) (
 Q (aa xs 0) M_0)) [t9,(N .i64 0)] M
def vK (p1 p2:Nat) (a0:AV) (M0:RM) (Q:aj) : Prop :=
 dx a0 fun t7 =>
 aI t7 1 fun t8 =>
 au M0 t8 fun t9 =>
 bu t9 fun bW =>
 aM (fun next xs M =>
 af .lss (aa xs 1) bW fun t12 =>
 av t12 (
 bQ (fun J =>
 ah t9 (aa xs 1) 5 fun t13 =>
 aB M t13 5 fun t14 =>
 bU (.row [(N .i64 0),(N .u64 0),(St []),(St []),(St [])] false p1 0) (fun b=>.ptr b 0) M fun t5 M_0 =>
 aF M_0 t5 t14 5 fun M_1 =>
 bu (aa xs 0) fun t16 =>
 af .eql t16 (N .i64 0) fun t17 =>
 ae t17 false (fun k=>k (aa xs 0) M_1 none) (fun k=>k .undef M_1 none) fun t19 M_2 b =>
 ae t17 false (fun k_3=>k_3 (aa xs 0) M_2 none) (fun k=>k .undef M_2 none) fun t20 M_4 b_5 =>
 ae t17 false (fun k_6=>bu t20 fun t21 =>
 k_6 t21 M_4 none) (fun k=>k .undef M_4 none) fun asU M_8 b_9 =>
 ae t17 false (fun kN=>af .sub asU (N .i64 1) fun t22 =>
 kN t22 M_8 none) (fun k=>k .undef M_8 none) fun anZ fA KZ =>
 ae t17 false (fun ik=>ah t19 anZ 1 fun t23 =>
 ik t23 fA none) (fun k=>k .undef fA none) fun aob cK Al =>
 ae t17 false (fun nQ=>au cK aob fun t24 =>
 nQ t24 cK none) (fun k=>k .undef cK none) fun apo jA acS =>
 ae t17 false (fun l9=>aI t5 2 fun t25 =>
 l9 t25 jA none) (fun k=>k .undef jA none) fun am9 iG XL =>
 ae t17 false (fun Co=>au iG am9 fun t26 =>
 Co t26 iG none) (fun k=>k .undef iG none) fun amS kw Ot =>
 ae t17 false (fun CV=>fF .neq apo amS fun t27 =>
 CV t27 kw none) (fun k=>k .undef kw none) fun aqb iR Xx =>
 aK t17 (Bo true) aqb fun t28 =>
 av t28 (
 aI t5 2 fun t30 =>
 au iR t30 fun t31 =>
 eB p2 1 [(St [])] [(0,1,t31)] fun r f =>
 bU r f iR fun t32 eU =>
 appW p2 1 16 [(St [])] false (aa xs 0) t32 eU fun t33 CF =>
 J [t33] CF) (
 J [(aa xs 0)] iR)) (fun asx dh =>
 af .add (aa xs 1) (N .i64 1) fun t34 =>
 next [(aa asx 0),t34] dh)) (
 Q (aa xs 0) M)) [(.sc (.slice none 0 0)),(N .i64 0)] M0
def xZ (p1:Nat) (a0 a1:AV) (M0:RM) (Q:aj) : Prop :=
 dx a0 fun t9 =>
 aI t9 1 fun bW =>
 au M0 bW fun bM =>
 bu bM fun t12 =>
 aM (fun next xs M =>
 af .lss (aa xs 1) t12 fun t14 =>
 av t14 (
 bQ (fun J =>
 ah bM (aa xs 1) 5 fun t15 =>
 aB M t15 5 fun t16 =>
 bU (.row [(N .i64 0),(N .u64 0),(St []),(St []),(St [])] false p1 0) (fun b=>.ptr b 0) M fun t7 M_0 =>
 aF M_0 t7 t16 5 fun M_1 =>
 aI t7 2 fun t17 =>
 au M_1 t17 fun t18 =>
 fF .eql t18 a1 fun t20 =>
 av t20 (
 aB M_1 t7 5 fun t22 =>
 eB p1 1 [(N .i64 0),(N .u64 0),(St []),(St []),(St [])] [(0,5,t22)] fun r f =>
 bU r f M_1 fun t23 M_2 =>
 appW p1 5 64 [(N .i64 0),(N .u64 0),(St []),(St []),(St [])] false (aa xs 0) t23 M_2 fun t24 M_3 =>
 J [t24] M_3) (
 J [(aa xs 0)] M_1)) (fun xR M_5 =>
 af .add (aa xs 1) (N .i64 1) fun t25 =>
 next [(aa xR 0),t25] M_5)) (
 Q (aa xs 0) M)) [(.sc (.slice none 0 0)),(N .i64 0)] M0
def Au (p1:Nat) (a0:AV) (M0:RM) (Q:aj) : Prop :=
 lJ false 2 a0 (.sc (.slice none 0 0)) fun t4 =>
 av t4 (
 Q (.sc (.slice none 0 0)) M0) (
 eB p1 0 [(N .i64 0),(N .u64 0),(St []),(St []),(St [])] [] fun r f =>
 bU r f M0 fun t5 M =>
 appW p1 5 64 [(N .i64 0),(N .u64 0),(St []),(St []),(St [])] false t5 a0 M fun t7 M_0 =>
 Q t7 M_0)
def vW (p1 p2:ak) (a0 a1:AV) (M0:RM) (Q:aj) : Prop :=
 bu a0 fun t6 =>
 qA .u64 t6 fun bW =>
 p1 [bW] M0 fun bM M =>
 p2 [a0,(N .i64 0),t6,bM,a1] M fun t13 M_0 =>
 Q (.tup []) M_0
def Kz (p1:Nat) (p2 p3:ak) (p4:Nat) (p5:ak) (a0 a1:AV) (M0:RM) (Q:aj) : Prop :=
 jR p1 a0 fun r f =>
 bU r f M0 fun t2 M =>
 jR p1 a1 fun r_0 f_1 =>
 bU r_0 f_1 M fun t3 M_2 =>
 aI t2 2 fun t5 =>
 au M_2 t5 fun t6 =>
 aI t3 2 fun t7 =>
 au M_2 t7 fun t8 =>
 aI t2 3 fun bW =>
 au M_2 bW fun bM =>
 aI t3 3 fun t12 =>
 au M_2 t12 fun t13 =>
 aI t2 0 fun t15 =>
 aB M_2 t15 2 fun t16 =>
 aI t3 0 fun t17 =>
 aB M_2 t17 2 fun t18 =>
 p2 [t6,t8] M_2 fun t9 M_3 =>
 au M_3 bW fun anN =>
 (anN=bM∧au M_3 t12 fun aoh =>
 (aoh=t13∧aB M_3 t15 2 fun anR =>
 (anR=t16∧aB M_3 t17 2 fun Xa =>
 (Xa=t18∧p2 [bM,t13] M_3 fun t14 M_4 =>
 aB M_4 t15 2 fun arw =>
 (arw=t16∧aB M_4 t17 2 fun ZX =>
 (ZX=t18∧p3 [t16,t18] M_4 fun t19 M_5 =>
 eB p4 3 [(N .i64 0)] [(0,1,t9),(1,1,t14),(2,1,t19)] fun r_6 f_7 =>
 vF r_6 f_7 M_5 fun t20 M_8 b =>
 p5 [t20] M_8 fun t21 M_9 =>
 Q t21 M_9))))))
def tO (p1:ak) (p2:Nat) (cv:(FuncId→ak)) (a0 a1:AV) (M0:RM) (Q:aj) : Prop :=
 p1 [a0,a1] M0 fun bW M =>
 af .eql bW (N .i64 (-1)) fun t12 =>
 av t12 (
 Q a0 M) (
 af .add bW (N .i64 1) fun t15 =>
 aM (fun next xs M_0 =>
 bu a0 fun t18 =>
 af .lss (aa xs 1) t18 fun t19 =>
 av t19 (
 bQ (fun J =>
 ah a0 (aa xs 1) 5 fun t24 =>
 aB M_0 t24 5 fun t25 =>
 bU (.row [(N .i64 0),(N .u64 0),(St []),(St []),(St [])] false p2 0) (fun b=>.ptr b 0) M_0 fun t7 M_1 =>
 aF M_1 t7 t25 5 fun M_2 =>
 aB M_2 t7 5 fun t27 =>
 cO cv a1 [t27] M_2 fun t28 M_3 =>
 dM t28 fun t29 =>
 av t29 (
 aB M_3 t7 5 fun t32 =>
 ah a0 (aa xs 0) 5 fun t33 =>
 aF M_3 t33 t32 5 fun M_4 =>
 af .add (aa xs 0) (N .i64 1) fun t35 =>
 J [t35] M_4) (
 J [(aa xs 0)] M_3)) (fun kT M_6 =>
 af .add (aa xs 1) (N .i64 1) fun t21 =>
 next [(aa kT 0),t21] M_6)) (
 iB (cZ 5 a0 (some (aa xs 0)) none none) fun t38 =>
 Pw [(N .i64 0),(N .u64 0),(St []),(St []),(St [])] t38 M_0 fun u M_7 =>
 iB (cZ 5 a0 none (some (aa xs 0)) none) fun t41 =>
 Q t41 M_7)) [bW,t15] M)
def xq (p1:Nat) (p2:ak) (a0 a1:AV) (M0:RM) (Q:aj) : Prop :=
 jR p1 a0 fun r f =>
 bU r f M0 fun t2 M =>
 aI a1 6 fun t4 =>
 au M t4 fun t5 =>
 aI t2 0 fun t6 =>
 aB M t6 2 fun t7 =>
 p2 [t5,t7] M fun t8 M_0 =>
 Q t8 M_0
def yz (p1:Nat) (p2:ak) (a0 a1:AV) (M0:RM) (Q:aj) : Prop :=
 jR p1 a1 fun r f =>
 bU r f M0 fun t3 M =>
 aB M t3 2 fun t6 =>
 p2 [a0,t6] M fun t7 M_0 =>
 af .geq t7 (N .i64 0) fun t8 =>
 Q t8 M_0
def Ao (a0 a1:AV) (M0:RM) (Q:aj) : Prop :=
 bu a0 fun t7 =>
 bu a1 fun t9 =>
 af .neq t7 t9 fun bW =>
 av bW (
 Q (Bo false) M0) (
 bu a0 fun t12 =>
 aM (fun next xs M =>
 af .lss (aa xs 0) t12 fun t14 =>
 av t14 (
 ah a0 (aa xs 0) 5 fun t18 =>
 aB M t18 5 fun t19 =>
 ah a1 (aa xs 0) 5 fun t22 =>
 aB M t22 5 fun t23 =>
 mD true [1,1,2,2,2] t19 t23 fun t24 =>
 av t24 (
 Q (Bo false) M) (
 af .add (aa xs 0) (N .i64 1) fun t25 =>
 next [t25] M)) (
 Q (Bo true) M)) [(N .i64 0)] M0)
def Fq (a0 a1 a2:AV) (M0:RM) (Q:aj) : Prop :=
 oW a0 fun t8 =>
 af .geq t8 (N .i64 1) fun t9 =>
 ai t9 true (fun k=>k a0 M0) (fun k=>k .undef M0) fun bM M =>
 ai t9 true (fun k_0=>oW bM fun t12 =>
 k_0 t12 M) (fun k=>k .undef M) fun aun M_2 =>
 ai t9 true (fun k_3=>af .leq aun (N .i64 64) fun t13 =>
 k_3 t13 M_2) (fun k=>k .undef M_2) fun atI M_5 =>
 aK t9 atI (Bo false) fun t14 =>
 ai t14 true (fun k_6=>k_6 a1 M_5) (fun k=>k .undef M_5) fun t16 M_7 =>
 ai t14 true (fun k_8=>oW t16 fun t17 =>
 k_8 t17 M_7) (fun k=>k .undef M_7) fun atz dW =>
 ai t14 true (fun nu=>af .leq atz (N .i64 64) fun t18 =>
 nu t18 dW) (fun k=>k .undef dW) fun Xa ed =>
 aK t14 Xa (Bo false) fun t19 =>
 ai t19 true (fun ik=>ik a2 ed) (fun k=>k .undef ed) fun t21 fZ =>
 ai t19 true (fun zo=>oW t21 fun t22 =>
 zo t22 fZ) (fun k=>k .undef fZ) fun aqQ dG =>
 ai t19 true (fun sI=>af .leq aqQ (N .i64 512) fun t23 =>
 sI t23 dG) (fun k=>k .undef dG) fun aqX dz =>
 aK t19 aqX (Bo false) fun t24 =>
 Q t24 dz
def KH (p1:Nat) (p2 p3:ak) (a0:AV) (M0:RM) (Q:aj) : Prop :=
 Ho p1 64 [(N .i64 0),(N .u64 0),(St []),(St []),(St [])] (N .i64 0) (N .i64 0) fun r f =>
 bU r f M0 fun t7 M =>
 aM (fun next xs M_0 =>
 bu a0 fun bW =>
 af .lss (aa xs 1) bW fun bM =>
 av bM (
 bQ (fun J =>
 ah a0 (aa xs 1) 7 fun t16 =>
 aI t16 2 fun t17 =>
 au M_0 t17 fun t18 =>
 af .eql t18 (N .i64 1) fun t19 =>
 aM (fun x9 fw M_3 =>
 bu a0 fun t22 =>
 af .lss (aa fw 1) t22 fun t23 =>
 av t23 (
 ae (aa fw 0) true (fun k=>k a0 M_3 none) (fun k=>k .undef M_3 none) fun t28 M_4 b =>
 ae (aa fw 0) true (fun k_5=>k_5 (aa fw 1) M_4 none) (fun k=>k .undef M_4 none) fun t29 M_6 b_7 =>
 ae (aa fw 0) true (fun k_8=>ah t28 t29 7 fun t30 =>
 k_8 t30 M_6 none) (fun k=>k .undef M_6 none) fun auG dW aqo =>
 ae (aa fw 0) true (fun nS=>aI auG 6 fun t31 =>
 nS t31 dW none) (fun k=>k .undef dW none) fun aoe fV adz =>
 ae (aa fw 0) true (fun zo=>au fV aoe fun t32 =>
 zo t32 fV none) (fun k=>k .undef fV none) fun arv dG IW =>
 ae (aa fw 0) true (fun iZ=>iZ a0 dG none) (fun k=>k .undef dG none) fun t33 dz KJ =>
 ae (aa fw 0) true (fun nR=>nR (aa xs 1) dz none) (fun k=>k .undef dz none) fun t34 iG XL =>
 ae (aa fw 0) true (fun Co=>ah t33 t34 7 fun t35 =>
 Co t35 iG none) (fun k=>k .undef iG none) fun ani kw Ot =>
 ae (aa fw 0) true (fun CV=>aI ani 0 fun t36 =>
 CV t36 kw none) (fun k=>k .undef kw none) fun amY iR Xx =>
 ae (aa fw 0) true (fun sQ=>aB iR amY 2 fun t37 =>
 sQ t37 iR none) (fun k=>k .undef iR none) fun apj jF ajm =>
 ai (aa fw 0) true (fun yR=>p2 [arv,apj] jF fun t38 iC =>
 yR t38 iC) (fun k=>k .undef jF) fun KO eT =>
 ae (aa fw 0) true (fun wh=>dM KO fun t39 =>
 wh t39 eT none) (fun k=>k .undef eT none) fun aqB l7 YB =>
 aK (aa fw 0) aqB (Bo false) fun t40 =>
 ae t40 true (fun Oj=>Oj (aa fw 1) l7 none) (fun k=>k .undef l7 none) fun t42 mR ad8 =>
 ae t40 true (fun vL=>vL (aa xs 1) mR none) (fun k=>k .undef mR none) fun t43 je SL =>
 ae t40 true (fun yJ=>af .lss t42 t43 fun t44 =>
 yJ t44 je none) (fun k=>k .undef je none) fun arY jE ah6 =>
 ae t40 true (fun MW=>MW arY jE none) (fun k=>k .undef jE none) fun t45 fM Nq =>
 ae t45 true (fun wD=>wD a0 fM none) (fun k=>k .undef fM none) fun t46 iO Nu =>
 ae t45 true (fun tT=>tT (aa fw 1) iO none) (fun k=>k .undef iO none) fun t47 pR aeH =>
 ae t45 true (fun Ck=>ah t46 t47 7 fun t48 =>
 Ck t48 pR none) (fun k=>k .undef pR none) fun aqA jh Tv =>
 ae t45 true (fun CZ=>aI aqA 0 fun t49 =>
 CZ t49 jh none) (fun k=>k .undef jh none) fun apk rO ahN =>
 ae t45 true (fun O7=>aB rO apk 2 fun t50 =>
 O7 t50 rO none) (fun k=>k .undef rO none) fun arI Gr aoY =>
 ae t45 true (fun Gc=>Gc a0 Gr none) (fun k=>k .undef Gr none) fun t51 AB aph =>
 ae t45 true (fun MR=>MR (aa xs 1) AB none) (fun k=>k .undef AB none) fun t52 GU avm =>
 ae t45 true (fun aiO=>ah t51 t52 7 fun t53 =>
 aiO t53 GU none) (fun k=>k .undef GU none) fun aoI yE av5 =>
 ae t45 true (fun agy=>aI aoI 0 fun t54 =>
 agy t54 yE none) (fun k=>k .undef yE none) fun anr Dj awK =>
 ae t45 true (fun ah2=>aB Dj anr 2 fun t55 =>
 ah2 t55 Dj none) (fun k=>k .undef Dj none) fun anz Ia awT =>
 ae t45 true (fun HZ=>mD false [1,1] arI anz fun t56 =>
 HZ t56 Ia none) (fun k=>k .undef Ia none) fun arh Wo b_98 =>
 ae t40 true (fun avv=>aK t45 arh (Bo false) fun t57 =>
 avv t57 Wo none) (fun k=>k .undef Wo none) fun alS VC b_102 =>
 ae t40 true (fun ab9=>dM alS fun t58 =>
 ab9 t58 VC none) (fun k=>k .undef VC none) fun akU IB b_106 =>
 aK t40 akU (Bo false) fun t59 =>
 af .add (aa fw 1) (N .i64 1) fun t25 =>
 x9 [t59,t25] IB) (
 av (aa fw 0) (
 ah a0 (aa xs 1) 7 fun t64 =>
 aI t64 0 fun t65 =>
 aB M_3 t65 2 fun t66 =>
 ah a0 (aa xs 1) 7 fun t69 =>
 aI t69 3 fun t70 =>
 au M_3 t70 fun t71 =>
 ah a0 (aa xs 1) 7 fun t74 =>
 aI t74 4 fun t75 =>
 au M_3 t75 fun t76 =>
 ah a0 (aa xs 1) 7 fun t79 =>
 aI t79 5 fun t80 =>
 au M_3 t80 fun t81 =>
 q8 [(N .i64 0),(N .u64 0),(St []),(St []),(St [])] [(0,2,t66),(2,1,t71),(3,1,t76),(4,1,t81)] fun t82 =>
 p3 [(aa xs 0),t82] M_3 fun t83 xu =>
 J [t83] xu) (
 J [(aa xs 0)] M_3))) [t19,(N .i64 0)] M_0) (fun apA as6 =>
 af .add (aa xs 1) (N .i64 1) fun t13 =>
 next [(aa apA 0),t13] as6)) (
 Q (aa xs 0) M_0)) [t7,(N .i64 0)] M
def Ie (p1:Nat) (a0:AV) (M0:RM) (Q:aj) : Prop :=
 Ho p1 16 [(St [])] (N .i64 0) (N .i64 0) fun r f =>
 bU r f M0 fun t5 M =>
 aM (fun next xs M_0 =>
 bu a0 fun t8 =>
 af .lss (aa xs 1) t8 fun t9 =>
 av t9 (
 bQ (fun J =>
 af .eql (aa xs 1) (N .i64 0) fun t13 =>
 ae t13 false (fun k=>k a0 M_0 none) (fun k=>k .undef M_0 none) fun t15 M_1 b =>
 ae t13 false (fun k_2=>k_2 (aa xs 1) M_1 none) (fun k=>k .undef M_1 none) fun t16 M_3 b_4 =>
 ae t13 false (fun k_5=>ah t15 t16 5 fun t17 =>
 k_5 t17 M_3 none) (fun k=>k .undef M_3 none) fun atr M_7 b_8 =>
 ae t13 false (fun k_9=>aI atr 2 fun t18 =>
 k_9 t18 M_7 none) (fun k=>k .undef M_7 none) fun ZX df Kg =>
 ae t13 false (fun nG=>au df ZX fun t19 =>
 nG t19 df none) (fun k=>k .undef df none) fun ar2 fZ KP =>
 ae t13 false (fun jG=>jG a0 fZ none) (fun k=>k .undef fZ none) fun t20 dG IW =>
 ae t13 false (fun iZ=>iZ (aa xs 1) dG none) (fun k=>k .undef dG none) fun t21 dz KJ =>
 ae t13 false (fun nR=>af .sub t21 (N .i64 1) fun t22 =>
 nR t22 dz none) (fun k=>k .undef dz none) fun Yi fe Et =>
 ae t13 false (fun l6=>ah t20 Yi 5 fun t23 =>
 l6 t23 fe none) (fun k=>k .undef fe none) fun ZN fo yB =>
 ae t13 false (fun iE=>aI ZN 2 fun t24 =>
 iE t24 fo none) (fun k=>k .undef fo none) fun YG eY Kb =>
 ae t13 false (fun jr=>au eY YG fun t25 =>
 jr t25 eY none) (fun k=>k .undef eY none) fun KU dh CJ =>
 ae t13 false (fun su=>fF .neq ar2 KU fun t26 =>
 su t26 dh none) (fun k=>k .undef dh none) fun arN eT Cg =>
 aK t13 (Bo true) arN fun t27 =>
 av t27 (
 ah a0 (aa xs 1) 5 fun t31 =>
 aI t31 2 fun t32 =>
 au eT t32 fun t33 =>
 eB p1 1 [(St [])] [(0,1,t33)] fun YP W9 =>
 bU YP W9 eT fun t34 jS =>
 appW p1 1 16 [(St [])] false (aa xs 0) t34 jS fun t35 fG =>
 J [t35] fG) (
 J [(aa xs 0)] eT)) (fun ll il =>
 af .add (aa xs 1) (N .i64 1) fun bM =>
 next [(aa ll 0),bM] il)) (
 Q (aa xs 0) M_0)) [t5,(N .i64 0)] M
def WO (a0 a1:AV) (M0:RM) (Q:aj) : Prop :=
 bu a0 fun t7 =>
 bu a1 fun t9 =>
 af .neq t7 t9 fun bW =>
 av bW (
 Q (Bo false) M0) (
 aM (fun next xs M =>
 bu a0 fun t13 =>
 af .lss (aa xs 0) t13 fun t14 =>
 av t14 (
 ah a0 (aa xs 0) 5 fun t19 =>
 aB M t19 5 fun t20 =>
 ah a1 (aa xs 0) 5 fun t23 =>
 aB M t23 5 fun t24 =>
 mD true [1,1,2,2,2] t20 t24 fun t25 =>
 av t25 (
 Q (Bo false) M) (
 af .add (aa xs 0) (N .i64 1) fun t16 =>
 next [t16] M)) (
 Q (Bo true) M)) [(N .i64 0)] M0)
def Tu (p1:Nat) (p2 p3:ak) (p4:Nat) (p5:ak) (a0 a1:AV) (M0:RM) (Q:aj) : Prop :=
 jR p1 a0 fun r f =>
 bU r f M0 fun t2 M =>
 jR p1 a1 fun r_0 f_1 =>
 bU r_0 f_1 M fun t3 M_2 =>
 aI t2 1 fun t5 =>
 au M_2 t5 fun t6 =>
 aI t3 1 fun t7 =>
 au M_2 t7 fun t8 =>
 aI t2 0 fun bW =>
 au M_2 bW fun bM =>
 aI t3 0 fun t12 =>
 au M_2 t12 fun t13 =>
 p2 [t6,t8] M_2 fun t9 M_3 =>
 au M_3 bW fun X3 =>
 (X3=bM∧au M_3 t12 fun Gg =>
 (Gg=t13∧p3 [bM,t13] M_3 fun t14 M_4 =>
 eB p4 2 [(N .i64 0)] [(0,1,t9),(1,1,t14)] fun r_5 f_6 =>
 vF r_5 f_6 M_4 fun t15 M_7 b =>
 p5 [t15] M_7 fun t16 M_8 =>
 Q t16 M_8))
def jc (p1 p2 p3 p4 p5 p6:ak) (cv:(FuncId→ak)) (p7 p8 p9:ak) (a0 a1 a2 a3 a4:AV) (M0:RM) (Q:aj) : Prop :=
 aM (fun next xs M =>
 af .sub (aa xs 1) (aa xs 0) fun t23 =>
 af .leq t23 (N .i64 12) fun t25 =>
 av t25 (
 p1 [a0,(aa xs 0),(aa xs 1),a4] M fun t30 M_0 =>
 Q (.tup []) M_0) (
 af .eql (aa xs 2) (N .i64 0) fun t32 =>
 av t32 (
 p2 [a0,(aa xs 0),(aa xs 1),a4] M fun t37 M_1 =>
 Q (.tup []) M_1) (
 bQ (fun J =>
 dM (aa xs 3) fun t39 =>
 av t39 (
 p3 [a0,(aa xs 0),(aa xs 1),a4] M fun t44 M_2 =>
 af .sub (aa xs 2) (N .i64 1) fun t46 =>
 J [t46] M_2) (
 J [(aa xs 2)] M)) (fun bG M_4 =>
 p4 [a0,(aa xs 0),(aa xs 1),a4] M_4 fun t52 M_5 =>
 fI t52 0 fun t53 =>
 fI t52 1 fun t54 =>
 bQ (fun J_6 =>
 af .eql t54 (N .i64 2) fun t56 =>
 av t56 (
 p5 [a0,(aa xs 0),(aa xs 1),a4] M_5 fun t61 M_7 =>
 af .sub (aa xs 1) (N .i64 1) fun t63 =>
 af .sub t53 (aa xs 0) fun t66 =>
 af .sub t63 t66 fun t67 =>
 J_6 [t67,(N .i64 1)] M_7) (
 J_6 [t53,t54] M_5)) (fun vO M_9 =>
 bQ (fun La =>
 ai (aa xs 3) true (fun k=>k (aa xs 4) M_9) (fun k=>k .undef M_9) fun t70 df =>
 aK (aa xs 3) t70 (Bo false) fun t71 =>
 ai t71 true (fun nS=>nS (aa vO 1) df) (fun k=>k .undef df) fun t73 ed =>
 ai t71 true (fun ik=>af .eql t73 (N .i64 1) fun t74 =>
 ik t74 ed) (fun k=>k .undef ed) fun Zn cK =>
 aK t71 Zn (Bo false) fun t75 =>
 av t75 (
 p6 [a0,(aa xs 0),(aa xs 1),a4] cK fun t80 mq =>
 av t80 (
 Q (.tup []) mq) (
 La [] mq)) (
 La [] cK)) (fun aku dU =>
 af .gtr (aa xs 0) (N .i64 0) fun t82 =>
 ae t82 true (fun iZ=>iZ a4 dU none) (fun k=>k .undef dU none) fun t84 dz b =>
 ae t82 true (fun l9=>l9 a0 dz none) (fun k=>k .undef dz none) fun t85 iQ Jw =>
 ae t82 true (fun mi=>mi (aa xs 0) iQ none) (fun k=>k .undef iQ none) fun t86 gF EZ =>
 ae t82 true (fun kQ=>af .sub t86 (N .i64 1) fun t87 =>
 kQ t87 gF none) (fun k=>k .undef gF none) fun XQ fQ RU =>
 ae t82 true (fun vR=>ah t85 XQ 5 fun t88 =>
 vR t88 fQ none) (fun k=>k .undef fQ none) fun aap eU RA =>
 ae t82 true (fun zh=>aB eU aap 5 fun t89 =>
 zh t89 eU none) (fun k=>k .undef eU none) fun XU qX ag5 =>
 ae t82 true (fun wF=>wF a0 qX none) (fun k=>k .undef qX none) fun t90 eT Cg =>
 ae t82 true (fun zk=>zk (aa vO 0) eT none) (fun k=>k .undef eT none) fun t91 l7 YB =>
 ae t82 true (fun Oj=>ah t90 t91 5 fun t92 =>
 Oj t92 l7 none) (fun k=>k .undef l7 none) fun WN il awt =>
 ae t82 true (fun WJ=>aB il WN 5 fun t93 =>
 WJ t93 il none) (fun k=>k .undef il none) fun X6 yj awu =>
 ai t82 true (fun ajc=>cO cv t84 [XU,X6] yj fun t94 ku =>
 ajc t94 ku) (fun k=>k .undef yj) fun Zo fM =>
 ae t82 true (fun IC=>af .lss Zo (N .i64 0) fun t95 =>
 IC t95 fM none) (fun k=>k .undef fM none) fun Wt iO Nu =>
 ae t82 true (fun tT=>dM Wt fun t96 =>
 tT t96 iO none) (fun k=>k .undef iO none) fun YY kR aaf =>
 aK t82 YY (Bo false) fun t97 =>
 av t97 (
 p7 [a0,(aa xs 0),(aa xs 1),(aa vO 0),a4] kR fun wE x8 =>
 next [wE,(aa xs 1),(aa bG 0),(aa xs 3),(aa xs 4)] x8) (
 p8 [a0,(aa xs 0),(aa xs 1),(aa vO 0),a4] kR fun tu jh =>
 fI tu 0 fun nA =>
 fI tu 1 fun sJ =>
 af .sub nA (aa xs 0) fun t117 =>
 af .sub (aa xs 1) nA fun tV =>
 af .quo t23 (N .i64 8) fun sG =>
 af .lss t117 tV fun ig =>
 av ig (
 af .geq t117 sG fun Df =>
 p9 [a0,(aa xs 0),nA,(aa bG 0),a4] jh fun yx EN =>
 af .add nA (N .i64 1) fun IA =>
 next [IA,(aa xs 1),(aa bG 0),Df,sJ] EN) (
 af .geq tV sG fun t139 =>
 af .add nA (N .i64 1) fun O0 =>
 p9 [a0,O0,(aa xs 1),(aa bG 0),a4] jh fun t146 om =>
 next [(aa xs 0),nA,(aa bG 0),t139,sJ] om)))))))) [a1,a2,a3,(Bo true),(Bo true)] M0
def OQ (a0:AV) (M0:RM) (Q:aj) : Prop :=
 bu a0 fun t7 =>
 aM (fun next xs M =>
 af .lss (aa xs 0) t7 fun t9 =>
 av t9 (
 ah a0 (aa xs 0) 1 fun bW =>
 au M bW fun bM =>
 af .neq bM (N .i64 0) fun t14 =>
 av t14 (
 Q bM M) (
 af .add (aa xs 0) (N .i64 1) fun t16 =>
 next [t16] M)) (
 Q (N .i64 0) M)) [(N .i64 0)] M0
def vH (p1:ak) (a0 a1:AV) (M0:RM) (Q:aj) : Prop :=
 p1 [a0] M0 fun t8 M =>
 p1 [a1] M fun bW M_0 =>
 av t8 (
 av bW (
 Q (N .i64 0) M_0) (
 Q (N .i64 (-1)) M_0)) (
 av bW (
 Q (N .i64 1) M_0) (
 fF .lss a0 a1 fun t16 =>
 av t16 (
 Q (N .i64 (-1)) M_0) (
 fF .gtr a0 a1 fun t19 =>
 av t19 (
 Q (N .i64 1) M_0) (
 Q (N .i64 0) M_0))))
def uK (cv:(FuncId→ak)) (a0 a1:AV) (M0:RM) (Q:aj) : Prop :=
 bu a0 fun t7 =>
 aM (fun next xs M =>
 af .lss (aa xs 0) t7 fun t9 =>
 av t9 (
 ah a0 (aa xs 0) 5 fun t14 =>
 aB M t14 5 fun t15 =>
 cO cv a1 [t15] M fun t16 M_0 =>
 av t16 (
 Q (aa xs 0) M_0) (
 af .add (aa xs 0) (N .i64 1) fun t18 =>
 next [t18] M_0)) (
 Q (N .i64 (-1)) M)) [(N .i64 0)] M0
def EQ (p1:Nat) (a0 a1:AV) (M0:RM) (Q:aj) : Prop :=
 jR p1 a1 fun r f =>
 bU r f M0 fun t3 M =>
 bu a0 fun t7 =>
 aM (fun next xs M_0 =>
 af .lss (aa xs 0) t7 fun t9 =>
 av t9 (
 aB M_0 t3 2 fun bM =>
 ah a0 (aa xs 0) 2 fun t14 =>
 aB M_0 t14 2 fun t15 =>
 mD false [1,1] bM t15 fun t16 =>
 av t16 (
 Q (aa xs 0) M_0) (
 af .add (aa xs 0) (N .i64 1) fun t18 =>
 next [t18] M_0)) (
 Q (N .i64 (-1)) M_0)) [(N .i64 0)] M
def Hl (p1:Nat) (p2:ak) (a0 a1:AV) (M0:RM) (Q:aj) : Prop :=
 jR p1 a1 fun r f =>
 bU r f M0 fun t3 M =>
 aM (fun next xs M_0 =>
 bu a0 fun t8 =>
 af .lss (aa xs 0) t8 fun t9 =>
 ae t9 true (fun k=>k a0 M_0 none) (fun k=>k .undef M_0 none) fun bM M_1 b =>
 ae t9 true (fun k_2=>k_2 (aa xs 0) M_1 none) (fun k=>k .undef M_1 none) fun t12 M_3 b_4 =>
 ae t9 true (fun k_5=>ah bM t12 5 fun t13 =>
 k_5 t13 M_3 none) (fun k=>k .undef M_3 none) fun aek M_7 b_8 =>
 ae t9 true (fun k_9=>aB M_7 aek 5 fun t14 =>
 k_9 t14 M_7 none) (fun k=>k .undef M_7 none) fun Yw df Kg =>
 ae t9 true (fun nG=>aB df t3 5 fun t15 =>
 nG t15 df none) (fun k=>k .undef df none) fun apF fZ KP =>
 ai t9 true (fun jG=>p2 [Yw,apF] fZ fun t16 dG =>
 jG t16 dG) (fun k=>k .undef fZ) fun aoD jA =>
 aK t9 aoD (Bo false) fun t17 =>
 av t17 (
 af .add (aa xs 0) (N .i64 1) fun t19 =>
 next [t19] jA) (
 eB p1 0 [(N .i64 0),(N .u64 0),(St []),(St []),(St [])] [] fun axi avC =>
 vF axi avC jA fun t20 iQ Jw =>
 iB (cZ 5 a0 none (some (aa xs 0)) none) fun t23 =>
 aB iQ t3 5 fun t25 =>
 eB p1 1 [(N .i64 0),(N .u64 0),(St []),(St []),(St [])] [(0,5,t25)] fun avX avq =>
 vF avX avq iQ fun t26 kg adn =>
 iB (cZ 5 a0 (some (aa xs 0)) none none) fun t30 =>
 appW p1 5 64 [(N .i64 0),(N .u64 0),(St []),(St []),(St [])] false t20 t23 kg fun t24 fo =>
 aB fo t3 5 fun KU =>
 (KU=t25∧eB p1 1 [(N .i64 0),(N .u64 0),(St []),(St []),(St [])] [(0,5,t25)] fun awL aw3 =>
 (Eb adn fo awL aw3 t26∧iB (cZ 5 a0 (some (aa xs 0)) none none) fun aq4 =>
 (aq4=t30∧appW p1 5 64 [(N .i64 0),(N .u64 0),(St []),(St []),(St [])] false t24 t26 fo fun t27 fQ =>
 iB (cZ 5 a0 (some (aa xs 0)) none none) fun ao6 =>
 (ao6=t30∧appW p1 5 64 [(N .i64 0),(N .u64 0),(St []),(St []),(St [])] false t27 t30 fQ fun t31 nH =>
 Q t31 nH)))))) [(N .i64 0)] M
def vI (p1:ak) (a0 a1:AV) (M0:RM) (Q:aj) : Prop :=
 p1 [a0] M0 fun t8 M =>
 p1 [a1] M fun bW M_0 =>
 av t8 (
 av bW (
 Q (N .i64 0) M_0) (
 Q (N .i64 (-1)) M_0)) (
 av bW (
 Q (N .i64 1) M_0) (
 af .lss a0 a1 fun t16 =>
 av t16 (
 Q (N .i64 (-1)) M_0) (
 af .gtr a0 a1 fun t19 =>
 av t19 (
 Q (N .i64 1) M_0) (
 Q (N .i64 0) M_0))))
def Av (p1:ak) (a0 a1:AV) (M0:RM) (Q:aj) : Prop :=
 p1 [a0] M0 fun t8 M =>
 p1 [a1] M fun bW M_0 =>
 av t8 (
 av bW (
 Q (N .i64 0) M_0) (
 Q (N .i64 (-1)) M_0)) (
 av bW (
 Q (N .i64 1) M_0) (
 af .lss a0 a1 fun t16 =>
 av t16 (
 Q (N .i64 (-1)) M_0) (
 af .gtr a0 a1 fun t19 =>
 av t19 (
 Q (N .i64 1) M_0) (
 Q (N .i64 0) M_0))))
def gp (cv:(FuncId→ak)) (a0 a1 a2 a3:AV) (M0:RM) (Q:aj) : Prop :=
 af .add a1 (N .i64 1) fun bM =>
 aM (fun next xs M =>
 af .lss (aa xs 0) a2 fun t14 =>
 av t14 (
 aM (fun qB bC M_2 =>
 af .gtr (aa bC 0) a1 fun t20 =>
 ae t20 true (fun k=>k a3 M_2 none) (fun k=>k .undef M_2 none) fun t22 M_3 b =>
 ae t20 true (fun k_4=>k_4 a0 M_3 none) (fun k=>k .undef M_3 none) fun t23 M_5 b_6 =>
 ae t20 true (fun k_7=>k_7 (aa bC 0) M_5 none) (fun k=>k .undef M_5 none) fun t24 M_8 b_9 =>
 ae t20 true (fun kN=>ah t23 t24 5 fun t25 =>
 kN t25 M_8 none) (fun k=>k .undef M_8 none) fun WL fA KZ =>
 ae t20 true (fun ik=>aB fA WL 5 fun t26 =>
 ik t26 fA none) (fun k=>k .undef fA none) fun WG cK Al =>
 ae t20 true (fun nQ=>nQ a0 cK none) (fun k=>k .undef cK none) fun t27 dU Kh =>
 ae t20 true (fun nD=>nD (aa bC 0) dU none) (fun k=>k .undef dU none) fun t28 fD IM =>
 ae t20 true (fun nE=>af .sub t28 (N .i64 1) fun t29 =>
 nE t29 fD none) (fun k=>k .undef fD none) fun WM gF EZ =>
 ae t20 true (fun kQ=>ah t27 WM 5 fun t30 =>
 kQ t30 gF none) (fun k=>k .undef gF none) fun XC fQ RU =>
 ae t20 true (fun vR=>aB fQ XC 5 fun t31 =>
 vR t31 fQ none) (fun k=>k .undef fQ none) fun YX eU RA =>
 ai t20 true (fun zh=>cO cv t22 [WG,YX] eU fun t32 dh =>
 zh t32 dh) (fun k=>k .undef eU) fun Zh iC =>
 ae t20 true (fun wF=>af .lss Zh (N .i64 0) fun t33 =>
 wF t33 iC none) (fun k=>k .undef iC none) fun XP mJ X7 =>
 aK t20 XP (Bo false) fun t34 =>
 av t34 (
 af .sub (aa bC 0) (N .i64 1) fun t41 =>
 af .sub (aa bC 0) (N .i64 1) fun t44 =>
 ah a0 t44 5 fun t45 =>
 aB mJ t45 5 fun t46 =>
 ah a0 (aa bC 0) 5 fun t49 =>
 aB mJ t49 5 fun t50 =>
 ah a0 (aa bC 0) 5 fun t51 =>
 aF mJ t51 t46 5 fun l7 =>
 ah a0 t41 5 fun t52 =>
 aF l7 t52 t50 5 fun jS =>
 af .sub (aa bC 0) (N .i64 1) fun t36 =>
 qB [t36] jS) (
 af .add (aa xs 0) (N .i64 1) fun t16 =>
 next [t16] mJ)) [(aa xs 0)] M) (
 Q (.tup []) M)) [bM] M0
def oq (p1:ak) (a0 a1 a2 a3:AV) (M0:RM) (Q:aj) : Prop :=
 af .sub a2 a1 fun t16 =>
 af .sub t16 (N .i64 1) fun t18 =>
 af .quo t18 (N .i64 2) fun t19 =>
 aM (fun next xs M =>
 af .geq (aa xs 0) (N .i64 0) fun t21 =>
 av t21 (
 p1 [a0,(aa xs 0),t16,a1,a3] M fun t29 M_0 =>
 af .sub (aa xs 0) (N .i64 1) fun t23 =>
 next [t23] M_0) (
 af .sub t16 (N .i64 1) fun t31 =>
 aM (fun x9 fw M_3 =>
 af .geq (aa fw 0) (N .i64 0) fun t33 =>
 av t33 (
 af .add a1 (aa fw 0) fun t41 =>
 af .add a1 (aa fw 0) fun t45 =>
 ah a0 t45 5 fun t46 =>
 aB M_3 t46 5 fun t47 =>
 ah a0 a1 5 fun t50 =>
 aB M_3 t50 5 fun t51 =>
 ah a0 a1 5 fun t52 =>
 aF M_3 t52 t47 5 fun M_4 =>
 ah a0 t41 5 fun t53 =>
 aF M_4 t53 t51 5 fun M_5 =>
 p1 [a0,(N .i64 0),(aa fw 0),a1,a3] M_5 fun t59 M_6 =>
 af .sub (aa fw 0) (N .i64 1) fun t35 =>
 x9 [t35] M_6) (
 Q (.tup []) M_3)) [t31] M)) [t19] M0
def kK (p1:Nat) (p2 p3:ak) (a0 a1 a2 a3:AV) (M0:RM) (Q:aj) : Prop :=
 af .sub a2 a1 fun t15 =>
 af .geq t15 (N .i64 8) fun t17 =>
 av t17 (
 qA .u64 t15 fun t19 =>
 bU (.row [(N .u64 0)] false p1 0) (fun b=>.ptr b 0) M0 fun t9 M =>
 aF M t9 t19 1 fun M_0 =>
 p2 [t15] M_0 fun t21 M_1 =>
 af .quo t15 (N .i64 4) fun t24 =>
 af .mul t24 (N .i64 2) fun t25 =>
 af .add a1 t25 fun t26 =>
 af .sub t26 (N .i64 1) fun t27 =>
 aM (fun next xs M_2 =>
 af .quo t15 (N .i64 4) fun t31 =>
 af .mul t31 (N .i64 2) fun t32 =>
 af .add a1 t32 fun t33 =>
 af .add t33 (N .i64 1) fun t34 =>
 af .leq (aa xs 0) t34 fun t35 =>
 av t35 (
 bQ (fun J =>
 p3 [t9] M_2 fun t38 M_3 =>
 af .sub t21 (N .u64 1) fun t40 =>
 af .and t38 t40 fun t41 =>
 qA .i64 t41 fun t42 =>
 bQ (fun J_4 =>
 af .geq t42 t15 fun t45 =>
 av t45 (
 af .sub t42 t15 fun t48 =>
 J_4 [t48] M_3) (
 J_4 [t42] M_3)) (fun kT M_6 =>
 af .add a1 (aa kT 0) fun t54 =>
 af .add a1 (aa kT 0) fun t58 =>
 ah a0 t58 5 fun t59 =>
 aB M_6 t59 5 fun t60 =>
 ah a0 (aa xs 0) 5 fun t63 =>
 aB M_6 t63 5 fun t64 =>
 ah a0 (aa xs 0) 5 fun t65 =>
 aF M_6 t65 t60 5 fun M_7 =>
 ah a0 t54 5 fun t66 =>
 aF M_7 t66 t64 5 fun M_8 =>
 J [] M_8)) (fun aoa dW =>
 af .add (aa xs 0) (N .i64 1) fun t37 =>
 next [t37] dW)) (
 Q (.tup []) M_2)) [t27] M_1) (
 Q (.tup []) M0)
def mf (p1:Nat) (p2 p3:ak) (a0 a1 a2 a3:AV) (M0:RM) (Q:aj) : Prop :=
 af .sub a2 a1 fun t17 =>
 bU (.row [(N .i64 0)] false p1 0) (fun b=>.ptr b 0) M0 fun bM M =>
 af .quo t17 (N .i64 4) fun t20 =>
 af .mul t20 (N .i64 1) fun t21 =>
 af .add a1 t21 fun t22 =>
 af .quo t17 (N .i64 4) fun t25 =>
 af .mul t25 (N .i64 2) fun t26 =>
 af .add a1 t26 fun t27 =>
 af .quo t17 (N .i64 4) fun t30 =>
 af .mul t30 (N .i64 3) fun t31 =>
 af .add a1 t31 fun t32 =>
 bQ (fun J =>
 af .geq t17 (N .i64 8) fun t34 =>
 av t34 (
 bQ (fun J_0 =>
 af .geq t17 (N .i64 50) fun t36 =>
 av t36 (
 p2 [a0,t22,bM,a3] M fun t40 M_1 =>
 p2 [a0,t27,bM,a3] M_1 fun t44 M_2 =>
 p2 [a0,t32,bM,a3] M_2 fun t48 M_3 =>
 J_0 [t40,t44,t48] M_3) (
 J_0 [t22,t27,t32] M)) (fun xs M_4 =>
 p3 [a0,(aa xs 0),(aa xs 1),(aa xs 2),bM,a3] M_4 fun t54 M_5 =>
 J [t54] M_5)) (
 J [t27] M)) (fun nk M_7 =>
 au M_7 bM fun t55 =>
 af .eql t55 (N .i64 0) fun t58 =>
 av t58 (
 Q (.tup [(aa nk 0),(N .i64 1)]) M_7) (
 af .eql t55 (N .i64 12) fun t61 =>
 av t61 (
 Q (.tup [(aa nk 0),(N .i64 2)]) M_7) (
 Q (.tup [(aa nk 0),(N .i64 0)]) M_7)))
def lu (a0 a1 a2 a3:AV) (M0:RM) (Q:aj) : Prop :=
 af .sub a2 (N .i64 1) fun t12 =>
 aM (fun next xs M =>
 af .lss (aa xs 0) (aa xs 1) fun t15 =>
 av t15 (
 ah a0 (aa xs 1) 5 fun t22 =>
 aB M t22 5 fun t23 =>
 ah a0 (aa xs 0) 5 fun t26 =>
 aB M t26 5 fun t27 =>
 ah a0 (aa xs 0) 5 fun t28 =>
 aF M t28 t23 5 fun M_0 =>
 ah a0 (aa xs 1) 5 fun t29 =>
 aF M_0 t29 t27 5 fun M_1 =>
 af .add (aa xs 0) (N .i64 1) fun t31 =>
 af .sub (aa xs 1) (N .i64 1) fun t33 =>
 next [t31,t33] M_1) (
 Q (.tup []) M)) [a1,t12] M0
def iN (cv:(FuncId→ak)) (a0 a1 a2 a3:AV) (M0:RM) (Q:aj) : Prop :=
 af .add a1 (N .i64 1) fun t14 =>
 aM (fun next xs M =>
 af .lss (aa xs 1) (N .i64 5) fun t16 =>
 av t16 (
 bQ (fun J =>
 aM (fun qB bC M_2 =>
 af .lss (aa bC 0) a2 fun t21 =>
 ae t21 true (fun k=>k a3 M_2 none) (fun k=>k .undef M_2 none) fun t23 M_3 b =>
 ae t21 true (fun k_4=>k_4 a0 M_3 none) (fun k=>k .undef M_3 none) fun t24 M_5 b_6 =>
 ae t21 true (fun k_7=>k_7 (aa bC 0) M_5 none) (fun k=>k .undef M_5 none) fun t25 M_8 b_9 =>
 ae t21 true (fun kN=>ah t24 t25 5 fun t26 =>
 kN t26 M_8 none) (fun k=>k .undef M_8 none) fun Zr fA KZ =>
 ae t21 true (fun ik=>aB fA Zr 5 fun t27 =>
 ik t27 fA none) (fun k=>k .undef fA none) fun YR cK Al =>
 ae t21 true (fun nQ=>nQ a0 cK none) (fun k=>k .undef cK none) fun t28 dU Kh =>
 ae t21 true (fun nD=>nD (aa bC 0) dU none) (fun k=>k .undef dU none) fun t29 fD IM =>
 ae t21 true (fun nE=>af .sub t29 (N .i64 1) fun t30 =>
 nE t30 fD none) (fun k=>k .undef fD none) fun Yn gF EZ =>
 ae t21 true (fun kQ=>ah t28 Yn 5 fun t31 =>
 kQ t31 gF none) (fun k=>k .undef gF none) fun Kk fQ RU =>
 ae t21 true (fun vR=>aB fQ Kk 5 fun t32 =>
 vR t32 fQ none) (fun k=>k .undef fQ none) fun KA eU RA =>
 ai t21 true (fun zh=>cO cv t23 [YR,KA] eU fun t33 dh =>
 zh t33 dh) (fun k=>k .undef eU) fun aab iC =>
 ae t21 true (fun wF=>af .lss aab (N .i64 0) fun t34 =>
 wF t34 iC none) (fun k=>k .undef iC none) fun Km mJ X7 =>
 ae t21 true (fun Cn=>dM Km fun t35 =>
 Cn t35 mJ none) (fun k=>k .undef mJ none) fun XT fG SY =>
 aK t21 XT (Bo false) fun t36 =>
 av t36 (
 af .add (aa bC 0) (N .i64 1) fun t38 =>
 qB [t38] fG) (
 af .eql (aa bC 0) a2 fun t41 =>
 av t41 (
 Q (Bo true) fG) (
 af .sub a2 a1 fun t44 =>
 af .lss t44 (N .i64 50) fun t45 =>
 av t45 (
 Q (Bo false) fG) (
 af .sub (aa bC 0) (N .i64 1) fun t50 =>
 af .sub (aa bC 0) (N .i64 1) fun t53 =>
 ah a0 t53 5 fun t54 =>
 aB fG t54 5 fun t55 =>
 ah a0 (aa bC 0) 5 fun t58 =>
 aB fG t58 5 fun t59 =>
 ah a0 (aa bC 0) 5 fun t60 =>
 aF fG t60 t55 5 fun il =>
 ah a0 t50 5 fun t61 =>
 aF il t61 t59 5 fun mW =>
 bQ (fun O9 =>
 af .sub (aa bC 0) a1 fun t64 =>
 af .geq t64 (N .i64 2) fun t65 =>
 av t65 (
 af .sub (aa bC 0) (N .i64 1) fun t67 =>
 aM (fun Tm mX ic =>
 af .geq (aa mX 0) (N .i64 1) fun t69 =>
 av t69 (
 ah a0 (aa mX 0) 5 fun t75 =>
 aB ic t75 5 fun t76 =>
 af .sub (aa mX 0) (N .i64 1) fun t79 =>
 ah a0 t79 5 fun t80 =>
 aB ic t80 5 fun t81 =>
 cO cv a3 [t76,t81] ic fun t82 jE =>
 af .lss t82 (N .i64 0) fun t83 =>
 dM t83 fun t84 =>
 av t84 (
 O9 [] jE) (
 af .sub (aa mX 0) (N .i64 1) fun t89 =>
 af .sub (aa mX 0) (N .i64 1) fun t92 =>
 ah a0 t92 5 fun t93 =>
 aB jE t93 5 fun t94 =>
 ah a0 (aa mX 0) 5 fun t97 =>
 aB jE t97 5 fun t98 =>
 ah a0 (aa mX 0) 5 fun t99 =>
 aF jE t99 t94 5 fun ku =>
 ah a0 t89 5 fun kP =>
 aF ku kP t98 5 fun l8 =>
 af .sub (aa mX 0) (N .i64 1) fun t71 =>
 Tm [t71] l8)) (
 O9 [] ic)) [t67] mW) (
 O9 [] mW)) (fun atV vM =>
 af .sub a2 (aa bC 0) fun wE =>
 af .geq wE (N .i64 2) fun vP =>
 av vP (
 af .add (aa bC 0) (N .i64 1) fun Cr =>
 aM (fun SE pz nK =>
 af .lss (aa pz 0) a2 fun t109 =>
 av t109 (
 ah a0 (aa pz 0) 5 fun Dn =>
 aB nK Dn 5 fun t116 =>
 af .sub (aa pz 0) (N .i64 1) fun t119 =>
 ah a0 t119 5 fun tV =>
 aB nK tV 5 fun Dp =>
 cO cv a3 [t116,Dp] nK fun sG qY =>
 af .lss sG (N .i64 0) fun CQ =>
 dM CQ fun t124 =>
 av t124 (
 J [(aa bC 0)] qY) (
 af .sub (aa pz 0) (N .i64 1) fun tN =>
 af .sub (aa pz 0) (N .i64 1) fun yN =>
 ah a0 yN 5 fun G8 =>
 aB qY G8 5 fun yx =>
 ah a0 (aa pz 0) 5 fun Hr =>
 aB qY Hr 5 fun t138 =>
 ah a0 (aa pz 0) 5 fun t139 =>
 aF qY t139 yx 5 fun pR =>
 ah a0 tN 5 fun Yr =>
 aF pR Yr t138 5 fun kR =>
 af .add (aa pz 0) (N .i64 1) fun tu =>
 SE [tu] kR)) (
 J [(aa bC 0)] nK)) [Cr] vM) (
 J [(aa bC 0)] vM)))))) [(aa xs 0)] M) (fun ab4 x8 =>
 af .add (aa xs 1) (N .i64 1) fun t18 =>
 next [(aa ab4 0),t18] x8)) (
 Q (Bo false) M)) [t14,(N .i64 0)] M0
def ko (cv:(FuncId→ak)) (a0 a1 a2 a3 a4:AV) (M0:RM) (Q:aj) : Prop :=
 ah a0 a3 5 fun t19 =>
 aB M0 t19 5 fun t20 =>
 ah a0 a1 5 fun t23 =>
 aB M0 t23 5 fun t24 =>
 ah a0 a1 5 fun t25 =>
 aF M0 t25 t20 5 fun M =>
 ah a0 a3 5 fun t26 =>
 aF M t26 t24 5 fun M_0 =>
 af .add a1 (N .i64 1) fun t28 =>
 af .sub a2 (N .i64 1) fun t30 =>
 aM (fun next xs M_1 =>
 aM (fun tJ bG M_4 =>
 af .leq (aa bG 0) (aa xs 1) fun t33 =>
 ae t33 true (fun k=>k a4 M_4 none) (fun k=>k .undef M_4 none) fun t35 M_5 b =>
 ae t33 true (fun k_6=>k_6 a0 M_5 none) (fun k=>k .undef M_5 none) fun t36 M_7 b_8 =>
 ae t33 true (fun k_9=>k_9 a1 M_7 none) (fun k=>k .undef M_7 none) fun t37 dW aqo =>
 ae t33 true (fun nS=>ah t36 t37 5 fun t38 =>
 nS t38 dW none) (fun k=>k .undef dW none) fun XY fV adz =>
 ae t33 true (fun zo=>aB fV XY 5 fun t39 =>
 zo t39 fV none) (fun k=>k .undef fV none) fun Xt dG IW =>
 ae t33 true (fun iZ=>iZ a0 dG none) (fun k=>k .undef dG none) fun t40 dz KJ =>
 ae t33 true (fun nR=>nR (aa bG 0) dz none) (fun k=>k .undef dz none) fun t41 iG XL =>
 ae t33 true (fun Co=>ah t40 t41 5 fun t42 =>
 Co t42 iG none) (fun k=>k .undef iG none) fun Xl kw Ot =>
 ae t33 true (fun CV=>aB kw Xl 5 fun t43 =>
 CV t43 kw none) (fun k=>k .undef kw none) fun Xb iR Xx =>
 ai t33 true (fun sQ=>cO cv t35 [Xt,Xb] iR fun t44 CF =>
 sQ t44 CF) (fun k=>k .undef iR) fun ZG dh =>
 ae t33 true (fun yR=>af .lss ZG (N .i64 0) fun t45 =>
 yR t45 dh none) (fun k=>k .undef dh none) fun XO vQ apX =>
 ae t33 true (fun wh=>dM XO fun t46 =>
 wh t46 vQ none) (fun k=>k .undef vQ none) fun XB l7 YB =>
 aK t33 XB (Bo false) fun t47 =>
 av t47 (
 af .add (aa bG 0) (N .i64 1) fun t49 =>
 tJ [t49] l7) (
 aM (fun Tk ll il =>
 af .leq (aa bG 0) (aa ll 0) fun t52 =>
 ae t52 true (fun vL=>vL a4 il none) (fun k=>k .undef il none) fun t54 je SL =>
 ae t52 true (fun yJ=>yJ a0 je none) (fun k=>k .undef je none) fun t55 ic Oy =>
 ae t52 true (fun yG=>yG a1 ic none) (fun k=>k .undef ic none) fun t56 l8 apd =>
 ae t52 true (fun IC=>ah t55 t56 5 fun t57 =>
 IC t57 l8 none) (fun k=>k .undef l8 none) fun YN iO Nu =>
 ae t52 true (fun tT=>aB iO YN 5 fun t58 =>
 tT t58 iO none) (fun k=>k .undef iO none) fun YO kR aaf =>
 ae t52 true (fun OG=>OG a0 kR none) (fun k=>k .undef kR none) fun t59 jh Tv =>
 ae t52 true (fun CZ=>CZ (aa ll 0) jh none) (fun k=>k .undef jh none) fun t60 EJ axm =>
 ae t52 true (fun agp=>ah t59 t60 5 fun t61 =>
 agp t61 EJ none) (fun k=>k .undef EJ none) fun XV rJ arc =>
 ae t52 true (fun X0=>aB rJ XV 5 fun t62 =>
 X0 t62 rJ none) (fun k=>k .undef rJ none) fun WX AB aph =>
 ai t52 true (fun MR=>cO cv t54 [YO,WX] AB fun t63 GU =>
 MR t63 GU) (fun k=>k .undef AB) fun ZQ j6 =>
 ae t52 true (fun Wj=>af .lss ZQ (N .i64 0) fun t64 =>
 Wj t64 j6 none) (fun k=>k .undef j6 none) fun Xh wu awX =>
 aK t52 Xh (Bo false) fun t65 =>
 av t65 (
 af .sub (aa ll 0) (N .i64 1) fun t67 =>
 Tk [t67] wu) (
 af .gtr (aa bG 0) (aa ll 0) fun t70 =>
 av t70 (
 Q (aa bG 0) wu) (
 ah a0 (aa ll 0) 5 fun t77 =>
 aB wu t77 5 fun t78 =>
 ah a0 (aa bG 0) 5 fun t81 =>
 aB wu t81 5 fun t82 =>
 ah a0 (aa bG 0) 5 fun t83 =>
 aF wu t83 t78 5 fun yY =>
 ah a0 (aa ll 0) 5 fun t84 =>
 aF yY t84 t82 5 fun Dj =>
 af .add (aa bG 0) (N .i64 1) fun t86 =>
 af .sub (aa ll 0) (N .i64 1) fun t88 =>
 next [t86,t88] Dj))) [(aa xs 1)] l7)) [(aa xs 0)] M_1) [t28,t30] M_0
def nI (cv:(FuncId→ak)) (a0 a1 a2 a3 a4:AV) (M0:RM) (Q:aj) : Prop :=
 ah a0 a3 5 fun t20 =>
 aB M0 t20 5 fun t21 =>
 ah a0 a1 5 fun t24 =>
 aB M0 t24 5 fun t25 =>
 ah a0 a1 5 fun t26 =>
 aF M0 t26 t21 5 fun M =>
 ah a0 a3 5 fun t27 =>
 aF M t27 t25 5 fun M_0 =>
 af .add a1 (N .i64 1) fun t29 =>
 af .sub a2 (N .i64 1) fun t31 =>
 aM (fun next xs M_1 =>
 af .leq (aa xs 0) t31 fun t34 =>
 ae t34 true (fun k=>k a4 M_1 none) (fun k=>k .undef M_1 none) fun t36 M_2 b =>
 ae t34 true (fun k_3=>k_3 a0 M_2 none) (fun k=>k .undef M_2 none) fun t37 M_4 b_5 =>
 ae t34 true (fun k_6=>k_6 (aa xs 0) M_4 none) (fun k=>k .undef M_4 none) fun t38 M_7 b_8 =>
 ae t34 true (fun k_9=>ah t37 t38 5 fun t39 =>
 k_9 t39 M_7 none) (fun k=>k .undef M_7 none) fun K7 df Kg =>
 ae t34 true (fun nG=>aB df K7 5 fun t40 =>
 nG t40 df none) (fun k=>k .undef df none) fun KN fZ KP =>
 ae t34 true (fun jG=>jG a0 fZ none) (fun k=>k .undef fZ none) fun t41 dG IW =>
 ae t34 true (fun iZ=>iZ a1 dG none) (fun k=>k .undef dG none) fun t42 dz KJ =>
 ae t34 true (fun nR=>ah t41 t42 5 fun t43 =>
 nR t43 dz none) (fun k=>k .undef dz none) fun Y5 fe Et =>
 ae t34 true (fun l6=>aB fe Y5 5 fun t44 =>
 l6 t44 fe none) (fun k=>k .undef fe none) fun Ka fo yB =>
 ai t34 true (fun iE=>cO cv t36 [KN,Ka] fo fun t45 iR =>
 iE t45 iR) (fun k=>k .undef fo) fun Ws eU =>
 ae t34 true (fun jr=>af .lss Ws (N .i64 0) fun t46 =>
 jr t46 eU none) (fun k=>k .undef eU none) fun Ke dh CJ =>
 aK t34 Ke (Bo false) fun t47 =>
 av t47 (
 af .add (aa xs 0) (N .i64 1) fun t49 =>
 next [t49] dh) (
 aM (fun FZ iy eT =>
 af .leq (aa xs 0) (aa iy 0) fun t52 =>
 ae t52 true (fun wh=>wh a4 eT none) (fun k=>k .undef eT none) fun t54 iL TC =>
 ae t52 true (fun zn=>zn a0 iL none) (fun k=>k .undef iL none) fun t55 fG SY =>
 ae t52 true (fun Hw=>Hw (aa iy 0) fG none) (fun k=>k .undef fG none) fun t56 mW arn =>
 ae t52 true (fun Cj=>ah t55 t56 5 fun t57 =>
 Cj t57 mW none) (fun k=>k .undef mW none) fun Yz ic Oy =>
 ae t52 true (fun yG=>aB ic Yz 5 fun t58 =>
 yG t58 ic none) (fun k=>k .undef ic none) fun aah fM Nq =>
 ae t52 true (fun wD=>wD a0 fM none) (fun k=>k .undef fM none) fun t59 iO Nu =>
 ae t52 true (fun tT=>tT a1 iO none) (fun k=>k .undef iO none) fun t60 pR aeH =>
 ae t52 true (fun Ck=>ah t59 t60 5 fun t61 =>
 Ck t61 pR none) (fun k=>k .undef pR none) fun aai jh Tv =>
 ae t52 true (fun CZ=>aB jh aai 5 fun t62 =>
 CZ t62 jh none) (fun k=>k .undef jh none) fun Xo rO ahN =>
 ai t52 true (fun O7=>cO cv t54 [aah,Xo] rO fun t63 rJ =>
 O7 t63 rJ) (fun k=>k .undef rO) fun aad Ez =>
 ae t52 true (fun Gc=>af .lss aad (N .i64 0) fun t64 =>
 Gc t64 Ez none) (fun k=>k .undef Ez none) fun YW CW aqN =>
 ae t52 true (fun O4=>dM YW fun t65 =>
 O4 t65 CW none) (fun k=>k .undef CW none) fun aan j6 ai9 =>
 aK t52 aan (Bo false) fun t66 =>
 av t66 (
 af .sub (aa iy 0) (N .i64 1) fun t68 =>
 FZ [t68] j6) (
 af .gtr (aa xs 0) (aa iy 0) fun t71 =>
 av t71 (
 ah a0 a1 5 fun t78 =>
 aB j6 t78 5 fun t79 =>
 ah a0 (aa iy 0) 5 fun t82 =>
 aB j6 t82 5 fun t83 =>
 ah a0 (aa iy 0) 5 fun t84 =>
 aF j6 t84 t79 5 fun yE =>
 ah a0 a1 5 fun t85 =>
 aF yE t85 t83 5 fun wu =>
 Q (.tup [(aa iy 0),(Bo true)]) wu) (
 ah a0 (aa iy 0) 5 fun t93 =>
 aB j6 t93 5 fun t94 =>
 ah a0 (aa xs 0) 5 fun t97 =>
 aB j6 t97 5 fun t98 =>
 ah a0 (aa xs 0) 5 fun t99 =>
 aF j6 t99 t94 5 fun y5 =>
 ah a0 (aa iy 0) 5 fun kP =>
 aF y5 kP t98 5 fun yY =>
 af .add (aa xs 0) (N .i64 1) fun Y8 =>
 af .sub (aa iy 0) (N .i64 1) fun vP =>
 aM (fun RX Gq vZ =>
 aM (fun TJ oV xY =>
 af .leq (aa oV 0) (aa Gq 1) fun t107 =>
 ae t107 true (fun HZ=>HZ a4 xY none) (fun k=>k .undef xY none) fun t109 CB anK =>
 ae t107 true (fun Ol=>Ol a0 CB none) (fun k=>k .undef CB none) fun wo xD Vx =>
 ae t107 true (fun Bu=>Bu (aa oV 0) xD none) (fun k=>k .undef xD none) fun tu rU ac4 =>
 ae t107 true (fun P5=>ah wo tu 5 fun nA =>
 P5 nA rU none) (fun k=>k .undef rU none) fun OL xk akb =>
 ae t107 true (fun IL=>aB xk OL 5 fun sJ =>
 IL sJ xk none) (fun k=>k .undef xk none) fun N7 uz aj3 =>
 ae t107 true (fun Gd=>Gd a0 uz none) (fun k=>k .undef uz none) fun H5 xJ ajJ =>
 ae t107 true (fun QI=>QI a1 xJ none) (fun k=>k .undef xJ none) fun Dn qQ ajM =>
 ae t107 true (fun PQ=>ah H5 Dn 5 fun t116 =>
 PQ t116 qQ none) (fun k=>k .undef qQ none) fun Oh qf VE =>
 ae t107 true (fun Bl=>aB qf Oh 5 fun t117 =>
 Bl t117 qf none) (fun k=>k .undef qf none) fun OE mM VP =>
 ai t107 true (fun Bz=>cO cv t109 [N7,OE] mM fun qR GA =>
 Bz qR GA) (fun k=>k .undef mM) fun OT Bf =>
 ae t107 true (fun Bc=>af .lss OT (N .i64 0) fun t119 =>
 Bc t119 Bf none) (fun k=>k .undef Bf none) fun OB vz aeD =>
 aK t107 OB (Bo false) fun tV =>
 av tV (
 af .add (aa oV 0) (N .i64 1) fun sG =>
 TJ [sG] vz) (
 aM (fun NC jd Be =>
 af .leq (aa oV 0) (aa jd 0) fun ig =>
 ae ig true (fun QG=>QG a4 Be none) (fun k=>k .undef Be none) fun t127 vg adi =>
 ae ig true (fun IG=>IG a0 vg none) (fun k=>k .undef vg none) fun Df zx ajV =>
 ae ig true (fun QM=>QM (aa jd 0) zx none) (fun k=>k .undef zx none) fun tN PE aty =>
 ae ig true (fun ac9=>ah Df tN 5 fun t130 =>
 ac9 t130 PE none) (fun k=>k .undef PE none) fun OI zu ajH =>
 ae ig true (fun Ph=>aB zu OI 5 fun t131 =>
 Ph t131 zu none) (fun k=>k .undef zu none) fun Nb zJ ajX =>
 ae ig true (fun Qf=>Qf a0 zJ none) (fun k=>k .undef zJ none) fun yN zq akp =>
 ae ig true (fun QV=>QV a1 zq none) (fun k=>k .undef zq none) fun G8 Eh ajN =>
 ae ig true (fun Qj=>ah yN G8 5 fun yx =>
 Qj yx Eh none) (fun k=>k .undef Eh none) fun Om Il atU =>
 ae ig true (fun adG=>aB Il Om 5 fun VT =>
 adG VT Il none) (fun k=>k .undef Il none) fun OU Dw ajZ =>
 ai ig true (fun Pg=>cO cv t127 [Nb,OU] Dw fun IA aeu =>
 Pg IA aeu) (fun k=>k .undef Dw) fun Nf Ea =>
 ae ig true (fun QC=>af .lss Nf (N .i64 0) fun Hr =>
 QC Hr Ea none) (fun k=>k .undef Ea none) fun Np Bn ajw =>
 ae ig true (fun Pp=>dM Np fun t138 =>
 Pp t138 Bn none) (fun k=>k .undef Bn none) fun NV nU ajE =>
 aK ig NV (Bo false) fun t139 =>
 av t139 (
 af .sub (aa jd 0) (N .i64 1) fun t141 =>
 NC [t141] nU) (
 af .gtr (aa oV 0) (aa jd 0) fun Yf =>
 av Yf (
 ah a0 a1 5 fun ah7 =>
 aB nU ah7 5 fun ait =>
 ah a0 (aa jd 0) 5 fun t173 =>
 aB nU t173 5 fun aiC =>
 ah a0 (aa jd 0) 5 fun t175 =>
 aF nU t175 ait 5 fun aeb =>
 ah a0 a1 5 fun agF =>
 aF aeb agF aiC 5 fun acp =>
 Q (.tup [(aa jd 0),(Bo false)]) acp) (
 ah a0 (aa jd 0) 5 fun J8 =>
 aB nU J8 5 fun t152 =>
 ah a0 (aa oV 0) 5 fun aat =>
 aB nU aat 5 fun t156 =>
 ah a0 (aa oV 0) 5 fun t157 =>
 aF nU t157 t152 5 fun zN =>
 ah a0 (aa jd 0) 5 fun ah3 =>
 aF zN ah3 t156 5 fun adL =>
 af .add (aa oV 0) (N .i64 1) fun t160 =>
 af .sub (aa jd 0) (N .i64 1) fun t162 =>
 RX [t160,t162] adL))) [(aa Gq 1)] vz)) [(aa Gq 0)] vZ) [Y8,vP] yY))) [t31] dh)) [t29] M_0
def y8 (a0:AV) (M0:RM) (Q:aj) : Prop :=
 fF .neq a0 a0 fun t5 =>
 Q t5 M0
def NL (p1:Nat) (p2:ak) (a0 a1:AV) (M0:RM) (Q:aj) : Prop :=
 jR p1 a0 fun r f =>
 bU r f M0 fun t2 M =>
 jR p1 a1 fun r_0 f_1 =>
 bU r_0 f_1 M fun t3 M_2 =>
 aI t2 2 fun t5 =>
 au M_2 t5 fun t6 =>
 aI t3 2 fun t7 =>
 au M_2 t7 fun t8 =>
 fF .neq t6 t8 fun t9 =>
 av t9 (
 aI t2 2 fun bW =>
 au M_2 bW fun bM =>
 aI t3 2 fun t12 =>
 au M_2 t12 fun t13 =>
 fF .lss bM t13 fun t14 =>
 Q t14 M_2) (
 aI t2 3 fun t15 =>
 au M_2 t15 fun t16 =>
 aI t3 3 fun t17 =>
 au M_2 t17 fun t18 =>
 fF .neq t16 t18 fun t19 =>
 av t19 (
 aI t2 3 fun t20 =>
 au M_2 t20 fun t21 =>
 aI t3 3 fun t22 =>
 au M_2 t22 fun t23 =>
 fF .lss t21 t23 fun t24 =>
 Q t24 M_2) (
 aI t2 0 fun t25 =>
 aB M_2 t25 2 fun t26 =>
 aI t3 0 fun t27 =>
 aB M_2 t27 2 fun t28 =>
 p2 [t26,t28] M_2 fun t29 M_3 =>
 Q t29 M_3))
def E9 (a0:AV) (M0:RM) (Q:aj) : Prop :=
 af .neq a0 a0 fun t5 =>
 Q t5 M0
def nZ (cv:(FuncId→ak)) (a0 a1 a2 a3 a4:AV) (M0:RM) (Q:aj) : Prop :=
 aM (fun next xs M =>
 af .mul (N .i64 2) (aa xs 0) fun t14 =>
 af .add t14 (N .i64 1) fun t15 =>
 af .geq t15 a2 fun t18 =>
 av t18 (
 Q (.tup []) M) (
 bQ (fun J =>
 af .add t15 (N .i64 1) fun t20 =>
 af .lss t20 a2 fun t22 =>
 ae t22 true (fun k=>k a4 M none) (fun k=>k .undef M none) fun t24 M_0 b =>
 ae t22 true (fun k_1=>k_1 a0 M_0 none) (fun k=>k .undef M_0 none) fun t25 M_2 b_3 =>
 ae t22 true (fun k_4=>k_4 a3 M_2 none) (fun k=>k .undef M_2 none) fun t26 M_5 b_6 =>
 ae t22 true (fun k_7=>k_7 t15 M_5 none) (fun k=>k .undef M_5 none) fun t27 M_8 b_9 =>
 ae t22 true (fun kN=>af .add t26 t27 fun t28 =>
 kN t28 M_8 none) (fun k=>k .undef M_8 none) fun Xr fA KZ =>
 ae t22 true (fun ik=>ah t25 Xr 5 fun t29 =>
 ik t29 fA none) (fun k=>k .undef fA none) fun WU cK Al =>
 ae t22 true (fun nQ=>aB cK WU 5 fun t30 =>
 nQ t30 cK none) (fun k=>k .undef cK none) fun Yc jA acS =>
 ae t22 true (fun l9=>l9 a0 jA none) (fun k=>k .undef jA none) fun t31 iQ Jw =>
 ae t22 true (fun mi=>mi a3 iQ none) (fun k=>k .undef iQ none) fun t32 gF EZ =>
 ae t22 true (fun kQ=>kQ t15 gF none) (fun k=>k .undef gF none) fun t33 fo yB =>
 ae t22 true (fun iE=>af .add t32 t33 fun t34 =>
 iE t34 fo none) (fun k=>k .undef fo none) fun YV eY Kb =>
 ae t22 true (fun jr=>af .add YV (N .i64 1) fun t35 =>
 jr t35 eY none) (fun k=>k .undef eY none) fun Ww dh CJ =>
 ae t22 true (fun su=>ah t31 Ww 5 fun t36 =>
 su t36 dh none) (fun k=>k .undef dh none) fun Zq eT Cg =>
 ae t22 true (fun zk=>aB eT Zq 5 fun t37 =>
 zk t37 eT none) (fun k=>k .undef eT none) fun WA jS ahf =>
 ai t22 true (fun OO=>cO cv t24 [Yc,WA] jS fun t38 il =>
 OO t38 il) (fun k=>k .undef jS) fun Yk je =>
 ae t22 true (fun Cj=>af .lss Yk (N .i64 0) fun t39 =>
 Cj t39 je none) (fun k=>k .undef je none) fun Wh ic Oy =>
 aK t22 Wh (Bo false) fun t40 =>
 av t40 (
 af .add t15 (N .i64 1) fun t42 =>
 J [t42] ic) (
 J [t15] ic)) (fun Bq l8 =>
 af .add a3 (aa xs 0) fun t47 =>
 ah a0 t47 5 fun t48 =>
 aB l8 t48 5 fun t49 =>
 af .add a3 (aa Bq 0) fun t53 =>
 ah a0 t53 5 fun t54 =>
 aB l8 t54 5 fun t55 =>
 cO cv a4 [t49,t55] l8 fun t56 fM =>
 af .lss t56 (N .i64 0) fun t57 =>
 dM t57 fun t58 =>
 av t58 (
 Q (.tup []) fM) (
 af .add a3 (aa xs 0) fun t62 =>
 af .add a3 (aa Bq 0) fun t66 =>
 af .add a3 (aa Bq 0) fun t70 =>
 ah a0 t70 5 fun t71 =>
 aB fM t71 5 fun t72 =>
 af .add a3 (aa xs 0) fun t76 =>
 ah a0 t76 5 fun t77 =>
 aB fM t77 5 fun t78 =>
 ah a0 t62 5 fun t79 =>
 aF fM t79 t72 5 fun vM =>
 ah a0 t66 5 fun t80 =>
 aF vM t80 t78 5 fun ou =>
 next [(aa Bq 0)] ou)))) [a1] M0
def j5 (p1:ak) (a0 a1 a2 a3:AV) (M0:RM) (Q:aj) : Prop :=
 af .sub a1 (N .i64 1) fun bM =>
 af .add a1 (N .i64 1) fun t14 =>
 p1 [a0,bM,a1,t14,a2,a3] M0 fun t17 M =>
 Q t17 M
def qH (p1:ak) (a0 a1 a2 a3 a4 a5:AV) (M0:RM) (Q:aj) : Prop :=
 p1 [a0,a1,a2,a4,a5] M0 fun t19 M =>
 fI t19 0 fun t20 =>
 fI t19 1 fun t21 =>
 p1 [a0,t21,a3,a4,a5] M fun t28 M_0 =>
 fI t28 0 fun t29 =>
 fI t28 1 fun t30 =>
 p1 [a0,t20,t29,a4,a5] M_0 fun t37 M_1 =>
 fI t37 0 fun t38 =>
 fI t37 1 fun t39 =>
 Q t39 M_1
def qD (cv:(FuncId→ak)) (a0 a1 a2 a3 a4:AV) (M0:RM) (Q:aj) : Prop :=
 ah a0 a2 5 fun t15 =>
 aB M0 t15 5 fun t16 =>
 ah a0 a1 5 fun t19 =>
 aB M0 t19 5 fun t20 =>
 cO cv a4 [t16,t20] M0 fun t21 M =>
 af .lss t21 (N .i64 0) fun t22 =>
 av t22 (
 dx a3 fun t24 =>
 au M t24 fun t25 =>
 af .add t25 (N .i64 1) fun t26 =>
 dx a3 fun t27 =>
 aF M t27 t26 1 fun M_0 =>
 Q (.tup [a2,a1]) M_0) (
 Q (.tup [a1,a2]) M)
end Go.Ab.Crw
namespace Go.Ab
open Go Go.RowKit
def RM.cell (M:RM) (b o:Nat) : Option AV:=(M.cells b).bind (·[o]?)
section
variable {M M' : RM} {K:AV→Prop} {KQ:aj}
theorem Pv {b o:Nat} {v:AV} : M.loads b o 1=some [v]↔M.cell b o=some v:=by
 unfold RM.loads RM.cell
 cases hc:M.cells b with
 | none=>simp
 | some l =>
   simp only[Option.bind_some]
   constructor
   ·intro h
    split at h
    ·rename_i hlt
     have h1:=Option.some.inj h
     have:((l.drop o).take 1)[0]?=some v:=by rw[h1]; rfl
     rw[List.getElem?_take,if_pos (by omega),List.getElem?_drop] at this
     simpa using this
    ·cases h
   ·intro h
    have hlt:=(List.getElem?_eq_some_iff.1 h).1
    rw[if_pos (by omega)]
    congr 1
    rw[List.drop_eq_getElem_cons hlt]
    simp only[List.take_succ_cons,List.take_zero]
    congr 1
    exact(List.getElem?_eq_some_iff.1 h).2
@[go_sem] theorem gX (b o:Nat) : au M (.ptr b o) K=∃ v,M.cell b o=some v∧K v:=by
 apply propext; unfold au
 constructor
 ·rintro⟨b',o',v,h,hl,hk⟩; cases h; exact⟨v,Pv.1 hl,hk⟩
 ·rintro⟨v,hl,hk⟩; exact⟨b,o,v,rfl,Pv.2 hl,hk⟩
@[go_sem] theorem fB (b o n:Nat) : aB M (.ptr b o) n K=∃ vs,M.loads b o n=some vs∧K (.agg vs):=by
 apply propext; unfold aB
 constructor
 ·rintro⟨b',o',v,h,hl,hk⟩; cases h; exact⟨v,hl,hk⟩
 ·rintro⟨v,hl,hk⟩; exact⟨b,o,v,rfl,hl,hk⟩
@[go_sem] theorem Bb (b p:Nat) (x:AV) (n:Nat) (K:RM→Prop) : aF M (.ptr b p) x n K=(x.cells.length=n∧∃ M',M.stores b p x.cells=some M'∧K M'):=by
 apply propext; unfold aF
 constructor
 ·rintro⟨b',o',M',h,h1,h2,hk⟩; cases h; exact⟨h1,M',h2,hk⟩
 ·rintro⟨h1,M',h2,hk⟩; exact⟨b,p,M',rfl,h1,h2,hk⟩
def agv (k:IntKind) (a b:Int) : Int:=k.wrap (BitVec.ofInt k.bits a &&& BitVec.ofInt k.bits b).toNat
def orI (k:IntKind) (a b:Int) : Int:=k.wrap (BitVec.ofInt k.bits a ||| BitVec.ofInt k.bits b).toNat
def ac6 (k:IntKind) (a b:Int) : Int:=k.wrap (BitVec.ofInt k.bits a ^^^ BitVec.ofInt k.bits b).toNat
def alv (k:IntKind) (a b:Int) : Int:=k.wrap (BitVec.ofInt k.bits a &&& ~~~BitVec.ofInt k.bits b).toNat
def aeO (k:IntKind) (a b:Int) : Int:=k.wrap (a * 2 ^ (min b.toNat k.bits))
def Zp (k:IntKind) (a b:Int) : Int:=a.fdiv (2 ^ (min b.toNat k.bits))
section
variable (k:IntKind) (a b:Int)
theorem jK {op:BinOp} {v:Value} (h:Cc op k a b=some v) : af op (N k a) (N k b) K=K (.sc v):=by
 apply propext; unfold af
 constructor
 ·rintro⟨k',a',b',u,h1,h2,h3,hk⟩; cases h1; cases h2; rw[h] at h3; cases h3; exact hk
 ·intro hk; exact⟨k,a,b,v,rfl,rfl,h,hk⟩
@[go_sem] theorem dw:af .add (N k a) (N k b) K=K (N k (k.wrap (a + b))):=jK k a b rfl
@[go_sem] theorem iX:af .sub (N k a) (N k b) K=K (N k (k.wrap (a - b))):=jK k a b rfl
@[go_sem] theorem wy:af .mul (N k a) (N k b) K=K (N k (k.wrap (a * b))):=jK k a b rfl
@[go_sem] theorem Nc:af .and (N k a) (N k b) K=K (N k (agv k a b)):=jK k a b rfl
@[go_sem] theorem axt:af .or (N k a) (N k b) K=K (N k (orI k a b)):=jK k a b rfl
@[go_sem] theorem yU:af .xor (N k a) (N k b) K=K (N k (ac6 k a b)):=jK k a b rfl
@[go_sem] theorem asn:af .andNot (N k a) (N k b) K=K (N k (alv k a b)):=jK k a b rfl
@[go_sem] theorem bL:af .eql (N k a) (N k b) K=K (Bo (a == b)):=jK k a b rfl
@[go_sem] theorem jH:af .neq (N k a) (N k b) K=K (Bo (a != b)):=jK k a b rfl
@[go_sem] theorem dL:af .lss (N k a) (N k b) K=K (Bo (decide (a<b))):=jK k a b rfl
@[go_sem] theorem nP:af .leq (N k a) (N k b) K=K (Bo (decide (a≤b))):=jK k a b rfl
@[go_sem] theorem mh:af .gtr (N k a) (N k b) K=K (Bo (decide (a > b))):=jK k a b rfl
@[go_sem] theorem iW:af .geq (N k a) (N k b) K=K (Bo (decide (a ≥ b))):=jK k a b rfl
@[go_sem] theorem mg:af .quo (N k a) (N k b) K=(b≠0∧K (N k (k.wrap (a.tdiv b)))):=by
 apply propext; unfold af Cc
 constructor
 ·rintro⟨k',a',b',u,h1,h2,h3,hk⟩; cases h1; cases h2
  simp only at h3
  split at h3
  ·cases h3
  ·cases h3; exact⟨‹_›,hk⟩
 ·rintro⟨h0,hk⟩; exact⟨k,a,b,_,rfl,rfl,by simp only[if_neg h0],hk⟩
@[go_sem] theorem avn:af .rem (N k a) (N k b) K=(b≠0∧K (N k (a.tmod b))):=by
 apply propext; unfold af Cc
 constructor
 ·rintro⟨k',a',b',u,h1,h2,h3,hk⟩; cases h1; cases h2
  simp only at h3
  split at h3
  ·cases h3
  ·cases h3; exact⟨‹_›,hk⟩
 ·rintro⟨h0,hk⟩; exact⟨k,a,b,_,rfl,rfl,by simp only[if_neg h0],hk⟩
variable (l:IntKind)
@[go_sem] theorem FY:FP .shl (N k a) (N l b) K=(0≤b∧K (N k (aeO k a b))):=by
 apply propext; unfold FP Ri
 constructor
 ·rintro⟨k',a',l',b',u,h1,h2,h3,hk⟩; cases h1; cases h2
  split at h3
  ·cases h3
  ·cases h3; exact⟨by omega,hk⟩
 ·rintro⟨h0,hk⟩; exact⟨k,a,l,b,_,rfl,rfl,by rw[if_neg (by omega)]; rfl,hk⟩
@[go_sem] theorem LA:FP .shr (N k a) (N l b) K=(0≤b∧K (N k (Zp k a b))):=by
 apply propext; unfold FP Ri
 constructor
 ·rintro⟨k',a',l',b',u,h1,h2,h3,hk⟩; cases h1; cases h2
  split at h3
  ·cases h3
  ·cases h3; exact⟨by omega,hk⟩
 ·rintro⟨h0,hk⟩; exact⟨k,a,l,b,_,rfl,rfl,by rw[if_neg (by omega)]; rfl,hk⟩
@[go_sem] theorem axr {l:IntKind} {a:Int} {K:AV→Prop} : acs (N l a) K=K (St (Utf8.encode a).data.toList):=by
 apply propext; unfold acs
 constructor
 ·rintro⟨l',n,h,hk⟩; cases h; exact hk
 ·intro h; exact⟨_,_,rfl,h⟩
@[go_sem] theorem oJ:qA k (N l a) K=K (N k (k.wrap a)):=by
 apply propext; unfold qA
 constructor
 ·rintro⟨l',n,h,hk⟩; cases h; exact hk
 ·intro hk; exact⟨l,a,rfl,hk⟩
@[go_sem] theorem afv (mx:Bool) : Su mx (N k a) (N k b) K=K (N k (if mx then(if b > a then b else a) else(if b<a then b else a))):=by
 apply propext; unfold Su
 constructor
 ·rintro⟨k',a',b',h1,h2,hk⟩; cases h1; cases h2; exact hk
 ·intro hk; exact⟨k,a,b,rfl,rfl,hk⟩
@[go_sem] theorem axx:agC (N k a) K=K (N k (k.wrap (0 - a))):=by
 apply propext; unfold agC
 constructor
 ·rintro⟨k',a',h1,hk⟩; cases h1; exact hk
 ·intro hk; exact⟨k,a,rfl,hk⟩
end
@[go_sem] theorem bD (b:Bool) : dM (Bo b) K=K (Bo (!b)):=by
 apply propext; unfold dM
 constructor
 ·rintro⟨b',h,hk⟩; cases h; exact hk
 ·intro hk; exact⟨b,rfl,hk⟩
@[go_sem] theorem atC (neg a b:Bool) : LY neg (Bo a) (Bo b) K=K (Bo ((a == b) != neg)):=by
 apply propext; unfold LY
 constructor
 ·rintro⟨a',b',h,h',hk⟩; cases h; cases h'; exact hk
 ·intro hk; exact⟨a,b,rfl,rfl,hk⟩
@[go_sem] theorem Yd (t:Bool) (a b:AV) : aK (Bo t) a b K=K (if t then a else b):=by
 apply propext; unfold aK
 constructor
 ·rintro⟨t',h,hk⟩; cases h; exact hk
 ·intro hk; exact⟨t,rfl,hk⟩
@[go_sem] theorem Wy (b:Bool) (p q:Prop) : av (Bo b) p q=((b=true→p)∧(b=false→q)):=rfl
@[go_sem] theorem ave {α:Type} (b want:Bool) (f g:α→Prop) (k:α) : pG (Bo b) want f g k=if b=want then f k else g k:=rfl
@[go_sem] theorem aog {α:Type} (want:Bool) (f g:α→Prop) (k:α) : pG .undef want f g k=g k:=rfl
@[go_sem] theorem aO (b o:Nat) : dx (.ptr b o) K=K (.ptr b o):=by
 apply propext; unfold dx
 constructor
 ·rintro⟨b',o',h,hk⟩; cases h; exact hk
 ·intro hk; exact⟨b,o,rfl,hk⟩
@[go_sem] theorem aN (b o n:Nat) : aI (.ptr b o) n K=K (.ptr b (o + n)):=by
 apply propext; unfold aI
 constructor
 ·rintro⟨b',o',h,hk⟩; cases h; exact hk
 ·intro hk; exact⟨b,o,rfl,hk⟩
@[go_sem] theorem ma (b p len:Nat) (cap:Cap) (k:IntKind) (n:Int) (size:Nat) : ah (.slc b p len cap) (N k n) size K=(0≤n∧n<len∧K (.ptr b (p + n.toNat * size))):=by
 apply propext; unfold ah
 constructor
 ·rintro⟨b',p',l',c',k',n',h,h',h0,h1,hk⟩; cases h; cases h'; exact⟨h0,h1,hk⟩
 ·rintro⟨h0,h1,hk⟩; exact⟨b,p,len,cap,k,n,rfl,rfl,h0,h1,hk⟩
@[go_sem] theorem BX (b p:Nat) (k:IntKind) (n:Int) (len size:Nat) : KF (.ptr b p) (N k n) len size K=(0≤n∧n<len∧K (.ptr b (p + n.toNat * size))):=by
 apply propext; unfold KF
 constructor
 ·rintro⟨b',p',k',n',h,h',h0,h1,hk⟩; cases h; cases h'; exact⟨h0,h1,hk⟩
 ·rintro⟨h0,h1,hk⟩; exact⟨b,p,k,n,rfl,rfl,h0,h1,hk⟩
@[go_sem] theorem au5 (cs:List AV) (off:Nat) : aci (.agg cs) off K=∃ v,cs[off]?=some v∧K v:=by
 apply propext; unfold aci
 constructor
 ·rintro⟨cs',v,h,h1,hk⟩; cases h; exact⟨v,h1,hk⟩
 ·rintro⟨v,h1,hk⟩; exact⟨cs,v,rfl,h1,hk⟩
@[go_sem] theorem au6 (cs:List AV) (off n:Nat) : adU (.agg cs) off n K=(off + n≤cs.length∧K (.agg ((cs.drop off).take n))):=by
 apply propext; unfold adU
 constructor
 ·rintro⟨cs',h,h1,hk⟩; cases h; exact⟨h1,hk⟩
 ·rintro⟨h1,hk⟩; exact⟨cs,rfl,h1,hk⟩
@[go_sem] theorem auW (cs:List AV) (k:IntKind) (n:Int) (len:Nat) : adu (.agg cs) (N k n) len K=(0≤n∧n<len∧∃ v,cs[n.toNat]?=some v∧K v):=by
 apply propext; unfold adu
 constructor
 ·rintro⟨cs',k',n',v,h,h',h0,h1,h2,hk⟩; cases h; cases h'; exact⟨h0,h1,v,h2,hk⟩
 ·rintro⟨h0,h1,v,h2,hk⟩; exact⟨cs,k,n,v,rfl,rfl,h0,h1,h2,hk⟩
@[go_sem] theorem afW (cs:List AV) (k:IntKind) (n:Int) (len size:Nat) : Vt (.agg cs) (N k n) len size K=(0≤n∧n<len∧n.toNat * size + size≤cs.length∧K (.agg ((cs.drop (n.toNat * size)).take size))):=by
 apply propext; unfold Vt
 constructor
 ·rintro⟨cs',k',n',h,h',h0,h1,h2,hk⟩; cases h; cases h'; exact⟨h0,h1,h2,hk⟩
 ·rintro⟨h0,h1,h2,hk⟩; exact⟨cs,k,n,rfl,rfl,h0,h1,h2,hk⟩
@[go_sem] theorem alG (s:List UInt8) (k:IntKind) (n:Int) : Xf (St s) (N k n) K=(0≤n∧∃ b,s[n.toNat]?=some b∧K (N .u8 b.toNat)):=by
 apply propext; unfold Xf
 constructor
 ·rintro⟨s',k',n',b,h,h',h0,h1,hk⟩; cases h; cases h'; exact⟨h0,b,h1,hk⟩
 ·rintro⟨h0,b,h1,hk⟩; exact⟨s,k,n,b,rfl,rfl,h0,h1,hk⟩
@[go_sem] theorem Xz (vs:List AV) (i:Nat) : fI (.tup vs) i K=∃ v,vs[i]?=some v∧K v:=by
 apply propext; unfold fI
 constructor
 ·rintro⟨cs',v,h,h1,hk⟩; cases h; exact⟨v,h1,hk⟩
 ·rintro⟨v,h1,hk⟩; exact⟨vs,v,rfl,h1,hk⟩
@[go_sem] theorem dO (v:AV) : iB (some v) K=K v:=by
 apply propext; unfold iB
 constructor
 ·rintro⟨v',h,hk⟩; cases h; exact hk
 ·intro hk; exact⟨v,rfl,hk⟩
@[go_sem] theorem lZ (b o n:Nat) (c:Cap) : bu (.slc b o n c) K=K (N .i64 n):=by
 apply propext; unfold bu
 constructor
 ·rintro⟨n',h,hk⟩; cases h; exact hk
 ·intro hk; exact⟨n,rfl,hk⟩
@[go_sem] theorem ahQ (b:Nat) : bu (.emp b) K=K (N .i64 0):=by
 apply propext; unfold bu
 constructor
 ·rintro⟨n',h,hk⟩; cases h; exact hk
 ·intro hk; exact⟨0,rfl,hk⟩
@[go_sem] theorem NI:bu (.sc (.slice none 0 0)) K=K (N .i64 0):=by
 apply propext; unfold bu
 constructor
 ·rintro⟨n',h,hk⟩; cases h; exact hk
 ·intro hk; exact⟨0,rfl,hk⟩
@[go_sem] theorem lH (s:List UInt8) : oW (St s) K=K (N .i64 s.length):=by
 apply propext; unfold oW
 constructor
 ·rintro⟨s',h,hk⟩; cases h; exact hk
 ·intro hk; exact⟨s,rfl,hk⟩
@[go_sem] theorem ak8 (b o n c:Nat) : Fg (.slc b o n (.ex c)) K=K (N .i64 c):=by
 apply propext; unfold Fg
 constructor
 ·rintro⟨n',h,hk⟩; cases h; exact hk
 ·intro hk; exact⟨c,rfl,hk⟩
@[go_sem] theorem awS:Fg (.sc (.slice none 0 0)) K=K (N .i64 0):=by
 apply propext; unfold Fg
 constructor
 ·rintro⟨n',h,hk⟩; cases h; exact hk
 ·intro hk; exact⟨0,rfl,hk⟩
@[go_sem] theorem avj (s:List UInt8) : isStr (St s) K=K (St s):=by
 apply propext; unfold isStr
 constructor
 ·rintro⟨s',h,hk⟩; cases h; exact hk
 ·intro hk; exact⟨s,rfl,hk⟩
@[go_sem] theorem aaE {x:AV} {s:List UInt8} (h:Ht M x=some s) : FE M x K=K (St s):=by
 apply propext; unfold FE
 constructor
 ·rintro⟨s',h',hk⟩; rw[h] at h'; cases h'; exact hk
 ·intro hk; exact⟨s,h,hk⟩
theorem wS {op:BinOp} {a b:List UInt8} {v:AV} (h:IZ op a b=some v) : fF op (St a) (St b) K=K v:=by
 apply propext; unfold fF
 constructor
 ·rintro⟨a',b',u,h1,h2,h3,hk⟩; cases h1; cases h2; rw[h] at h3; cases h3; exact hk
 ·intro hk; exact⟨a,b,v,rfl,rfl,h,hk⟩
@[go_sem] theorem jC (a b:List UInt8) : fF .eql (St a) (St b) K=K (Bo (a == b)):=by rw[← kZ]; exact wS rfl
@[go_sem] theorem jW (a b:List UInt8) : fF .neq (St a) (St b) K=K (Bo (a != b)):=by rw[bne,← kZ]; exact wS rfl
@[go_sem] theorem Ha (a b:List UInt8) : fF .lss (St a) (St b) K=K (Bo (Op.bytesLess a b)):=wS rfl
@[go_sem] theorem ai3 (a b:List UInt8) : fF .leq (St a) (St b) K=K (Bo (Op.bytesLess a b || a == b)):=by rw[← kZ]; exact wS rfl
@[go_sem] theorem ahC (a b:List UInt8) : fF .gtr (St a) (St b) K=K (Bo (!(Op.bytesLess a b || a == b))):=by rw[← kZ]; exact wS rfl
@[go_sem] theorem awr (a b:List UInt8) : fF .geq (St a) (St b) K=K (Bo (!Op.bytesLess a b)):=wS rfl
@[go_sem] theorem avr (a b:List UInt8) : fF .add (St a) (St b) K=(a.length + b.length≤9223372036854775807∧K (St (a++b))):=by
 apply propext; unfold fF
 constructor
 ·rintro⟨a',b',u,h1,h2,h3,hk⟩; cases h1; cases h2
  simp only[IZ] at h3
  split at h3
  ·rename_i hb; cases h3; exact⟨bE hb,hk⟩
  ·cases h3
 ·rintro⟨h0,hk⟩; exact⟨a,b,_,rfl,rfl,by simp only[IZ,bB.2 h0],hk⟩
theorem pO {neg:Bool} {tag:Nat} {x y:AV} {r:Bool} (ht:VG x=tag) (h:Lm x y=some r) : lJ neg tag x y K=K (Bo (r != neg)):=by
 apply propext; unfold lJ
 constructor
 ·rintro⟨_,r',h',hk⟩; rw[h] at h'; cases h'; exact hk
 ·intro hk; exact⟨ht,r,h,hk⟩
@[go_sem] theorem SC (neg:Bool) : lJ neg 2 (.sc (.slice none 0 0)) (.sc (.slice none 0 0)) K=K (Bo (!neg)):=(pO (tag:=2) (r:=true) rfl rfl).trans (by cases neg <;> rfl)
@[go_sem] theorem Tc (neg:Bool) (b:Nat) : lJ neg 2 (.emp b) (.sc (.slice none 0 0)) K=K (Bo neg):=(pO (tag:=2) (r:=false) rfl rfl).trans (by cases neg <;> rfl)
@[go_sem] theorem TV (neg:Bool) (b o n:Nat) (c:Cap) : lJ neg 2 (.slc b o n c) (.sc (.slice none 0 0)) K=K (Bo neg):=(pO (tag:=2) (r:=false) rfl rfl).trans (by cases neg <;> rfl)
@[go_sem] theorem RP (neg:Bool) (b o:Nat) : lJ neg 1 (.ptr b o) (.sc (.pointer none)) K=K (Bo neg):=(pO (tag:=1) (r:=false) rfl rfl).trans (by cases neg <;> rfl)
@[go_sem] theorem ajt (neg:Bool) : lJ neg 1 (.sc (.pointer none)) (.sc (.pointer none)) K=K (Bo (!neg)):=(pO (tag:=1) (r:=true) rfl rfl).trans (by cases neg <;> rfl)
@[go_sem] theorem akW (neg:Bool) (b:Nat) : lJ neg 3 (.map b) (.sc (.map none)) K=K (Bo neg):=(pO (tag:=3) (r:=false) rfl rfl).trans (by cases neg <;> rfl)
@[go_sem] theorem aml (neg:Bool) (f:Fn) (xs ys:List AV) : lJ neg 4 (.fn f xs ys) (.sc .nilFunc) K=K (Bo neg):=(pO (tag:=4) (r:=false) rfl rfl).trans (by cases neg <;> rfl)
@[go_sem] theorem acY (neg:Bool) (ks:List Nat) (cs ds:List AV) : mD neg ks (.agg cs) (.agg ds) K=(cs.length=ks.length∧ds.length=ks.length∧∃ r,dV ks cs ds=some r∧K (Bo (r != neg))):=by
 apply propext; unfold mD
 constructor
 ·rintro⟨a',b',r,h1,h2,h3,h4,h5,hk⟩; cases h1; cases h2; exact⟨h3,h4,r,h5,hk⟩
 ·rintro⟨h3,h4,r,h5,hk⟩; exact⟨cs,ds,r,rfl,rfl,h3,h4,h5,hk⟩
@[go_sem] theorem av4 (C:FuncId→ak) (g:FuncId) (first cap args:List AV) : cO C (.fn (.func g) first cap) args M KQ=C g (first++args++cap) M KQ:=by
 apply propext; unfold cO
 constructor
 ·rintro⟨g',f',c',h,hk⟩; cases h; exact hk
 ·intro hk; exact⟨g,first,cap,rfl,hk⟩
@[go_sem] theorem oH (cs:List AV) (parts:List (Nat × Nat × AV)) : q8 cs parts K=∃ cs',DC cs parts=some cs'∧K (.agg cs'):=rfl
@[go_sem] theorem bg (x:RB) (mk:Nat→AV) : bU x mk M KQ=KQ (mk M.next) (M.push x):=rfl
@[go_sem] theorem qo (x:RB) (mk:Nat→AV) (k:KR) : vF x mk M k=k (mk M.next) (M.push x) (some M.next):=rfl
@[go_sem] theorem y7 (f:(List AV→RM→Prop)→Prop) (g:List AV→RM→Prop) : bQ f g=f g:=rfl
@[go_sem] theorem avi (x:AV) (xs:List AV) : aa (x :: xs) 0=x:=rfl
@[go_sem] theorem avg (x:AV) (xs:List AV) (n:Nat) : aa (x :: xs) (n + 1)=aa xs n:=rfl
@[go_sem] theorem adp (b:Nat) (x:RB) (mk:Nat→AV) (v:AV) : Eb (some b) M x mk v=(M.heap b=some x∧mk b=v):=rfl
end
section
variable {M M' : RM}
theorem RM.Ef {b:Nat} {l:List AV} {opn:Bool} {el fz:Nat} (h:M.heap b=some (.row l opn el fz)) : M.cells b=some l:=by simp[RM.cells,h]
theorem RM.ahd {b o:Nat} {l:List AV} {opn:Bool} {el fz:Nat} (h:M.heap b=some (.row l opn el fz)) : M.cell b o=l[o]?:=by simp[RM.cell,RM.Ef h]
theorem RM.dH {b o k:Nat} {l:List AV} {opn:Bool} {el fz:Nat} (h:M.heap b=some (.row l opn el fz)) (hk:o + k≤l.length) : M.loads b o k=some ((l.drop o).take k):=by
 simp[RM.loads,RM.Ef h,hk]
theorem RM.Br {b o:Nat} {l vs:List AV} {opn:Bool} {el fz:Nat} (h:M.heap b=some (.row l opn el fz)) (h1:o + vs.length≤l.length) (h2:fz≤o) (h3:vs.all oneCell=true) :
  M.stores b o vs=some (M.put b (.row (l.take o++vs++l.drop (o + vs.length)) opn el fz)):=by
 simp only[RM.stores,h]
 rw[if_pos ⟨h1,h2,h3⟩]
structure ag (bs:List Nat) (M M' : RM) : Prop where
 base:M'.base=M.base
 next:M.next≤M'.next
 heap:∀ c,c<M.next→c ∉ bs→M'.heap c=M.heap c
theorem ag.refl (bs:List Nat) (M:RM) : ag bs M M:=⟨rfl,Nat.le_refl _,fun _ _ _=>rfl⟩
theorem ag.trans {bs:List Nat} {M1 M2:RM} (h:ag bs M M1) (k:ag bs M1 M2) : ag bs M M2 :=
 ⟨k.base.trans h.base,Nat.le_trans h.next k.next,fun c hc hb=>(k.heap c (Nat.lt_of_lt_of_le hc h.next) hb).trans (h.heap c hc hb)⟩
theorem ag.push {bs:List Nat} (h:ag bs M M') (x:RB) : ag bs M (M'.push x) :=
 ⟨h.base,Nat.le_succ_of_le h.next,fun c hc hb=>by
  have:=h.next
  simp only[RM.push]; rw[if_neg (by omega)]; exact h.heap c hc hb⟩
theorem ag.put {bs:List Nat} (h:ag bs M M') {b:Nat} (x:RB) (hb:M.next≤b∨b∈bs) : ag bs M (M'.put b x) :=
 ⟨h.base,h.next,fun c hc hcb=>by
  simp only[RM.put]; rw[if_neg]
  ·exact h.heap c hc hcb
  ·rintro rfl; rcases hb with hb | hb
   ·omega
   ·exact hcb hb⟩
theorem ag.del {bs:List Nat} (h:ag bs M M') {b:Nat} (hb:M.next≤b∨b∈bs) : ag bs M (M'.del b) :=
 ⟨h.base,h.next,fun c hc hcb=>by
  simp only[RM.del]; rw[if_neg]
  ·exact h.heap c hc hcb
  ·rintro rfl; rcases hb with hb | hb
   ·omega
   ·exact hcb hb⟩
theorem ag.mono {bs cs:List Nat} (h:ag bs M M') (hs:∀ b∈bs,b∈cs) : ag cs M M':=⟨h.base,h.next,fun c hc hb=>h.heap c hc fun h=>hb (hs c h)⟩
theorem ag.cz {bs:List Nat} {M1 M2:RM} {cs:List Nat} (h:ag bs M M1) (k:ag cs M1 M2) (hn:∀ c∈cs,M.next≤c∨c∈bs) : ag bs M M2 :=
 ⟨k.base.trans h.base,Nat.le_trans h.next k.next,fun c hc hb=>by
  rw[k.heap c (Nat.lt_of_lt_of_le hc h.next) (fun hm=>by rcases hn c hm with h1 | h1; omega; exact hb h1),h.heap c hc hb]⟩
theorem ag.cells {bs:List Nat} (h:ag bs M M') {b:Nat} (hlt:b<M.next) (hb:b ∉ bs) : M'.cells b=M.cells b:=by
 simp only[RM.cells,h.heap b hlt hb,RM.lo,h.base]
theorem ag.cell {bs:List Nat} (h:ag bs M M') {b o:Nat} (hlt:b<M.next) (hb:b ∉ bs) : M'.cell b o=M.cell b o:=by
 simp only[RM.cell,h.cells hlt hb]
theorem ag.loads {bs:List Nat} (h:ag bs M M') {b o k:Nat} (hlt:b<M.next) (hb:b ∉ bs) : M'.loads b o k=M.loads b o k:=by
 simp only[RM.loads,h.cells hlt hb]
@[go_sem] theorem RM.au3 (x:RB) : (M.push x).next=M.next + 1:=rfl
@[go_sem] theorem RM.avY (b:Nat) (x:RB) : (M.put b x).next=M.next:=rfl
@[go_sem] theorem RM.avL (b:Nat) : (M.del b).next=M.next:=rfl
@[go_sem] theorem RM.aT (x:RB) : (M.push x).heap M.next=some x:=by simp[RM.push]
theorem RM.aiR {x:RB} {c:Nat} (h:c≠M.next) : (M.push x).heap c=M.heap c:=by simp[RM.push,h]
@[go_sem] theorem RM.wm (b:Nat) (x:RB) : (M.put b x).heap b=some x:=by simp[RM.put]
end
abbrev di:AV:=.sc (.slice none 0 0)
inductive aL (M:RM) (size:Nat) : AV→List AV→Nat→Prop
 | nil:aL M size di [] 0
 | emp (b:Nat) : aL M size (.emp b) [] 0
 | slc (b o n:Nat) (cap:Cap) (cs:List AV) : b<M.next→M.loads b o (n * size)=some cs→aL M size (.slc b o n cap) cs n
section
variable {M M' : RM} {size:Nat} {v:AV} {cs:List AV} {n:Nat}
theorem Kn {b o k:Nat} {cs:List AV} (h:M.loads b o k=some cs) : cs.length=k:=by
 unfold RM.loads at h
 split at h <;> first | (cases h; done) | skip
 split at h <;> first | (cases h; done) | skip
 rename_i hle
 have:=Option.some.inj h
 rw[← this,List.length_take,List.length_drop]; omega
theorem afs {b o k:Nat} {cs:List AV} (h:M.loads b o k=some cs) (i:Nat) (hi:i<k) : M.cell b (o + i)=cs[i]?:=by
 unfold RM.loads at h
 unfold RM.cell
 split at h <;> first | (cases h; done) | skip
 rename_i l hl
 split at h <;> first | (cases h; done) | skip
 cases h
 simp only[hl,Option.bind_some]
 rw[List.getElem?_take,if_pos hi,List.getElem?_drop]
theorem Ae {b o k:Nat} {cs:List AV} (h:M.loads b o k=some cs) (i j:Nat) (hij:i + j≤k) : M.loads b (o + i) j=some ((cs.drop i).take j):=by
 unfold RM.loads at h ⊢
 cases hl:M.cells b with
 | none=>rw[hl] at h; cases h
 | some l =>
   rw[hl] at h
   simp only at h ⊢
   split at h
   ·rename_i hle
    have h:=Option.some.inj h
    subst h
    rw[if_pos (by omega),List.drop_take,List.drop_drop,List.take_take]
    congr 2
    omega
   ·cases h
theorem PI {b o:Nat} {l:List AV} (h:M.cells b=some l) (ho:o≤l.length) : M.loads b o 0=some []:=by
 simp[RM.loads,h,ho]
theorem aL.length (h:aL M size v cs n) : cs.length=n * size:=by
 cases h with
 | nil=>exact(Nat.zero_mul _).symm
 | emp=>exact(Nat.zero_mul _).symm
 | slc b o n cap cs hb0 hl=>exact Kn hl
theorem aL.len (h:aL M size v cs n) {K:AV→Prop} : bu v K=K (N .i64 n):=by
 cases h with
 | nil=>exact NI
 | emp b=>exact ahQ b
 | slc b o n cap cs hb0 hl=>exact lZ b o n cap
theorem aL.qy (h:aL M size v cs n) (zs:List AV) : qy M size zs false v=some (n,cs):=by
 cases h with
 | nil=>rfl
 | emp b=>rfl
 | slc b o n cap cs hb0 hl=>simp only[Go.Ab.qy,hl]
theorem aL.pos (h:aL M size v cs n) (hn:0<n) : ∃ b o cap,v=.slc b o n cap∧b<M.next∧M.loads b o (n * size)=some cs:=by
 cases h with
 | nil=>omega
 | emp b=>omega
 | slc b o n cap cs hb0 hl=>exact⟨b,o,cap,rfl,hb0,hl⟩
theorem aL.Ht (h:aL M 1 v cs n) {l:List UInt8} (hb:eD byteOf cs=some l) : Ht M v=some l:=by
 cases h with
 | nil=>simp[eD] at hb; subst hb; rfl
 | emp b=>simp[eD] at hb; subst hb; rfl
 | slc b o n cap cs hb0 hl =>
   rw[Nat.mul_one] at hl
   simp only[Go.Ab.Ht,hl]; exact hb
def aJ:AV→List Nat
 | .slc b _ _ _=>[b]
 | _=>[]
theorem aL.keep {bs:List Nat} (h:aL M size v cs n) (hk:ag bs M M') (hb:∀ b∈aJ v,b ∉ bs) : aL M' size v cs n:=by
 cases h with
 | nil=>exact .nil
 | emp b=>exact .emp b
 | slc b o n cap cs hb0 hl =>
   exact .slc b o n cap cs (Nat.lt_of_lt_of_le hb0 hk.next) (by rw[hk.loads hb0 (hb b (by simp[aJ]))]; exact hl)
inductive Own (M:RM) (base el size:Nat) : AV→List AV→Nat→Prop
 | nil:Own M base el size di [] 0
 | ex0 (b o:Nat) : base≤b→b<M.next→(∃ l,M.cells b=some l∧o≤l.length)→Own M base el size (.slc b o 0 (.ex 0)) [] 0
 | op (b n:Nat) (cs:List AV) : base≤b→b<M.next→M.heap b=some (.row cs true el 0)→cs.length=n * size→Own M base el size (.slc b 0 n (.op size)) cs n
theorem Own.eZ {base el:Nat} (h:Own M base el size v cs n) : aL M size v cs n:=by
 cases h with
 | nil=>exact .nil
 | ex0 b o hb hlt hc =>
   obtain⟨l,hl,ho⟩:=hc
   exact .slc b o 0 _ [] hlt (by rw[Nat.zero_mul]; exact PI hl ho)
 | op b n cs hb hlt hh hl =>
   refine .slc b 0 n _ cs hlt ?_
   rw[RM.dH hh (by omega)]
   simp[← hl]
theorem Own.blk {base el:Nat} (h:Own M base el size v cs n) : ∀ b∈aJ v,base≤b∧b<M.next:=by
 cases h with
 | nil=>intro b hb; simp[aJ] at hb
 | ex0 b o hb hlt hc=>intro c hc; simp[aJ] at hc; subst hc; exact⟨hb,hlt⟩
 | op b n cs hb hlt hh hl=>intro c hc; simp[aJ] at hc; subst hc; exact⟨hb,hlt⟩
theorem Own.keep {base el:Nat} {bs:List Nat} (h:Own M base el size v cs n) (hk:ag bs M M') (hb:∀ b∈aJ v,b ∉ bs) : Own M' base el size v cs n:=by
 cases h with
 | nil=>exact .nil
 | ex0 b o h1 hlt hc=>exact .ex0 b o h1 (Nat.lt_of_lt_of_le hlt hk.next) (by rw[hk.cells hlt (hb b (by simp[aJ]))]; exact hc)
 | op b n cs h1 hlt hh hl=>exact .op b n cs h1 (Nat.lt_of_lt_of_le hlt hk.next) (by rw[hk.heap b hlt (hb b (by simp[aJ]))]; exact hh) hl
theorem Own.mono {base base' el:Nat} (h:Own M base el size v cs n) (hb:base'≤base) : Own M base' el size v cs n:=by
 cases h with
 | nil=>exact .nil
 | ex0 b o h1 hlt hc=>exact .ex0 b o (Nat.le_trans hb h1) hlt hc
 | op b n cs h1 hlt hh hl=>exact .op b n cs (Nat.le_trans hb h1) hlt hh hl
theorem BK {base el bytes:Nat} {zs:List AV} {zeros:Bool} {x:AV} {m:Nat} {ds:List AV} {K:aj} (h:Own M base el size v cs n) (hbase:base≤M.next) (hs:1≤size) (hx:qy M size zs zeros x=some (m,ds)) (hd:ds.length=m * size)
  (h1:ds.all oneCell=true) (hb:(n + m) * bytes≤140737488355328) (hb2:n + m≤140737488355328)
  (hK:∀ v' M',Own M' base el size v' (cs++ds) (n + m)→ag (aJ v) M M'→M.next≤M'.next→(v'=v∨∀ b∈aJ v',M.next≤b)→K v' M') : appW el size bytes zs zeros v x M K:=by
 have hmb:m * bytes≤140737488355328:=Nat.le_trans (Nat.mul_le_mul_right _ (by omega)) hb
 refine⟨m,ds,hx,hmb,by omega, ?_⟩
 cases h with
 | nil =>
   by_cases hm:m=0
   ·subst hm
    have:ds=[]:=List.eq_nil_of_length_eq_zero (by simpa using hd)
    subst this
    exact⟨di,M,by simp[vE],hK _ _ .nil (ag.refl _ _) (Nat.le_refl _) (.inl rfl)⟩
   ·refine⟨.slc M.next 0 m (.op size),M.push (.row ds true el 0),by simp only[vE,if_neg hm,h1,if_true],hK _ _ ?_ ((ag.refl _ _).push _) (by simp[RM.push]) (.inr fun b hb=>by simp[aJ] at hb; omega)⟩
    simp only[List.nil_append,Nat.zero_add]
    exact .op _ _ _ hbase (by simp[RM.push]) (RM.aT _) hd
 | ex0 b o hb0 hlt hc =>
   obtain⟨l,hl,ho⟩:=hc
   by_cases hm:m=0
   ·subst hm
    have:ds=[]:=List.eq_nil_of_length_eq_zero (by simpa using hd)
    subst this
    exact⟨_,M,by simp[vE],hK _ _ (.ex0 b o hb0 hlt ⟨l,hl,ho⟩) (ag.refl _ _) (Nat.le_refl _) (.inl rfl)⟩
   ·refine⟨.slc M.next 0 m (.op size),M.push (.row ds true el 0), ?_,hK _ _ ?_ ((ag.refl _ _).push _) (by simp[RM.push]) (.inr fun b hb=>by simp[aJ] at hb; omega)⟩
    ·have hl0:M.loads b o (0 * size)=some []:=by rw[Nat.zero_mul]; exact PI hl ho
     simp only[vE,if_neg hm]
     rw[if_neg (by omega),hl0]
     simp only[Nat.zero_add,List.nil_append]
     rw[if_pos ⟨hmb,by omega,h1⟩]
    ·simp only[List.nil_append,Nat.zero_add]
     exact .op _ _ _ hbase (by simp[RM.push]) (RM.aT _) hd
 | op b n cs hb0 hlt hh hl =>
   by_cases hm:m=0
   ·subst hm
    have:ds=[]:=List.eq_nil_of_length_eq_zero (by simpa using hd)
    subst this
    exact⟨_,M,by simp[vE],hK _ _ (by simpa using .op b n cs hb0 hlt hh hl) (ag.refl _ _) (Nat.le_refl _) (.inl rfl)⟩
   ·have hpos:1≤m * size:=Nat.mul_pos (by omega) hs
    have hsum:(n + m) * size=n * size + m * size:=Nat.add_mul _ _ _
    refine⟨.slc M.next 0 (n + m) (.op size),(M.del b).push (.row (cs++ds) true el 0), ?_,hK _ _ ?_ (((ag.refl _ _).del (.inr (by simp[aJ]))).push _) (by simp[RM.push,RM.del]) (.inr fun b hb=>by simp[aJ] at hb; omega)⟩
    ·simp only[vE,if_neg hm,hh,and_self,if_true]
     rw[if_neg (by omega),if_pos ⟨trivial,hb,hb2,trivial,hl,Nat.zero_le _,h1⟩]
    ·exact .op _ _ _ (show base≤M.next from hbase) (by simp[RM.push,RM.del]) (by simp[RM.push,RM.del]) (by rw[List.length_append,hl,hd,hsum])
theorem aL.Lm (h:aL M size v cs n) (neg:Bool) : (v=di∧∀ K:AV→Prop,lJ neg 2 v di K=K (Bo (!neg)))∨(v≠di∧∀ K:AV→Prop,lJ neg 2 v di K=K (Bo neg)):=by
 cases h with
 | nil=>exact .inl ⟨rfl,fun _=>SC neg⟩
 | emp b=>exact .inr ⟨by(intro h; cases h),fun _=>Tc neg b⟩
 | slc b o n cap cs hb0 hl=>exact .inr ⟨by(intro h; cases h),fun _=>TV neg b o n cap⟩
theorem Own.lit {base el T:Nat} (M:RM) (h:base≤M.next) : Own (M.push (.row [] false T 0)) base el size (.slc M.next 0 0 (.ex 0)) [] 0 :=
 .ex0 _ _ h (by simp[RM.push]) ⟨[],by simp[RM.cells,RM.push],Nat.le_refl _⟩
end
end Go.Ab
set_option maxRecDepth 4000
namespace Go.Ab
open Go
theorem wrap_u8 (n:Nat) : IntKind.wrap .u8 (n:Int)=((n % 256:Nat) : Int):=by
 simp only[IntKind.wrap,IntKind.bits,IntKind.signed,IntKind.max,IntKind.min]
 simp
theorem wrap_u64 (n:Nat) : IntKind.wrap .u64 (n:Int)=((n % 18446744073709551616:Nat) : Int):=by
 simp only[IntKind.wrap,IntKind.bits,IntKind.signed,IntKind.max,IntKind.min]
 simp
theorem BD {n:Int} (h0:0≤n) (h:n<256) : IntKind.wrap .u8 n=n:=by
 obtain⟨m,rfl⟩:=Int.eq_ofNat_of_zero_le h0
 rw[wrap_u8,Nat.mod_eq_of_lt (by omega)]
theorem jT {n:Int} (h0:0≤n) (h:n<18446744073709551616) : IntKind.wrap .u64 n=n:=by
 obtain⟨m,rfl⟩:=Int.eq_ofNat_of_zero_le h0
 rw[wrap_u64,Nat.mod_eq_of_lt (by omega)]
theorem aZ {n:Int} (h0 : -9223372036854775808≤n) (h:n<9223372036854775808) : IntKind.wrap .i64 n=n:=by
 rw[IntKind.wrap_i64]; omega
theorem alF (k:Nat) (a b:Nat) : (BitVec.ofInt k (a:Int) &&& BitVec.ofInt k (b:Int)).toNat=(a &&& b) % 2 ^ k:=by
 rw[BitVec.toNat_and,BitVec.ofInt_natCast,BitVec.ofInt_natCast,BitVec.toNat_ofNat,BitVec.toNat_ofNat,← Nat.and_mod_two_pow]
theorem ak0 (k:Nat) (a b:Nat) : (BitVec.ofInt k (a:Int) ^^^ BitVec.ofInt k (b:Int)).toNat=(a ^^^ b) % 2 ^ k:=by
 rw[BitVec.toNat_xor,BitVec.ofInt_natCast,BitVec.ofInt_natCast,BitVec.toNat_ofNat,BitVec.toNat_ofNat,← Nat.xor_mod_two_pow]
theorem aiq (a b:Nat) : ((a:Int).fdiv (b:Int))=((a / b:Nat) : Int):=by
 rw[Int.fdiv_eq_ediv_of_nonneg _ (by omega)]; rfl
def Bw:IntKind→Nat
 | .u8=>8 | .u16=>16 | .u32=>32 | _=>64
def IY:IntKind→Bool
 | .u8 | .u16 | .u32 | .u64=>true
 | _=>false
theorem Ni {k:IntKind} (h:IY k=true) (n:Nat) : k.wrap (n:Int)=((n % 2 ^ Bw k:Nat) : Int):=by
 cases k <;> simp[IY] at h <;> (simp only[IntKind.wrap,IntKind.bits,IntKind.signed,Bw]; simp)
theorem ZA (k:IntKind) (h:IY k=true) : k.bits=Bw k:=by cases k <;> simp[IY] at h <;> rfl
theorem Oe {k:IntKind} (h:IY k=true) (a b:Nat) : agv k a b=(((a &&& b) % 2 ^ Bw k:Nat) : Int):=by
 unfold agv
 rw[alF,Ni h,ZA k h,Nat.mod_mod]
theorem ahc {k:IntKind} (h:IY k=true) (a b:Nat) : ac6 k a b=(((a ^^^ b) % 2 ^ Bw k:Nat) : Int):=by
 unfold ac6
 rw[ak0,Ni h,ZA k h,Nat.mod_mod]
theorem Od (k:IntKind) (a b:Nat) (hb:b≤k.bits) : Zp k a b=((a / 2 ^ b:Nat) : Int):=by
 unfold Zp
 rw[Int.toNat_natCast,Nat.min_eq_left hb,← aiq,Int.natCast_pow]; rfl
theorem Zb {k:IntKind} (h:IY k=true) (a b:Nat) (hb:b≤k.bits) : aeO k a b=((a * 2 ^ b % 2 ^ Bw k:Nat) : Int):=by
 unfold aeO
 rw[Int.toNat_natCast,Nat.min_eq_left hb,← Ni h,Int.natCast_mul,Int.natCast_pow]
 rfl
theorem agh (n:Nat) : (UInt8.ofNat n).toNat=n % 256:=by simp
end Go.Ab
namespace Go.Ab.aH
open Go Go.Ab
theorem U2 {T size bytes:Nat} {zs:List AV} {M0:RM} {a0:AV} {cs:List AV} {n:Nat} (h:aL M0 size a0 cs n) (h1:cs.all oneCell=true) (hs:1≤size) (hn:n * bytes≤140737488355328) (hn2:n≤140737488355328) {Q:aj}
  (hQ:∀ v M',Own M' M0.next T size v cs n→ag [] M0 M'→Q v M') :
  lJ false 2 a0 di fun t4=>av t4 (Q di M0) (eB T 0 zs [] fun r f=>bU r f M0 fun t5 M=>appW T size bytes zs false t5 a0 M fun t7 M_0=>Q t7 M_0):=by
 rcases h.Lm false with⟨rfl,e⟩ | ⟨hne,e⟩
 ·rw[e]
  cases h
  exact⟨fun _=>hQ _ _ .nil (ag.refl _ _),fun h=>by simp at h⟩
 ·rw[e]
  refine⟨fun h=>by simp at h,fun _=>⟨[],rfl, ?_⟩⟩
  have hk:ag [] M0 (M0.push (.row [] false T 0)):=(ag.refl _ _).push _
  refine BK (base:=M0.next) (Own.lit M0 (Nat.le_refl _)) (by simp[RM.push]) hs ((h.keep hk (by simp)).qy _) h.length h1 (by rw[Nat.zero_add]; exact hn) (by omega) ?_
  intro v' M' ho hk' hnx hv
  exact hQ v' M' (by simpa using ho) (hk.cz hk' (by simp[aJ]))
def afM (T size bytes:Nat) (c:ak) : Prop:=∀ {M0:RM} {a0:AV} {cs:List AV} {n:Nat},aL M0 size a0 cs n→cs.all oneCell=true→n * bytes≤140737488355328→n≤140737488355328→∀ {Q:aj},
 (∀ v M',Own M' M0.next T size v cs n→ag [] M0 M'→Q v M')→c [a0] M0 Q
def QJ (v:Nat) : List UInt8:=if v<128 then[UInt8.ofNat v] else UInt8.ofNat (v % 128 + 128) :: QJ (v / 128)
 termination_by v
 decreasing_by omega
abbrev VW (l:List UInt8) : List AV:=l.map fun b=>N .u8 b.toNat
end Go.Ab.aH
namespace Go.Ab
open Go Go.RowKit
section
variable {P:Program}
theorem ek.opened {ρ:Ren} {M:RM} {w:World} {b n:Nat} {l:List AV} {el:Nat} {u:Value} (hw:ek P ρ M w) (hh:M.heap b=some (.row l true el 0)) (hl:l.length=n) (hv:ay ρ (.slc b 0 n (.op 1)) u) :
  ∃ c,n≤c∧ay ρ (.slc b 0 n (.ex c)) u∧ek P ρ (M.put b (.row (l++List.replicate (c - n) .top) true el 0)) w:=by
 obtain⟨A,hA⟩:=hw
 obtain⟨k,i,hb,hp,he,hk,rfl⟩:=Cs hv
 rcases hA.blk b _ hh with⟨y,hy,hle⟩ | ⟨_,e0,_⟩
 ·cases y <;> first | exact hle.elim | skip
  rename_i nn tree zs opn elem fz
  obtain⟨r1,rfl,rfl,rfl,r5⟩:=hle
  obtain⟨ob,hob,cs,fr,rfl,hrow⟩:=hA.rel.blk b i _ hb hy
  obtain⟨h0,hcs,hels⟩:=hrow.opn rfl
  have hk0:k=0:=by
   rcases Nat.eq_zero_or_pos k with e | e
   ·exact e
   ·have:0<k * i.esz:=Nat.mul_pos e h0
    omega
  subst hk0
  have hsh:=hrow.sh0
  rw[← he,Nat.mul_one,hsh,Nat.zero_add] at hcs
  refine⟨i.gu,by omega, ?_,⟨{ A with heap:=A.heap.set b (.row i.gu (Tree.ofList (l++List.replicate (i.gu - n) .top) 0 .leaf) [] true elem 0) },hA.next,⟨hA.rel.dom,fun b' i' x hb' hx=>?_,fun b1 b2 i1 i2 x1 x2 p1 p2 g1 g2 e=>?_,fun b' x hx=>?_,fun b' i' x hb' hx=>?_,hA.rel.inv⟩,hA.size,fun c x hx=>?_,hA.old⟩⟩
  ·have:=ay.jJ (ρ:=ρ) b 0 n i.gu i hb
   rw[Nat.zero_mul] at *
   simpa using this
  ·simp only[Tree.bJ] at hx
   by_cases e:b'=b
   ·subst e
    rw[if_pos rfl] at hx
    cases hx
    rw[hb] at hb'; cases hb'
    refine⟨_,hob,cs,fr,rfl,⟨by rw[hsh]; omega,fun j x hj=>?_,fun j h1 h2=>hrow.free j h1 h2,hrow.mark,fun _=>⟨h0,by rw[hsh,← he]; omega,hels⟩,hsh⟩⟩
    obtain⟨hjlt,hj2⟩:=ni hj
    rw[Tree.mK] at hj2
    split at hj2
    ·rename_i hlt
     rw[Nat.sub_zero] at hj2
     by_cases hjl:j<l.length
     ·rw[List.getElem?_append_left hjl] at hj2
      exact hrow.val j x (r5 j x hj2)
     ·rw[List.getElem?_append_right (by omega),List.getElem?_replicate] at hj2
      split at hj2
      ·cases hj2
       exact⟨cs[j]'(by omega),by rw[hsh,Nat.zero_add]; simp,.top _⟩
      ·cases hj2
    ·simp[Tree.get] at hj2
   ·rw[if_neg e] at hx
    exact hA.rel.blk b' i' x hb' hx
  ·have q:∀ {b1 x1},(A.heap.set b (dN.row i.gu (Tree.ofList (l++List.replicate (i.gu - n) .top) 0 .leaf) [] true elem 0)).get b1=some x1→∃ y,A.heap.get b1=some y:=by
    intro b1 x1 h
    rw[Tree.bJ] at h
    by_cases e:b1=b
    ·subst e; exact⟨_,hy⟩
    ·rw[if_neg e] at h; exact⟨_,h⟩
   obtain⟨y1,e1⟩:=q g1
   obtain⟨y2,e2⟩:=q g2
   exact hA.rel.sep _ _ _ _ _ _ p1 p2 e1 e2 e
  ·simp only[Tree.bJ] at hx
   by_cases e:b'=b
   ·subst e; exact hA.rel.top _ _ hy
   ·rw[if_neg e] at hx; exact hA.rel.top _ _ hx
  ·simp only[Tree.bJ] at hx
   by_cases e:b'=b
   ·subst e; exact hA.rel.lo _ _ _ hb' hy
   ·rw[if_neg e] at hx; exact hA.rel.lo _ _ _ hb' hx
  ·simp only[RM.put] at hx
   simp only[Tree.bJ]
   by_cases e:c=b
   ·subst e
    rw[if_pos rfl] at hx ⊢
    cases hx
    refine .inl ⟨_,rfl,by simp; omega,rfl,rfl,rfl,fun j v hj=>?_⟩
    have hjl:=(List.getElem?_eq_some_iff.1 hj).1
    exact zy (by simp at hjl; omega) (by rw[Tree.mK,if_pos (by omega)]; simpa using hj)
   ·rw[if_neg e] at hx ⊢
    exact hA.blk c x hx
 ·cases e0
theorem iJ.ah5 {f:FuncId} {b n:Nat} {l:List AV} {el:Nat} {rest:List AV} {M:RM} {Q:aj} (hP:FX P f) (hh:M.heap b=some (.row l true el 0)) (hl:l.length=n)
  (h:∀ c,n≤c→iJ P f (.slc b 0 n (.ex c) :: rest) (M.put b (.row (l++List.replicate (c - n) .top) true el 0)) Q) : iJ P f (.slc b 0 n (.op 1) :: rest) M Q:=by
 refine⟨hP,fun ρ w us hargs hw=>?_⟩
 cases hargs with
 | cons _ u _ us hv hr =>
 obtain⟨c,hc,hv',hw'⟩:=hw.opened hh hl hv
 refine((h c hc).2 ρ w (u :: us) (.cons _ _ _ _ hv' hr) hw').mono fun e w' hR=>?_
 obtain⟨v',v,M',ρ',rfl,k1,k2,k3⟩:=hR
 exact⟨v',v,M',ρ',rfl,⟨k1.step,k1.rel,k1.base,k1.next⟩,k2,k3⟩
end
def RM.old (base:Base) (w:World) : RM where
 next:=base.n
 heap:=fun b=>if b<base.n then(match w.heap[b]? with | some (.cells c _ _)=>some (.ro c) | _=>none) else none
 base:=base
def YL (n:Nat) : Ren:=fun b=>if b<n then some ⟨b,0,0,0⟩ else none
theorem ahJ {P:Program} {base:Base} {w:World} (hn:base.n=w.heap.size) (hi:base.inv w) : ek P (YL base.n) (RM.old base w) w:=by
 refine⟨{ next:=base.n,heap:=.leaf },rfl,⟨fun b i h=>?_,fun b i x _ h=>by simp[Tree.get] at h,fun b _ i _ x _ _ _ h=>by simp[Tree.get] at h,fun b x h=>by simp[Tree.get] at h,fun b i x _ h=>by simp[Tree.get] at h,hi⟩,by simp[RM.old,RM.lo,hn],fun b x h=>.inr ?_,fun c hc=>by have hc' : c<base.n:=hc; simp only[YL]; rw[if_pos hc']⟩
 ·simp only[YL] at h
  split at h <;> first | (cases h; done) | skip
  cases h
  exact⟨by assumption,by rw[← hn]; assumption⟩
 ·simp only[RM.old] at h
  split at h <;> first | (cases h; done) | skip
  rename_i hlt
  split at h <;> first | (cases h; done) | skip
  rename_i c el fr hh
  cases h
  exact⟨c,rfl,hlt,el,fr,hh⟩
theorem RM.aeT {base:Base} {w:World} {b:Nat} {c:Array Value} {el:TypeId} {fr:_} (hb:b<base.n) (h:w.heap[b]?=some (.cells c el fr)) : (RM.old base w).cells b=some (c.toList.map (vU base.n)):=by
 simp only[RM.cells,RM.old,if_pos hb,h]
def yX (lo:Nat) : Value→AV
 | .agg cs=>.agg (cs.toList.map (vU lo))
 | v=>vU lo v
theorem WR {ρ:Ren} {lo:Nat} (h:∀ c,c<lo→ρ c=some ⟨c,0,0,0⟩) : ∀ (vs:List Value),bn ρ (vs.map (vU lo)) vs
 | []=>.nil
 | v :: vs=>.cons _ _ _ _ (NG h v) (WR h vs)
theorem aha {ρ:Ren} {lo:Nat} (h:∀ c,c<lo→ρ c=some ⟨c,0,0,0⟩) (v:Value) : ay ρ (yX lo v) v:=by
 unfold yX
 split
 ·exact .agg _ _ (WR h _)
 ·exact NG h v
theorem UC {ρ:Ren} {lo:Nat} (h:∀ c,c<lo→ρ c=some ⟨c,0,0,0⟩) : ∀ (vs:List Value),bn ρ (vs.map (yX lo)) vs
 | []=>.nil
 | v :: vs=>.cons _ _ _ _ (aha h v) (UC h vs)
theorem iJ.close {P:Program} {f:FuncId} {base:Base} {w:World} {us:Array Value} (hn:base.n=w.heap.size) (hi:base.inv w)
  (h:iJ P f (us.toList.map (yX base.n)) (RM.old base w) fun v _=>v=Bo true) :
  Calls P f us w fun e w'=>e=.returned (.bool true)∧Below w.heap.size w w':=by
 have hr:=ahJ (P:=P) hn hi
 refine((h.2 (YL base.n) w us.toList (UC (fun c hc=>by simp only[YL]; rw[if_pos hc]) _) hr)).mono fun e w' hR=>?_
 obtain⟨v',v,M',ρ',rfl,k1,k2,rfl⟩:=hR
 obtain⟨rfl,_⟩:=aX k2
 refine⟨rfl,k1.step.os,k1.step.tape,k1.step.output,k1.step.size,fun k hk=>k1.step.low k ?_⟩
 show k<base.n
 rw[hn]; exact hk
def JM:Option TypeDesc→Bool
 | some .bool | some (.int _) | some .string | some (.slice _) | some (.struct _) | some (.array _ _)=>false
 | _=>true
inductive Fits (P:Program) (M:RM) : TypeId→List AV→Prop
 | bool (t:TypeId) (b:Bool) : P.underlying t=some .bool→Fits P M t [Bo b]
 | int (t:TypeId) (k:IntKind) (n:Int) : P.underlying t=some (.int k)→k.min≤n→n≤k.max→Fits P M t [N k n]
 | str (t:TypeId) (s:List UInt8) : P.underlying t=some .string→s.length≤reachBytes→Fits P M t [St s]
 | arD (t e:TypeId) : P.underlying t=some (.slice e)→Fits P M t [di]
 | emp (t e:TypeId) (b:Nat) : P.underlying t=some (.slice e)→Fits P M t [.emp b]
 | slc (t e:TypeId) (b o n c:Nat) (cs:List AV) : P.underlying t=some (.slice e)→b<M.next→n≤c→c * P.bytesOf e≤reachBytes→M.loads b o (n * P.cellsOf e)=some cs →
   (∀ i,i<n→Fits P M e ((cs.drop (i * P.cellsOf e)).take (P.cellsOf e)))→Fits P M t [.slc b o n (.ex c)]
 | struct (t:TypeId) (fs:Array Field) (cs:List AV) : P.underlying t=some (.struct fs)→cs.length=P.cellsOf t →
   (∀ (i:Nat) (f:Field),fs[i]?=some f→Fits P M f.type ((cs.drop f.offset).take (P.cellsOf f.type)))→Fits P M t cs
 | array (t e:TypeId) (n:Nat) (cs:List AV) : P.underlying t=some (.array n e)→cs.length=P.cellsOf t →
   (∀ i,i<n→Fits P M e ((cs.drop (i * P.cellsOf e)).take (P.cellsOf e)))→Fits P M t cs
 | other (t:TypeId) (cs:List AV) : JM (P.underlying t)=true→Fits P M t cs
 | zero (t e:TypeId) (cs:List AV) : P.underlying t=some (.slice e)→P.cellsOf e=0→Fits P M t cs
theorem I9 (a:Addr) : a.add 0=a:=by simp[Addr.add]
theorem A7 {w:World} {base:Nat} {a:Addr} {n:Nat} {cs:List Value} (h:w.cells? base a n=some cs) : cs.length=n∧∀ i,i<n→w.cell? (a.add i)=cs[i]?:=by
 unfold World.cells? at h
 split at h
 ·exact⟨by simpa using mapM_some_length h,fun i hi=>mapM_some_get h i i (by simp[hi])⟩
 ·cases h
theorem cell?_at {w:World} {a:Addr} {v:Value} (h:w.cell? a=some v) : ∃ c el fr,w.heap[a.block]?=some (.cells c el fr)∧a.spot=none∧a.off<c.size∧c[a.off]?=some v:=by
 unfold World.cell? at h
 split at h
 ·rename_i c el fr hh
  split at h
  ·cases h
  ·rename_i hs
   exact⟨c,el,fr,hh,by simpa using hs,(Array.getElem?_eq_some_iff.1 h).1,h⟩
 ·cases h
section
variable {H:Type} {enc:TypeId × Value→H} {P:Program} {base:Base} {w:World}
theorem zm {e:TypeId} {ds:List (DataW H)} {d:DataW H} (hd:d∈ds) {x:Nat} (hx:x∈d.weights P e) : x∈DataW.weightsAll P e ds:=by
 induction ds with
 | nil=>cases hd
 | cons y ys ih =>
   simp only[DataW.weightsAll,List.mem_append]
   rcases List.mem_cons.1 hd with rfl | hd
   ·exact .inl hx
   ·exact .inr (ih hd)
theorem DU {x:Nat} : ∀ (ts:List TypeId) (ds:List (DataW H)) (i:Nat) (t:TypeId) (d:DataW H),ts[i]?=some t→ds[i]?=some d→x∈d.weights P t→x∈DataW.weightsEach P ts ds
 | [],_,_,_,_,h,_,_=>by simp at h
 | _ :: _,[],_,_,_,_,h,_=>by simp at h
 | t :: ts,d :: ds,0,t',d',h,h',hx=>by
   simp at h h'; subst h h'
   simp only[DataW.weightsEach,List.mem_append]; exact .inl hx
 | t :: ts,d :: ds,i + 1,t',d',h,h',hx=>by
   simp only[DataW.weightsEach,List.mem_append]
   exact .inr (DU ts ds i t' d' (by simpa using h) (by simpa using h') hx)
theorem YD (hn:base.n=w.heap.size) {held:Bool} : ∀ (fuel:Nat) (t:TypeId) (cs:List Value) (x:DataW H × List MemPlace),DataW.trod enc P w 0 (fun _=>true) held fuel t cs=some x →
  (∀ y∈x.1.weights P t,y≤reachBytes)→Fits P (RM.old base w) t (cs.map (vU base.n)):=by
 intro fuel
 induction fuel with
 | zero=>intro t cs x h; simp[DataW.trod] at h
 | succ m ih =>
   intro t cs x h hw
   cases hu:P.underlying t with
   | none=>exact .other _ _ (by rw[hu]; rfl)
   | some d =>
     cases d with
     | bool =>
       obtain⟨b,rfl,rfl⟩:=DataW.trod_bool hu h
       exact .bool t b hu
     | int k =>
       obtain⟨n,rfl,rfl,hwf⟩:=DataW.trod_int hu h
       simp only[Lit.wf,Bool.and_eq_true,decide_eq_true_eq] at hwf
       exact .int t k n hu hwf.1 hwf.2
     | string =>
       obtain⟨s,rfl,rfl,_⟩:=DataW.trod_string hu h
       exact .str t s.data.toList hu (hw _ (by simp[DataW.weights]))
     | slice e =>
       rcases DataW.trod_slice hu h with⟨rfl,rfl⟩ | ⟨a,len,cap,elems,rest,n,hm,rfl,rfl,_,hlc,_,hel,hget,hrest,_⟩
       ·exact .arD t e hu
       ·cases hm
        rcases Nat.eq_zero_or_pos (P.cellsOf e) with hz | hz
        ·exact .zero t e _ hu hz
        rcases Nat.eq_zero_or_pos cap with hc | hc
        ·have hl0:len=0:=by omega
         subst hc hl0
         exact .emp t e 0 hu
        ·obtain⟨hr1,hr2⟩:=hrest rfl
         have every:∀ i,i<cap→∃ es y,w.cells? 0 (a.add (i * P.cellsOf e)) (P.cellsOf e)=some es∧DataW.trod enc P w 0 (fun _=>true) held m e es=some y∧(y∈elems∨y∈rest):=by
          intro i hi
          by_cases hil:i<len
          ·have h1:=hget i hil
           have h2:elems[i]?=some (elems[i]'(by omega)):=by simp[hel,hil]
           rw[h2] at h1
           obtain⟨es,e1,e2⟩:=Option.bind_eq_some_iff.1 h1
           exact⟨es,_,e1,e2,.inl (List.getElem_mem _)⟩
          ·have h1:=hr2 (i - len) (by omega)
           rw[show len + (i - len)=i by omega] at h1
           have h2:rest[i - len]?=some (rest[i - len]'(by omega)):=by
            rw[List.getElem?_eq_getElem]
           rw[h2] at h1
           obtain⟨es,e1,e2⟩:=Option.bind_eq_some_iff.1 h1
           exact⟨es,_,e1,e2,.inr (List.getElem_mem _)⟩
         obtain⟨es0,_,k0,_,_⟩:=every 0 hc
         obtain⟨kl0,kg0⟩:=A7 k0
         have hc0:=kg0 0 hz
         rw[List.getElem?_eq_getElem (by omega)] at hc0
         obtain⟨c,el,fr,hh,hsp,_,_⟩:=cell?_at hc0
         obtain⟨b,o,sp⟩:=a
         rw[Nat.zero_mul,I9,I9] at hh hsp
         simp only at hh hsp
         subst hsp
         have hblt:b<base.n:=by rw[hn]; exact(Array.getElem?_eq_some_iff.1 hh).1
         have hlast:o + cap * P.cellsOf e≤c.size:=by
          obtain⟨es1,_,k1,_,_⟩:=every (cap - 1) (by omega)
          obtain⟨kl1,kg1⟩:=A7 k1
          have hc1:=kg1 (P.cellsOf e - 1) (by omega)
          rw[List.getElem?_eq_getElem (by omega)] at hc1
          obtain⟨c',el',fr',hh',_,hlt,_⟩:=cell?_at hc1
          rw[gq,gq] at hh' hlt
          simp only at hh' hlt
          rw[hh] at hh'
          cases hh'
          have:cap * P.cellsOf e=(cap - 1) * P.cellsOf e + P.cellsOf e:=by
           rw[← Nat.succ_mul]; congr 1; omega
          omega
         have axg:vU base.n (.slice (some ⟨b,o,none⟩) len cap)=.slc b o len (.ex cap):=by
          obtain⟨cap,rfl⟩ : ∃ k,cap=k + 1:=⟨cap - 1,by omega⟩
          simp only[vU,if_pos hblt]
         have hcells:=RM.aeT hblt hh
         have hle:len * P.cellsOf e≤cap * P.cellsOf e:=Nat.mul_le_mul_right _ hlc
         have hload:(RM.old base w).loads b o (len * P.cellsOf e)=some (((c.toList.map (vU base.n)).drop o).take (len * P.cellsOf e)):=by
          simp only[RM.loads,hcells]
          rw[if_pos (by simp; omega)]
         simp only[List.map_cons,List.map_nil,axg]
         refine .slc t e b o len cap _ hu hblt hlc ?_ hload fun i hi=>?_
         ·have:=hw ((elems.length + rest.length) * P.bytesOf e) (by simp[DataW.weights,hu])
          rwa [hel,hr1,show len + (cap - len)=cap by omega] at this
         ·obtain⟨es,y,k1,k2,k3⟩:=every i (by omega)
          have hlen:=(A7 k1).1
          have hes:((((c.toList.map (vU base.n)).drop o).take (len * P.cellsOf e)).drop (i * P.cellsOf e)).take (P.cellsOf e)=es.map (vU base.n):=by
           have hii:i * P.cellsOf e + P.cellsOf e≤len * P.cellsOf e:=by rw[← Nat.succ_mul]; exact Nat.mul_le_mul_right _ hi
           apply List.ext_getElem?
           intro j
           by_cases hj:j<P.cellsOf e
           ·have hg:=(A7 k1).2 j hj
            rw[List.getElem?_take,if_pos hj,List.getElem?_drop,List.getElem?_take,if_pos (by omega),List.getElem?_drop,List.getElem?_map,List.getElem?_map,← hg]
            rw[gq,gq]
            simp only[World.cell?,hh]
            rw[Array.getElem?_toList]
            simp[Nat.add_assoc]
           ·rw[List.getElem?_eq_none (by simp; omega),List.getElem?_eq_none (by simp; omega)]
          rw[hes]
          refine ih e es y k2 fun z hz=>hw z ?_
          simp only[DataW.weights,hu,List.mem_cons,List.mem_append]
          rcases k3 with k3 | k3
          ·exact .inr (.inl (zm (List.mem_map_of_mem k3) hz))
          ·exact .inr (.inr (zm (List.mem_map_of_mem k3) hz))
     | struct fs =>
       obtain⟨xs,n,hm,rfl,hl,hxl,hget⟩:=DataW.trod_struct hu h
       cases hm
       refine .struct t fs _ hu (by simpa using hl) fun i f hf=>?_
       have h1:=hget i f hf
       have hi:i<fs.size:=(Array.getElem?_eq_some_iff.1 hf).1
       rw[List.getElem?_eq_getElem (by omega)] at h1
       rw[← List.map_drop,← List.map_take]
       refine ih _ _ _ h1 fun z hz=>hw z ?_
       simp only[DataW.weights,hu]
       refine DU _ _ i f.type _ (by simp[hf]) (by rw[List.getElem?_map,List.getElem?_eq_getElem (by omega)]; rfl) hz
     | array n e =>
       obtain⟨xs,m',hm,rfl,hl,hxl,hget⟩:=DataW.trod_array hu h
       cases hm
       refine .array t e n _ hu (by simpa using hl) fun i hi=>?_
       have h1:=hget i hi
       rw[List.getElem?_eq_getElem (by omega)] at h1
       rw[← List.map_drop,← List.map_take]
       refine ih _ _ _ h1 fun z hz=>hw z ?_
       simp only[DataW.weights,hu]
       exact zm (List.mem_map_of_mem (List.getElem_mem _)) hz
     | _=>exact .other _ _ (by rw[hu]; rfl)
end
section
variable {P:Program} {M:RM} {t:TypeId} {cs:List AV}
theorem Fits.SA (h:Fits P M t cs) {k:IntKind} (hu:P.underlying t=some (.int k)) : ∃ n:Int,cs=[N k n]∧k.min≤n∧n≤k.max:=by
 cases h with
 | int _ k' n h1 h2 h3=>rw[hu] at h1; cases h1; exact⟨n,rfl,h2,h3⟩
 | _=>simp_all [JM]
theorem Fits.Fx (h:Fits P M t cs) (hu:P.underlying t=some .string) : ∃ s,cs=[St s]∧s.length≤reachBytes:=by
 cases h with
 | str _ s h1 h2=>exact⟨s,rfl,h2⟩
 | _=>simp_all [JM]
theorem Fits.QF (h:Fits P M t cs) {fs:Array Field} (hu:P.underlying t=some (.struct fs)) : cs.length=P.cellsOf t∧∀ (i:Nat) (f:Field),fs[i]?=some f→Fits P M f.type ((cs.drop f.offset).take (P.cellsOf f.type)):=by
 cases h with
 | struct _ fs' _ h1 h2 h3=>rw[hu] at h1; cases h1; exact⟨h2,h3⟩
 | _=>simp_all [JM]
theorem Fits.Uo (h:Fits P M t cs) {e:TypeId} (hu:P.underlying t=some (.slice e)) (hz:0<P.cellsOf e) :
  ∃ v n ds,cs=[v]∧aL M (P.cellsOf e) v ds n∧n * P.bytesOf e≤reachBytes∧∀ i,i<n→Fits P M e ((ds.drop (i * P.cellsOf e)).take (P.cellsOf e)):=by
 cases h with
 | arD _ e' h1=>exact⟨_,0,[],rfl,.nil,by simp,fun i hi=>absurd hi (by omega)⟩
 | emp _ e' b h1=>exact⟨_,0,[],rfl,.emp b,by simp,fun i hi=>absurd hi (by omega)⟩
 | slc _ e' b o n c ds h1 h2 h3 h4 h5 h6 =>
   rw[hu] at h1; cases h1
   exact⟨_,n,ds,rfl,.slc b o n _ ds h2 h5,Nat.le_trans (Nat.mul_le_mul_right _ h3) h4,h6⟩
 | zero _ e' _ h1 h2=>rw[hu] at h1; cases h1; omega
 | _=>simp_all [JM]
theorem UF {α:Type} {size:Nat} (enc:α→List AV) (p:α→Prop) (hs:∀ a,(enc a).length=size) : ∀ (n:Nat) (ds:List AV),ds.length=n * size→(∀ i,i<n→∃ a,p a∧(ds.drop (i * size)).take size=enc a) →
  ∃ xs:List α,xs.length=n∧ds=xs.flatMap enc∧∀ x∈xs,p x
 | 0,ds,hl,_=>⟨[],rfl,by simpa using hl,by simp⟩
 | n + 1,ds,hl,h=>by
   obtain⟨a,pa,ha⟩:=h 0 (by omega)
   simp only[Nat.zero_mul,List.drop_zero] at ha
   have hl' : (ds.drop size).length=n * size:=by rw[List.length_drop,hl,Nat.succ_mul]; omega
   obtain⟨xs,h1,h2,h3⟩:=UF enc p hs n (ds.drop size) hl' fun i hi=>by
    obtain⟨b,pb,hb⟩:=h (i + 1) (by omega)
    refine⟨b,pb, ?_⟩
    rw[List.drop_drop,← hb,Nat.succ_mul,Nat.add_comm]
   refine⟨a :: xs,by simp[h1], ?_,fun x hx=>?_⟩
   ·rw[List.flatMap_cons,← h2,← ha,List.take_append_drop]
   ·rcases List.mem_cons.1 hx with rfl | hx
    ·exact pa
    ·exact h3 x hx
end
def Sz (P:Program) (t:TypeId) : Bool :=
 match P.underlying t with
 | some (.struct _) | some (.array _ _)=>true
 | _=>false
def vw (P:Program) (M:RM) (t:TypeId) (v:AV) : Prop :=
 match Sz P t with
 | true=>∃ cs,v=.agg cs∧Fits P M t cs
 | false=>Fits P M t [v]
theorem vw.agg {P:Program} {M:RM} {t:TypeId} {v:AV} (h:vw P M t v) (ha:Sz P t=true) : ∃ cs,v=.agg cs∧Fits P M t cs:=by
 unfold vw at h; rw[ha] at h; exact h
theorem vw.one {P:Program} {M:RM} {t:TypeId} {v:AV} (h:vw P M t v) (ha:Sz P t=false) : Fits P M t [v]:=by
 unfold vw at h; rw[ha] at h; exact h
section
variable {H:Type} {enc:TypeId × Value→H} {P:Program} {base:Base} {w:World}
theorem XE {r:Reach} {b:Nat} {t:TypeId} {cs:Array Value} (h:Cell.okWide P w r b t (.agg cs)) : False:=by
 unfold Cell.okWide at h
 split at h <;> first | (rename_i e _; cases e; done) | skip
 all_goals first | (rename_i e; cases e; done) | skip
 unfold Cell.ok at h
 split at h <;> first | exact h | simp_all
theorem aiu (hn:base.n=w.heap.size) {r:Reach} {b:Nat} {held:Bool} {t:TypeId} {v:Value} {d:DataW H} {ps:List MemPlace} (hv:Value.okWide P w r b t v) (h:DataW.Trod enc P w 0 (fun _=>true) held t v d ps)
  (hw:∀ y∈d.weights P t,y≤reachBytes) : vw P (RM.old base w) t (yX base.n v):=by
 obtain⟨fuel,hf⟩:=h
 have hfit:=YD hn fuel t _ _ hf hw
 unfold vw
 cases ha:Sz P t with
 | true =>
   have:∃ cs,v=.agg cs:=by
    unfold Value.okWide at hv
    unfold Sz at ha
    split at hv
    ·obtain⟨cs,h,_⟩:=hv; exact⟨cs,h⟩
    ·obtain⟨cs,h,_⟩:=hv; exact⟨cs,h⟩
    ·split at ha <;> simp_all
   obtain⟨cs,rfl⟩:=this
   exact⟨_,rfl,hfit⟩
 | false =>
   have hc:Cell.okWide P w r b t v:=by
    unfold Value.okWide at hv
    unfold Sz at ha
    split at hv
    ·simp_all
    ·simp_all
    ·exact hv
   have:v.cells.toList=[v]∧yX base.n v=vU base.n v:=by
    cases v with
    | agg cs=>exact(XE hc).elim
    | _=>exact⟨rfl,rfl⟩
   rw[this.1] at hfit
   rw[this.2]
   exact hfit
theorem ZZ (hn:base.n=w.heap.size) {r:Reach} {b:Nat} {held:Bool} : ∀ {ts:List TypeId} {vs:List Value} {ds:List (DataW H)} {ps:List MemPlace},DataW.TrodAll enc P w 0 (fun _=>true) held ts vs ds ps →
  (∀ (j:Nat) t v,ts[j]?=some t→vs[j]?=some v→Value.okWide P w r b t v)→(∀ y∈DataW.weightsEach P ts ds,y≤reachBytes) →
  ∀ (j:Nat) t v,ts[j]?=some t→vs[j]?=some v→vw P (RM.old base w) t (yX base.n v)
 | [],_,_,_,_,_,_,j,t,v,h,_=>by simp at h
 | t0 :: ts,vs,ds,ps,h,hv,hw,j,t,v,hj,hvj=>by
   cases vs with
   | nil=>simp at hvj
   | cons v0 vs =>
   cases ds with
   | nil=>exact h.elim
   | cons d ds =>
   obtain⟨p,q,h1,h2,_⟩:=h
   cases j with
   | zero =>
     simp at hj hvj; subst hj hvj
     exact aiu hn (hv 0 _ _ rfl rfl) h1 fun y hy=>hw y (by simp[DataW.weightsEach,hy])
   | succ j =>
     exact ZZ hn h2 (fun j t v a b=>hv (j + 1) t v (by simpa using a) (by simpa using b)) (fun y hy=>hw y (by simp[DataW.weightsEach,hy])) j t v (by simpa using hj) (by simpa using hvj)
theorem I1 (hl:laidOutB P=true) {W W' : World} {sp:Nat→Bool} (hb:Below W.heap.size W W') : ∀ {ts:List TypeId} {vs:List Value} {ds:List (DataW H)} {ps:List MemPlace},
  (∀ t∈ts,P.readableRec t=true∧t<P.types.size)→DataW.TrodAll enc P W 0 (fun _=>true) true ts vs ds ps→(∀ p∈ps,p.block<W.heap.size)→(∀ p∈ps,sp p.block=true)→DataW.TrodAll enc P W' 0 sp true ts vs ds ps
 | [],vs,ds,ps,_,h,_,_=>by
   cases vs <;> cases ds <;> first | exact h | exact h.elim
 | t :: ts,vs,ds,ps,hr,h,hlt,hsp=>by
   cases vs with
   | nil=>cases ds <;> exact h.elim
   | cons v vs =>
   cases ds with
   | nil=>exact h.elim
   | cons d ds =>
   obtain⟨p,q,h1,h2,rfl⟩:=h
   have hrt:=hr t (List.mem_cons_self ..)
   exact⟨p,q,WideElems.Trod_stays hl hrt.1 hrt.2 h1 (fun x hx=>hb.same (hlt x (List.mem_append_left _ hx))) (fun x hx=>hsp x (List.mem_append_left _ hx)),
    I1 hl hb (fun t ht=>hr t (List.mem_cons_of_mem _ ht)) h2 (fun x hx=>hlt x (List.mem_append_right _ hx)) (fun x hx=>hsp x (List.mem_append_right _ hx)),rfl⟩
end
def RB.cells (lo:Nat) : RB→Option (List AV)
 | .row l _ _ _=>some l
 | .ro c=>some (c.toList.map (vU lo))
 | _=>none
@[go_sem] theorem RB.Ef (lo:Nat) (l:List AV) (p:Bool) (e f:Nat) : RB.cells lo (.row l p e f)=some l:=rfl
theorem RM.OM (M:RM) (b:Nat) : M.cells b=(M.heap b).bind (RB.cells M.lo):=by
 unfold RM.cells RB.cells
 cases M.heap b with
 | none=>rfl
 | some x=>cases x <;> rfl
def zR (l:Option (List AV)) (o k:Nat) : Option (List AV) :=
 match l with
 | some l=>if o + k≤l.length then some ((l.drop o).take k) else none
 | none=>none
@[go_sem] theorem asi (l:List AV) (o k:Nat) : zR (some l) o k=if o + k≤l.length then some ((l.drop o).take k) else none:=rfl
theorem RM.Og (M:RM) (b o k:Nat) : M.loads b o k=zR (M.cells b) o k:=rfl
section
variable {M M' : RM}
@[go_sem] theorem RM.afc (x:RB) (c:Nat) : (M.push x).heap c=if c=M.next then some x else M.heap c:=rfl
@[go_sem] theorem RM.heap_put (b:Nat) (x:RB) (c:Nat) : (M.put b x).heap c=if c=b then some x else M.heap c:=rfl
@[go_sem] theorem RM.avE (b:Nat) (c:Nat) : (M.del b).heap c=if c=b then none else M.heap c:=rfl
@[go_sem] theorem RM.auY (x:RB) : (M.push x).base=M.base:=rfl
@[go_sem] theorem RM.av7 (b:Nat) (x:RB) : (M.put b x).base=M.base:=rfl
@[go_sem] theorem RM.avG (b:Nat) : (M.del b).base=M.base:=rfl
theorem RM.Qe (x:RB) (c:Nat) : (M.push x).cells c=if c=M.next then x.cells M.lo else M.cells c:=by
 simp only[RM.OM,RM.afc]
 split <;> rfl
theorem RM.Un (b:Nat) (x:RB) (c:Nat) : (M.put b x).cells c=if c=b then x.cells M.lo else M.cells c:=by
 simp only[RM.OM,RM.heap_put]
 split <;> rfl
@[go_sem] theorem RM.au4 (x:RB) (c o:Nat) : (M.push x).cell c o=if c=M.next then(x.cells M.lo).bind (·[o]?) else M.cell c o:=by
 simp only[RM.cell,RM.Qe]
 split <;> rfl
@[go_sem] theorem RM.awg (b:Nat) (x:RB) (c o:Nat) : (M.put b x).cell c o=if c=b then(x.cells M.lo).bind (·[o]?) else M.cell c o:=by
 simp only[RM.cell,RM.Un]
 split <;> rfl
@[go_sem] theorem RM.auJ (x:RB) (c o k:Nat) : (M.push x).loads c o k=if c=M.next then zR (x.cells M.lo) o k else M.loads c o k:=by
 simp only[RM.Og,RM.Qe]
 split <;> rfl
@[go_sem] theorem RM.au9 (b:Nat) (x:RB) (c o k:Nat) : (M.put b x).loads c o k=if c=b then zR (x.cells M.lo) o k else M.loads c o k:=by
 simp only[RM.Og,RM.Un]
 split <;> rfl
def tX (l:List AV) (fz o:Nat) (vs:List AV) : Option (List AV) :=
 if o + vs.length≤l.length∧fz≤o∧vs.all oneCell=true then some (l.take o++vs++l.drop (o + vs.length)) else none
theorem rZ {l vs:List AV} {fz o:Nat} (h1:o + vs.length≤l.length) (h2:fz≤o) (h3:vs.all oneCell=true) : tX l fz o vs=some (l.take o++vs++l.drop (o + vs.length)):=if_pos ⟨h1,h2,h3⟩
@[go_sem] theorem Ve {l vs:List AV} (h:vs.length=l.length) (h3:vs.all oneCell=true) : tX l 0 0 vs=some vs:=by
 rw[rZ (by omega) (Nat.le_refl _) h3]
 simp[h]
theorem RM.Eo {b o:Nat} {vs l:List AV} {p:Bool} {e f:Nat} (h:M.heap b=some (.row l p e f)) : M.stores b o vs=(tX l f o vs).map fun l'=>M.put b (.row l' p e f):=by
 simp only[RM.stores,h,tX]
 split <;> rfl
theorem RM.ahX {x y:RB} : (M.push x).put M.next y=M.push y:=by
 simp only[RM.put,RM.push]
 congr 1
 funext c
 split <;> rfl
theorem RM.Zf {x y:RB} {b:Nat} (hb:b≠M.next) : (M.push x).put b y=(M.put b y).push x:=by
 simp only[RM.put,RM.push]
 congr 1
 funext c
 by_cases h1:c=b
 ·subst h1; simp[hb]
 ·simp[h1]
theorem RM.P8 {l vs:List AV} {p:Bool} {e f o:Nat} : (M.push (.row l p e f)).stores M.next o vs=(tX l f o vs).map fun l'=>M.push (.row l' p e f):=by
 rw[RM.Eo (RM.aT _)]
 congr 1
 funext l'
 exact RM.ahX
theorem RM.Pj {M:RM} {b o:Nat} {vs:List AV} : M.stores b o vs=match M.heap b with
  | some (.row l p e f)=>(tX l f o vs).map fun l'=>M.put b (.row l' p e f)
  | _=>none:=by
 cases h:M.heap b with
 | none=>simp[RM.stores,h]
 | some x =>
   cases x with
   | row l p e f=>rw[RM.Eo h]
   | _=>simp[RM.stores,h]
@[go_sem] theorem RM.QW {x:RB} {vs:List AV} {c o:Nat} (hc:c≠M.next) : (M.push x).stores c o vs=(M.stores c o vs).map (·.push x):=by
 rw[RM.Pj,RM.Pj,RM.aiR hc]
 split
 ·simp only[Option.map_map]
  congr 1
  funext l'
  exact RM.Zf hc
 ·rfl
@[go_sem] theorem RM.asl {l vs:List AV} {p:Bool} {e f c o:Nat} : (M.push (.row l p e f)).stores c o vs =
  if c=M.next then(tX l f o vs).map fun l'=>M.push (.row l' p e f) else(M.stores c o vs).map (·.push (.row l p e f)):=by
 split
 ·rename_i h; subst h; exact RM.P8
 ·rename_i h; exact RM.QW h
@[go_sem] theorem RM.ajo {b o:Nat} {l vs:List AV} {p:Bool} {e f:Nat} : (M.put b (.row l p e f)).stores b o vs=(tX l f o vs).map fun l'=>M.put b (.row l' p e f):=by
 rw[RM.Eo (RM.wm _ _)]
 congr 1
 funext l'
 simp only[RM.put]
 congr 1
 funext c
 split <;> rfl
@[go_sem] theorem axs {α:Type} (a:α) (K:α→Prop) : (∃ x,some a=some x∧K x)=K a:=by simp
@[go_sem] theorem asj {α β:Type} (f:α→β) (x:α) : (some x).map f=some (f x):=rfl
attribute [go_sem] Int.natCast_nonneg Int.toNat_natCast Nat.mul_one true_implies false_implies Bool.false_eq_true Bool.true_eq_false Bool.not_true Bool.not_false Bool.and_self Bool.and_true Bool.true_and Nat.le_refl List.append_nil List.nil_append if_true if_false Nat.lt_irrefl Nat.add_one_ne_zero true_and and_true Nat.zero_add Nat.add_zero List.drop_zero List.getElem?_cons_zero List.getElem?_cons_succ Option.bind_some List.take_succ_cons List.take_zero List.drop_succ_cons List.drop_nil List.take_nil
attribute [go_sem] jR List.all_cons List.all_nil List.length_cons List.length_nil
@[go_sem] theorem au8 (cs:List AV) : (AV.agg cs).cells=cs:=rfl
@[go_sem] theorem awy (v:Value) : (AV.sc v).cells=[.sc v]:=rfl
@[go_sem] theorem auV (b o:Nat) : (AV.ptr b o).cells=[.ptr b o]:=rfl
@[go_sem] theorem au0 (b o n:Nat) (c:Cap) : (AV.slc b o n c).cells=[.slc b o n c]:=rfl
@[go_sem] theorem auQ (b:Nat) : (AV.emp b).cells=[.emp b]:=rfl
@[go_sem] theorem avd (b:Nat) : (AV.map b).cells=[.map b]:=rfl
@[go_sem] theorem avM (f:Fn) (xs ys:List AV) : (AV.fn f xs ys).cells=[.fn f xs ys]:=rfl
@[go_sem] theorem Wx (v:Value) : oneCell (.sc v)=true:=rfl
@[go_sem] theorem axu (b o:Nat) : oneCell (.ptr b o)=true:=rfl
@[go_sem] theorem axq (b o n:Nat) (c:Cap) : oneCell (.slc b o n c)=true:=rfl
@[go_sem] theorem axo (b:Nat) : oneCell (.emp b)=true:=rfl
@[go_sem] theorem axp (b:Nat) : oneCell (.map b)=true:=rfl
@[go_sem] theorem axw (f:Fn) (xs ys:List AV) : oneCell (.fn f xs ys)=true:=rfl
end
theorem RM.ZM {M:RM} {b:Nat} {l:List AV} {p:Bool} {e f:Nat} (h:M.heap b=some (.row l p e f)) (o k:Nat) : M.loads b o k=zR (some l) o k:=by rw[RM.Og,RM.Ef h]
theorem RM.cell_of {M:RM} {b:Nat} {l:List AV} {p:Bool} {e f:Nat} (h:M.heap b=some (.row l p e f)) (o:Nat) : M.cell b o=l[o]?:=RM.ahd h
theorem RM.Ai {M:RM} {b:Nat} {l:List AV} {p:Bool} {e f:Nat} (h:M.heap b=some (.row l p e f)) (o:Nat) (vs:List AV) : M.stores b o vs=(tX l f o vs).map fun l'=>M.put b (.row l' p e f):=RM.Eo h
theorem ag.aQ {bs:List Nat} {M M' : RM} (h:ag bs M M') {b:Nat} {x:RB} (hh:M.heap b=some x) (hlt:b<M.next) (hb:b ∉ bs) : M'.heap b=some x:=by rw[h.heap b hlt hb,hh]
def acN (tab run:iD) : iD:=fun f args A=>match tab f args A with
 | some r=>some r
 | none=>run f args A
def LW (P:Program) (X:Ext) (tab:iD) (L:Nat) : Nat→iD
 | 0,_,_,_=>none
 | n + 1,f,args,A=>match has X.split f with
   | true=>Y7 (VD P X L (acN tab (LW P X tab L n))) f args A
   | false=>VD P X L (acN tab (LW P X tab L n)) f args A
inductive Ans where
 | val (v:AV)
 | rows (n:Nat) (v:AV) (bs:List (Nat × dN)) (n' : Nat)
structure aD where
 args:List AV
 fp:List (Nat × dN):=[]
 dead:List Nat:=[]
 nx:Nat:=0
 ans:Ans
def zQ:Tree dN→List (Nat × dN)→Tree dN
 | t,[]=>t
 | t,(b,x) :: r=>zQ (t.set b x) r
def Kv:Tree dN→List Nat→Tree dN
 | t,[]=>t
 | t,b :: r=>Kv (t.del b) r
def FT (A:AW) : List (Nat × dN)→Bool
 | []=>true
 | (b,x) :: r=>match A.heap.get b with
   | some y=>Gm x y && FT A r
   | none=>false
def acB (A:AW) (e:aD) : Option (AV × AW) :=
 match FT A e.fp with
 | false=>none
 | true=>match e.ans with
   | .val v=>some (v,A)
   | .rows n v bs n'=>match Nat.beq n A.next with
     | true=>some (v,{ next:=n',heap:=zQ (Kv A.heap e.dead) bs })
     | false=>none
def LZ:List aD→List AV→AW→Option (AV × AW)
 | [],_,_=>none
 | e :: es,args,A=>match vo e.args args with
   | true=>match acB A e with
     | some r=>some r
     | none=>LZ es args A
   | false=>LZ es args A
abbrev Table:=List (Nat × List aD)
def Hg:Table→iD
 | [],_,_,_=>none
 | (g,es) :: T,f,args,A=>match Nat.beq g f with
   | true=>match LZ es args A with
     | some r=>some r
     | none=>Hg T f args A
   | false=>Hg T f args A
def Qx:List Nat→Nat→Bool
 | [],_=>false
 | k :: ks,b=>match Nat.beq k b with
   | true=>true
   | false=>Qx ks b
mutual
def within (ks:List Nat) : AV→Bool
 | .sc _ | .top | .atl _=>true
 | .ptr b _ | .slc b _ _ _ | .emp b | .map b=>Qx ks b
 | .fn _ xs ys=>rA ks xs && rA ks ys
 | .ifc _ x=>within ks x
 | .agg xs | .tup xs=>rA ks xs
def rA (ks:List Nat) : List AV→Bool
 | []=>true
 | x :: xs=>within ks x && rA ks xs
end
theorem uf {b:Nat} : ∀ {ks:List Nat},Qx ks b=true↔b∈ks
 | []=>by simp[Qx]
 | k :: ks=>by
   simp only[Qx]
   split
   ·rename_i h
    simp[bI h]
   ·rename_i h
    rw[uf,List.mem_cons]
    constructor
    ·exact .inr
    ·rintro(e | e)
     ·exact absurd e.symm (DW h)
     ·exact e
mutual
theorem ug {ρ ρ' : Ren} {ks:List Nat} (hk:∀ b∈ks,∀ i,ρ b=some i→ρ' b=some i) : ∀ (x:AV) {v:Value},within ks x=true→ay ρ x v→ay ρ' x v
 | .top,v,_,_=>.top v
 | .atl k,v,_,hr=>by cases hr; exact .atl _ _ (by assumption)
 | .sc u,v,_,hr=>by cases hr; exact .sc _ (by assumption)
 | .ptr b o,v,h,hr=>by
   simp only[within] at h
   cases hr with
   | ptr _ _ i e=>exact .ptr _ _ i (hk b (uf.1 h) i e)
 | .slc b o l c,v,h,hr=>by
   simp only[within] at h
   cases hr with
   | jJ _ _ _ c i e=>exact .jJ _ _ _ c i (hk b (uf.1 h) i e)
   | mI _ k _ i e q=>exact .mI _ k _ i (hk b (uf.1 h) i e) q
 | .emp b,v,h,hr=>by
   simp only[within] at h
   cases hr with
   | emp _ a c=>exact .emp _ a c
 | .map b,v,h,hr=>by
   simp only[within] at h
   cases hr with
   | map _ i e=>exact .map _ i (hk b (uf.1 h) i e)
 | .fn f xs ys,v,h,hr=>by
   simp only[within,Bool.and_eq_true] at h
   cases hr with
   | fn _ _ _ us vs p a b=>exact .fn f xs ys us vs p (rC hk xs h.1 a) (rC hk ys h.2 b)
 | .ifc t x,v,h,hr=>by
   simp only[within] at h
   cases hr with
   | ifc _ _ v a=>exact .ifc t x v (ug hk x h a)
 | .agg xs,v,h,hr=>by
   simp only[within] at h
   cases hr with
   | agg _ vs a=>exact .agg xs vs (rC hk xs h a)
 | .tup xs,v,h,hr=>by
   simp only[within] at h
   cases hr with
   | tup _ vs a=>exact .tup xs vs (rC hk xs h a)
theorem rC {ρ ρ' : Ren} {ks:List Nat} (hk:∀ b∈ks,∀ i,ρ b=some i→ρ' b=some i) : ∀ (xs:List AV) {vs:List Value},rA ks xs=true→bn ρ xs vs→bn ρ' xs vs
 | [],vs,_,hr=>by cases hr; exact .nil
 | x :: xs,vs,h,hr=>by
   simp only[rA,Bool.and_eq_true] at h
   cases hr with
   | cons _ v _ vs a b=>exact .cons x v xs vs (ug hk x h.1 a) (rC hk xs h.2 b)
end
def FL (p:AV→Bool) : Tree AV→Bool
 | .leaf=>true
 | .node l v r=>(match v with
   | some x=>p x
   | none=>true) && FL p l && FL p r
theorem EM {p:AV→Bool} : ∀ {t:Tree AV} {k:Nat} {x:AV},FL p t=true→t.get k=some x→p x=true
 | .leaf,k,x,_,h=>by simp[Tree.get] at h
 | .node l v r,k,x,ha,h=>by
   simp only[FL,Bool.and_eq_true] at ha
   simp only[Tree.get] at h
   split at h
   ·rw[h] at ha; exact ha.1.1
   ·split at h
    ·exact EM ha.1.2 h
    ·exact EM ha.2 h
def QU (ks:List Nat) : List (AV × AV × Nat)→Bool
 | []=>true
 | (k,v,_) :: es=>within ks k && within ks v && QU ks es
def VL (ks:List Nat) : dN→Bool
 | .row _ t zs _ _ _=>FL (within ks) t && rA ks zs
 | .map es _=>QU ks es
 | .iter m _ _ _=>match m with
   | some b=>Qx ks b
   | none=>true
 | .nT _ _=>true
theorem Mm {ks:List Nat} : ∀ {xs:List AV},rA ks xs=true→∀ x∈xs,within ks x=true
 | [],_,x,h=>by cases h
 | y :: ys,h,x,hx=>by
   simp only[rA,Bool.and_eq_true] at h
   rcases List.mem_cons.1 hx with e | hx
   ·rw[e]; exact h.1
   ·exact Mm h.2 x hx
theorem abz {β:Type} : ∀ {l:List β} {n:Nat} {x:β},nth l n=some x→x∈l
 | [],_,_,h=>by simp[nth] at h
 | y :: ys,0,x,h=>by simp[nth] at h; simp[h]
 | y :: ys,n + 1,x,h=>by
   simp only[nth] at h
   exact List.mem_cons_of_mem _ (abz h)
theorem afa {tree:Tree AV} {zs:List AV} {n k:Nat} {x:AV} (h:cellAt tree zs n k=some x) : tree.get k=some x∨x∈zs:=by
 unfold cellAt at h
 split at h
 ·cases h
 ·split at h
  ·rename_i v hv
   cases h
   exact .inl hv
  ·split at h
   ·cases h
   ·cases h
    exact .inr (List.mem_cons_self ..)
   ·exact .inr (abz h)
theorem dJ.restrict {ρ ρ' : Ren} {ks:List Nat} (hk:∀ b∈ks,∀ i,ρ b=some i→ρ' b=some i) : ∀ {es:List (AV × AV × Nat)} {fs:List MapEntry},QU ks es=true→dJ ρ es fs→dJ ρ' es fs
 | [],[],_,_=>trivial
 | [],_ :: _,_,h=>h.elim
 | _ :: _,[],_,h=>h.elim
 | (a,b,n) :: es,f :: fs,h,⟨h1,h2,h3,h4⟩=>by
   simp only[QU,Bool.and_eq_true] at h
   exact⟨ug hk a h.1.1 h1,ug hk b h.1.2 h2,h3,dJ.restrict hk h.2 h4⟩
theorem kJ.restrict {P:Program} {ρ ρ' : Ren} {ks:List Nat} (hk:∀ b∈ks,∀ i,ρ b=some i→ρ' b=some i) {i:iU} : ∀ {x:dN} {o:Obj},VL ks x=true→kJ P ρ i x o→kJ P ρ' i x o
 | .row n t zs opn el fz,o,h,⟨c,fr,e,k⟩=>by
   simp only[VL,Bool.and_eq_true] at h
   refine⟨c,fr,e,k.size,fun j x hx=>?_,k.free,k.mark,k.opn,k.sh0⟩
   obtain⟨v,h1,h2⟩:=k.val j x hx
   refine⟨v,h1,ug hk x ?_ h2⟩
   rcases afa hx with hx | hx
   ·exact EM h.1 hx
   ·exact Mm h.2 x hx
 | .map es clock,o,h,⟨fs,e,k⟩=>⟨fs,e,dJ.restrict hk h k⟩
 | .iter m since seen st,o,h,⟨m',e,k⟩=>by
   refine⟨m',e, ?_⟩
   cases m with
   | none=>exact k
   | some b =>
     obtain⟨j,h1,h2⟩:=k
     exact⟨j,hk b (uf.1 h) j h1,h2⟩
 | .nT s pos,o,h,k=>k
section
variable {P:Program} {X:Ext}
theorem Qy {base:Base} {tab run:iD} (ht:mF P base tab) (hr:mF P base run) : mF P base (acN tab run):=by
 intro f args A v A' h
 unfold acN at h
 split at h
 ·rename_i r hr'
  cases h
  exact ht f args A v A' hr'
 ·exact hr f args A v A' h
theorem Ey {base:Base} (hng:Jb P X) (hm:P.follows .mixedOrders=true) {tab:iD} (ht:mF P base tab) (L:Nat) : ∀ n,mF P base (LW P X tab L n)
 | 0=>by intro f args A v A' h; simp[LW] at h
 | n + 1=>by
   intro f args A v A' h
   simp only[LW] at h
   split at h
   ·exact Yj (Mt hng hm L (Qy ht (Ey hng hm ht L n))) f args A v A' h
   ·exact Mt hng hm L (Qy ht (Ey hng hm ht L n)) f args A v A' h
def zI (P:Program) (I:World→Prop) (f:Nat) (e:aD) : Prop :=
 ∀ (base:Base),(∀ w,base.inv w→I w)→∀ A v A',acB A e=some (v,A')→∀ (ρ:Ren) (w:World) (us:List Value),bn ρ e.args us→bP P base ρ A w→base≤w.heap.size →
   Calls P f ⟨us⟩ w fun r w'=>∃ ρ' v',r=.returned v'∧Step base A.next ρ w ρ' w'∧bP P base ρ' A' w'∧A.next≤A'.next∧ay ρ' v v'
def lT (P:Program) (I:World→Prop) (T:Table) : Prop:=∀ g∈T,∀ e∈g.2,zI P I g.1 e
theorem Es {base:Base} {I:World→Prop} (hI:∀ w,base.inv w→I w) {f:Nat} : ∀ (es:List aD),(∀ e∈es,zI P I f e)→∀ {args A v A'},LZ es args A=some (v,A')→∀ (ρ:Ren) (w:World) (us:List Value),bn ρ args us→bP P base ρ A w→base≤w.heap.size →
  Calls P f ⟨us⟩ w fun r w'=>∃ ρ' v',r=.returned v'∧Step base A.next ρ w ρ' w'∧bP P base ρ' A' w'∧A.next≤A'.next∧ay ρ' v v'
 | [],_,args,A,v,A',h=>by simp[LZ] at h
 | e :: es,hes,args,A,v,A',h=>by
   simp only[LZ] at h
   split at h
   ·rename_i hq
    have hq:=tK _ _ hq
    subst hq
    split at h
    ·rename_i r hr
     cases h
     exact hes e (List.mem_cons_self ..) base hI A v A' hr
    ·exact Es hI es (fun e he=>hes e (List.mem_cons_of_mem _ he)) h
   ·exact Es hI es (fun e he=>hes e (List.mem_cons_of_mem _ he)) h
theorem Fp {base:Base} {I:World→Prop} (hI:∀ w,base.inv w→I w) : ∀ (T:Table),lT P I T→mF P base (Hg T)
 | [],_=>by intro f args A v A' h; simp[Hg] at h
 | (g,es) :: T,hT=>by
   intro f args A v A' h
   have hrest:=Fp hI T (fun g hg=>hT g (List.mem_cons_of_mem _ hg))
   simp only[Hg] at h
   split at h
   ·rename_i hq
    have hq:=bI hq
    subst hq
    split at h
    ·rename_i r hr
     cases h
     exact Es hI es (hT (g,es) (List.mem_cons_self ..)) hr
    ·exact hrest g args A v A' h
   ·exact hrest f args A v A' h
theorem BA:∀ (bs:List (Nat × dN)) (t:Tree dN) {k:Nat} {x:dN},(zQ t bs).get k=some x→(k,x)∈bs∨(t.get k=some x∧∀ y,(k,y) ∉ bs)
 | [],t,k,x,h=>.inr ⟨h,fun y hy=>by cases hy⟩
 | (b,y) :: r,t,k,x,h=>by
   simp only[zQ] at h
   rcases BA r _ h with h | ⟨h,hn⟩
   ·exact .inl (List.mem_cons_of_mem _ h)
   ·rw[Tree.bJ] at h
    split at h
    ·rename_i e
     cases h
     subst e
     exact .inl (List.mem_cons_self ..)
    ·rename_i hne
     refine .inr ⟨h,fun z hz=>?_⟩
     rcases List.mem_cons.1 hz with e | hz
     ·cases e; exact hne rfl
     ·exact hn z hz
theorem G9:∀ (ds:List Nat) (t:Tree dN) {k:Nat} {x:dN},(Kv t ds).get k=some x→t.get k=some x∧k ∉ ds
 | [],t,k,x,h=>⟨h,by simp⟩
 | d :: r,t,k,x,h=>by
   simp only[Kv] at h
   obtain⟨h1,h2⟩:=G9 r _ h
   rw[Tree.zg] at h1
   split at h1
   ·cases h1
   ·rename_i hne
    exact⟨h1,by simp only[List.mem_cons,not_or]; exact⟨hne,h2⟩⟩
theorem JZ {A:AW} : ∀ (l:List (Nat × dN)),FT A l=true→∀ b x,(b,x)∈l→A.heap.get b=some x
 | [],_,b,x,hm=>by cases hm
 | (c,y) :: r,h,b,x,hm=>by
   simp only[FT] at h
   split at h <;> first | (cases h; done) | skip
   rename_i z hz
   rw[Bool.and_eq_true] at h
   rcases List.mem_cons.1 hm with e | hm
   ·cases e
    rw[hz,Ce h.1]
   ·exact JZ r h.2 b x hm
def keysOf:List (Nat × dN)→List Nat
 | []=>[]
 | (b,_) :: r=>b :: keysOf r
theorem Im {b:Nat} : ∀ {l:List (Nat × dN)},b∈keysOf l↔∃ x,(b,x)∈l
 | []=>by simp[keysOf]
 | (c,y) :: r=>by
   simp only[keysOf,List.mem_cons,Im (l:=r)]
   constructor
   ·rintro(e | ⟨x,h⟩)
    ·subst e; exact⟨y,.inl rfl⟩
    ·exact⟨x,.inr h⟩
   ·rintro⟨x,h | h⟩
    ·cases h; exact .inl rfl
    ·exact .inr ⟨x,h⟩
def aeB (ks:List Nat) (n:Nat) : List (Nat × dN)→List Nat→Bool
 | [],_=>true
 | (b,x) :: r,seen=>VL ks x && Nat.ble (b + 1) n && !Qx seen b && aeB ks n r (b :: seen)
theorem Uv {ks:List Nat} {n:Nat} : ∀ (l:List (Nat × dN)) (seen:List Nat),aeB ks n l seen=true→(∀ b x,(b,x)∈l→VL ks x=true∧b<n∧b ∉ seen)∧∀ b x y,(b,x)∈l→(b,y)∈l→x=y
 | [],_,_=>⟨fun b x h=>(by cases h),fun b x y h=>(by cases h)⟩
 | (c,z) :: r,seen,h=>by
   simp only[aeB,Bool.and_eq_true,Bool.not_eq_true'] at h
   obtain⟨⟨⟨h1,h2⟩,h3⟩,h4⟩:=h
   obtain⟨i1,i2⟩:=Uv r (c :: seen) h4
   have hc:c ∉ seen:=fun hm=>by rw[uf.2 hm] at h3; cases h3
   refine⟨fun b x hm=>?_,fun b x y hx hy=>?_⟩
   ·rcases List.mem_cons.1 hm with e | hm
    ·cases e; exact⟨h1,bE h2,hc⟩
    ·obtain⟨a1,a2,a3⟩:=i1 b x hm
     exact⟨a1,a2,fun h=>a3 (List.mem_cons_of_mem _ h)⟩
   ·rcases List.mem_cons.1 hx with e | hx <;> rcases List.mem_cons.1 hy with f | hy
    ·cases e; cases f; rfl
    ·cases e
     exact absurd (List.mem_cons_self ..) (i1 _ _ hy).2.2
    ·cases f
     exact absurd (List.mem_cons_self ..) (i1 _ _ hx).2.2
    ·exact i2 b x y hx hy
def Qg (ks:List Nat) (n:Nat) (A:AW) : List (Nat × dN)→Bool
 | []=>true
 | (b,x) :: r=>(Nat.ble n b || Qx ks b) && (match A.heap.get b with
   | some y=>Gm x y
   | none=>false) && Qg ks n A r
def JW (A:AW) (gone:List Nat) : List (Nat × dN)→Bool
 | []=>true
 | (b,x) :: r=>(Qx gone b || (match A.heap.get b with
   | some y=>Gm x y
   | none=>false)) && JW A gone r
def FI (e:aD) : Nat:=match e.ans with
 | .val _=>e.nx
 | .rows m _ _ _=>m
def Ns (P:Program) (X:Ext) (tab:iD) (L n:Nat) (f:Nat) (e:aD) : Bool :=
 match rA (keysOf e.fp) e.args && aeB (keysOf e.fp) (FI e) e.fp [] with
 | false=>false
 | true=>match LW P X tab L n f e.args { next:=FI e,heap:=zQ .leaf e.fp } with
   | none=>false
   | some (v',A')=>match e.ans with
     | .val v=>within [] v && qV v' v && JW A' [] e.fp
     | .rows _ v bs m'=>qV v' v && Nat.beq A'.next m' && Qg (keysOf e.fp) (FI e) A' bs && JW A' (keysOf bs++e.dead) e.fp
theorem Mv {ks:List Nat} {n:Nat} {A:AW} : ∀ (bs:List (Nat × dN)),Qg ks n A bs=true→∀ b x,(b,x)∈bs→(n≤b∨b∈ks)∧A.heap.get b=some x
 | [],_,b,x,hm=>by cases hm
 | (c,y) :: r,h,b,x,hm=>by
   simp only[Qg,Bool.and_eq_true] at h
   obtain⟨⟨h1,h2⟩,h3⟩:=h
   rcases List.mem_cons.1 hm with e | hm
   ·cases e
    split at h2
    ·rename_i z hz
     rw[Bool.or_eq_true] at h1
     refine⟨?_, ?_⟩
     ·rcases h1 with h1 | h1
      ·exact .inl (bE h1)
      ·exact .inr (uf.1 h1)
     ·rw[hz,Ce h2]
    ·cases h2
   ·exact Mv r h3 b x hm
theorem EA {gone:List Nat} {A:AW} : ∀ (l:List (Nat × dN)),JW A gone l=true→∀ b x,(b,x)∈l→b∈gone∨A.heap.get b=some x
 | [],_,b,x,hm=>by cases hm
 | (c,y) :: r,h,b,x,hm=>by
   simp only[JW,Bool.and_eq_true] at h
   obtain⟨h1,h3⟩:=h
   rcases List.mem_cons.1 hm with e | hm
   ·cases e
    rw[Bool.or_eq_true] at h1
    rcases h1 with h1 | h1
    ·exact .inl (uf.1 h1)
    ·split at h1
     ·rename_i z hz
      rw[hz,Ce h1]
      exact .inr rfl
     ·cases h1
   ·exact EA r h3 b x hm
theorem bP.none {P:Program} {base:Base} {n:Nat} {w:World} (hi:base.inv w) : bP P base (fun _=>none) { next:=n,heap:=.leaf } w :=
 ⟨fun _ _ h=>(by cases h),fun _ _ _ h=>(by cases h),fun _ _ _ _ _ _ h=>(by cases h),fun _ _ h=>(by simp[Tree.get] at h),fun _ _ _ h=>(by cases h),hi⟩
def only(ρ:Ren) (ks:List Nat) : Ren:=fun b=>if b∈ks then ρ b else none
theorem rG {ρ:Ren} {ks:List Nat} {b:Nat} {i:iU} (h:only ρ ks b=some i) : b∈ks∧ρ b=some i:=by
 unfold only at h
 split at h
 ·exact⟨‹_›,h⟩
 ·cases h
theorem F9 {ρ:Ren} {ks:List Nat} {b:Nat} (h:b∈ks) : only ρ ks b=ρ b:=by simp[only,h]
theorem Sj (hng:Jb P X) (hm:P.follows .mixedOrders=true) {I:World→Prop} {tab:iD} (ht:∀ base:Base,(∀ w,base.inv w→I w)→mF P base tab) {L n f:Nat} {e:aD} (h:Ns P X tab L n f e=true) : zI P I f e:=by
 unfold Ns at h
 split at h <;> first | (cases h; done) | skip
 rename_i hfl
 rw[Bool.and_eq_true] at hfl
 obtain⟨hwi,hfp⟩:=hfl
 obtain⟨hf1,hf2⟩:=Uv _ _ hfp
 split at h <;> first | (cases h; done) | skip
 rename_i v1 A1 hc
 intro base hI A v A' ha ρ w us hargs hw hb
 unfold acB at ha
 split at ha <;> first | (cases ha; done) | skip
 rename_i hhas
 have hrow:=JZ _ hhas
 -- the blocks alone
 let ks:=keysOf e.fp
 have hks:∀ {b},b∈ks↔∃ x,(b,x)∈e.fp:=Im
 have hto:∀ b∈ks,∀ i,ρ b=some i→only ρ ks b=some i:=fun b hb i h=>by rw[F9 hb]; exact h
 have apU:bn (only ρ ks) e.args us:=rC hto _ hwi hargs
 have QR:∀ b x,(zQ .leaf e.fp).get b=some x→(b,x)∈e.fp:=fun b x h=>by
  rcases BA _ _ h with h | ⟨h,_⟩
  ·exact h
  ·simp[Tree.get] at h
 have hw0:bP P base (only ρ ks) { next:=FI e,heap:=zQ .leaf e.fp } w:=by
  refine⟨fun b i h=>?_,fun b i x h hx=>?_,fun b b' i i' x x' h h' hx hx' he=>?_,fun b x hx=>?_,fun b i x h hx=>?_,hw.inv⟩
  ·obtain⟨hbk,hbi⟩:=rG h
   obtain⟨x,hx⟩:=hks.1 hbk
   exact⟨(hf1 b x hx).2.1,(hw.dom b i hbi).2⟩
  ·obtain⟨hbk,hbi⟩:=rG h
   have hm:=QR b x hx
   obtain⟨o,ho,hrel⟩:=hw.blk b i x hbi (hrow b x hm)
   exact⟨o,ho,hrel.restrict hto (hf1 b x hm).1⟩
  ·exact hw.sep _ _ _ _ _ _ (rG h).2 (rG h').2 (hrow _ _ (QR _ _ hx)) (hrow _ _ (QR _ _ hx')) he
  ·exact(hf1 b x (QR b x hx)).2.1
  ·exact hw.lo b i x (rG h).2 (hrow _ _ (QR _ _ hx))
 have acn:∀ b i,b ∉ ks→ρ b=some i→∀ x,A.heap.get b=some x→∀ b0 i0,only ρ ks b0=some i0→i0.cb≠i.cb:=by
  intro b i hbk hbi x hx b0 i0 h0 he
  obtain⟨h0k,h0i⟩:=rG h0
  obtain⟨x0,hx0⟩:=hks.1 h0k
  exact hbk (hw.sep _ _ _ _ _ _ h0i hbi (hrow _ _ hx0) hx he▸h0k)
 have main:=Ey hng hm (ht base hI) L n f _ _ _ _ hc (only ρ ks) w us apU hw0 hb
 split at ha
 ·
  rename_i v0 adw
  cases ha
  rw[adw] at h
  dsimp only at h
  simp only[Bool.and_eq_true] at h
  obtain⟨⟨h1,h2⟩,h3⟩:=h
  have hv1:=yS _ _ h2
  subst hv1
  have hkept:=EA _ h3
  refine main.mono fun r w' hR=>?_
  obtain⟨ρ',v',rfl,hst,hwr,hnx,hv⟩:=hR
  have hback:∀ b∈ks,∀ i,ρ' b=some i→ρ b=some i:=fun b hbk i h=>by
   obtain⟨x,hx⟩:=hks.1 hbk
   rw[hst.ext b (hf1 b x hx).2.1,F9 hbk] at h
   exact h
  refine⟨ρ,v',rfl,⟨hst.os,hst.tape,hst.output,hst.size,fun c hc hun=>hst.frame c hc fun b i hbi=>hun b i (rG hbi).2,fun _ _=>rfl,fun b i h=>.inl ⟨b,i,h,rfl⟩,hst.low⟩,⟨fun b i h=>?_,fun b i x hbi hx=>?_,hw.sep,hw.top,hw.lo,hwr.inv⟩,Nat.le_refl _,ug (ks:=[]) (fun b hb=>by cases hb) _ h1 hv⟩
  ·exact⟨(hw.dom b i h).1,Nat.lt_of_lt_of_le (hw.dom b i h).2 hst.size⟩
  ·by_cases hbk:b∈ks
   ·obtain⟨y,hy⟩:=hks.1 hbk
    have hxy:x=y:=by have:=hrow b y hy; rw[hx] at this; exact Option.some.inj this
    subst hxy
    rcases hkept b x hy with hg | hg
    ·cases hg
    ·have hρ' : ρ' b=some i:=by rw[hst.ext b (hf1 b x hy).2.1,F9 hbk]; exact hbi
     obtain⟨o,ho,hrel⟩:=hwr.blk b i x hρ' hg
     exact⟨o,ho,hrel.restrict hback (hf1 b x hy).1⟩
   ·obtain⟨o,ho,hrel⟩:=hw.blk b i x hbi hx
    exact⟨o,by rw[hst.frame _ (hw.dom b i hbi).2 (acn b i hbk hbi x hx)]; exact ho,hrel⟩
 ·
  rename_i m v0 bs m' adw
  have hnext:FI e=m:=by unfold FI; rw[adw]
  rw[adw] at h
  dsimp only at h
  simp only[Bool.and_eq_true] at h
  obtain⟨⟨⟨h1,h2⟩,h3⟩,h4⟩:=h
  have hv1:=yS _ _ h1
  have h2:=bI h2
  subst hv1
  subst h2
  split at ha <;> first | (cases ha; done) | skip
  rename_i hn
  have hn:=bI hn
  rw[hnext,hn] at main hw0 hf1 h3
  cases ha
  have hrows:=Mv bs h3
  have hkept:=EA _ h4
  refine main.mono fun r w' hR=>?_
  obtain⟨ρ',v',rfl,hst,hwr,hnx,hv⟩:=hR
  dsimp only at hst hnx
  let ρ2:Ren:=fun b=>if b<A.next then ρ b else ρ' b
  have hlo:∀ b,b<A.next→ρ2 b=ρ b:=fun b h=>by simp[ρ2,h]
  have hhi:∀ b,A.next≤b→ρ2 b=ρ' b:=fun b h=>by simp only[ρ2]; rw[if_neg (by omega)]
  have hold:∀ b i,b<A.next→ρ' b=some i→b∈ks∧ρ b=some i:=fun b i h hbi=>by
   rw[hst.ext b h] at hbi
   exact rG hbi
  have hle1:ρ.le ρ2:=fun b i h=>by rw[hlo b (hw.dom b i h).1]; exact h
  have hle2:ρ'.le ρ2:=fun b i h=>by
   rcases Nat.lt_or_ge b A.next with h' | h'
   ·rw[hlo b h']; exact(hold b i h' h).2
   ·rw[hhi b h']; exact h
  -- a row of the outcome: changed or new; or as it was
  have hget:∀ b i x,ρ2 b=some i→(zQ (Kv A.heap e.dead) bs).get b=some x→(ρ' b=some i∧A1.heap.get b=some x)∨(b ∉ ks∧b<A.next∧ρ b=some i∧A.heap.get b=some x):=by
   intro b i x hbi hx
   rcases BA bs _ hx with hx | ⟨hx,hnb⟩
   ·obtain⟨hwh,hx⟩:=hrows b x hx
    refine .inl ⟨?_,hx⟩
    rcases Nat.lt_or_ge b A.next with h' | h'
    ·rcases hwh with hwh | hwh
     ·omega
     ·rw[hst.ext b h',F9 hwh,← hlo b h']; exact hbi
    ·rw[← hhi b h']; exact hbi
   ·obtain⟨hx,hnd⟩:=G9 _ _ hx
    have hbn:=hw.top b x hx
    rw[hlo b hbn] at hbi
    by_cases hbk:b∈ks
    ·obtain⟨y,hy⟩:=hks.1 hbk
     have hxy:x=y:=by have:=hrow b y hy; rw[hx] at this; exact Option.some.inj this
     subst hxy
     rcases hkept b x hy with hg | hg
     ·rcases List.mem_append.1 hg with hg | hg
      ·obtain⟨z,hz⟩:=Im.1 hg
       exact absurd hz (hnb z)
      ·exact absurd hg hnd
     ·exact .inl ⟨by rw[hst.ext b hbn,F9 hbk]; exact hbi,hg⟩
    ·exact .inr ⟨hbk,hbn,hbi,hx⟩
  have Pk:∀ b i x b' i' x',b ∉ ks→ρ b=some i→A.heap.get b=some x→ρ' b'=some i'→A1.heap.get b'=some x'→i.cb≠i'.cb:=by
   intro b i x b' i' x' hbk hbi hx hb' hx' he
   rcases hst.fresh b' i' hb' with⟨b0,i0,h0,e0⟩ | hge
   ·exact acn b i hbk hbi x hx b0 i0 h0 (by rw[e0,he])
   ·have:=(hw.dom b i hbi).2; omega
  refine⟨ρ2,v',rfl,⟨hst.os,hst.tape,hst.output,hst.size,fun c hc hun=>hst.frame c hc fun b i hbi=>hun b i (rG hbi).2,fun b h=>hlo b h,fun b i h=>?_,hst.low⟩,⟨fun b i h=>?_,fun b i x h1 h2=>?_,fun b b' i i' x x' hb hb' hx hx' he=>?_,fun b x h=>?_,fun b i x h1 h2=>?_,hwr.inv⟩,hnx,hv.mono hle2⟩
  ·rcases Nat.lt_or_ge b A.next with h' | h'
   ·rw[hlo b h'] at h; exact .inl ⟨b,i,h,rfl⟩
   ·rw[hhi b h'] at h
    rcases hst.fresh b i h with⟨b0,i0,h0,e0⟩ | hge
    ·exact .inl ⟨b0,i0,(rG h0).2,e0⟩
    ·exact .inr hge
  ·rcases Nat.lt_or_ge b A.next with h' | h'
   ·rw[hlo b h'] at h
    exact⟨Nat.lt_of_lt_of_le (hw.dom b i h).1 hnx,Nat.lt_of_lt_of_le (hw.dom b i h).2 hst.size⟩
   ·rw[hhi b h'] at h
    exact hwr.dom b i h
  ·rcases hget b i x h1 h2 with⟨g1,g2⟩ | ⟨g1,g2,g3,g4⟩
   ·obtain⟨o,ho,hrel⟩:=hwr.blk b i x g1 g2
    exact⟨o,ho,hrel.mono hle2⟩
   ·obtain⟨o,ho,hrel⟩:=hw.blk b i x g3 g4
    exact⟨o,by rw[hst.frame _ (hw.dom b i g3).2 (acn b i g1 g3 x g4)]; exact ho,hrel.mono hle1⟩
  ·rcases hget b i x hb hx with⟨g1,g2⟩ | ⟨g1,g2,g3,g4⟩ <;> rcases hget b' i' x' hb' hx' with⟨k1,k2⟩ | ⟨k1,k2,k3,k4⟩
   ·exact hwr.sep _ _ _ _ _ _ g1 k1 g2 k2 he
   ·exact absurd he.symm (Pk b' i' x' b i x k1 k3 k4 g1 g2)
   ·exact absurd he (Pk b i x b' i' x' g1 g3 g4 k1 k2)
   ·exact hw.sep _ _ _ _ _ _ g3 k3 g4 k4 he
  ·rcases BA bs _ h with h | ⟨h,_⟩
   ·exact hwr.top b x (hrows b x h).2
   ·exact Nat.lt_of_lt_of_le (hw.top b x (G9 _ _ h).1) hnx
  ·rcases hget b i x h1 h2 with⟨g1,g2⟩ | ⟨g1,g2,g3,g4⟩
   ·exact hwr.lo b i x g1 g2
   ·exact hw.lo b i x g3 g4
def oC (P:Program) (X:Ext) (T:Table) (L n:Nat) (B:Table) : Bool:=B.all fun g=>g.2.all (Ns P X (Hg T) L n g.1)
theorem lT.nil {I:World→Prop} : lT P I []:=fun g hg=>by cases hg
theorem lT.add (hng:Jb P X) (hm:P.follows .mixedOrders=true) {I:World→Prop} {T B:Table} (hT:lT P I T) {L n:Nat} (h:oC P X T L n B=true) : lT P I (B++T):=by
 intro g hg e he
 rcases List.mem_append.1 hg with hg | hg
 ·exact Sj hng hm (fun base hI=>Fp hI T hT) (List.all_eq_true.1 (List.all_eq_true.1 h g hg) e he)
 ·exact hT g hg e he
open Go.WideShapes Go.ChangeShapes in
open Go.WideShapes Go.ChangeShapes in
theorem zI.val {P:Program} {I:World→Prop} {f:Nat} {args:List AV} {v:AV} (hv:within [] v=true)
  (h:∀ w,I w→∀ (ρ:Ren) us,bn ρ args us→Calls P f ⟨us⟩ w fun e w'=>(∃ u,e=.returned u∧∀ ρ:Ren,ay ρ v u)∧w'=w) : zI P I f { args,ans:=.val v } := by
 intro base hI A v0 A' ha ρ w us hargs hw hb
 simp only[acB,FT] at ha
 cases ha
 refine(h w (hI w hw.inv) ρ us hargs).mono fun e w' hR=>?_
 obtain⟨⟨u,rfl,hu⟩,rfl⟩:=hR
 exact⟨ρ,u,rfl,Step.refl _ _ _,hw,Nat.le_refl _,hu ρ⟩
end
structure Enc (α:Type) where
 size:Nat
 cells:α→List AV
 len:∀ a,(cells a).length=size
 one:∀ a,(cells a).all oneCell=true
section
variable {α:Type} (E:Enc α)
def Enc.row (xs:List α) : List AV:=xs.flatMap E.cells
theorem Enc.iT (x:α) (xs:List α) : E.row (x :: xs)=E.cells x++E.row xs:=rfl
theorem Enc.qW (xs ys:List α) : E.row (xs++ys)=E.row xs++E.row ys:=by simp[Enc.row]
theorem Enc.row_one (x:α) : E.row [x]=E.cells x:=by simp[Enc.row]
theorem Enc.eH:∀ (xs:List α),(E.row xs).length=xs.length * E.size
 | []=>by simp[Enc.row]
 | x :: xs=>by rw[Enc.iT,List.length_append,E.len,Enc.eH xs,List.length_cons,Nat.succ_mul,Nat.add_comm]
theorem Enc.wX:∀ (xs:List α),(E.row xs).all oneCell=true
 | []=>by simp[Enc.row]
 | x :: xs=>by rw[Enc.iT,List.all_append,E.one,Enc.wX xs]; rfl
theorem Enc.wC:∀ (xs:List α) (i:Nat),(E.row xs).drop (i * E.size)=E.row (xs.drop i)
 | [],i=>by simp[Enc.row]
 | x :: xs,0=>by simp
 | x :: xs,i + 1=>by
   rw[Enc.iT,Nat.succ_mul,Nat.add_comm,← List.drop_drop,List.drop_left' (E.len x),Enc.wC xs i]
   rfl
theorem Enc.vT:∀ (xs:List α) (i:Nat),(E.row xs).take (i * E.size)=E.row (xs.take i)
 | [],i=>by simp[Enc.row]
 | x :: xs,0=>by simp[Enc.row]
 | x :: xs,i + 1=>by
   rw[Enc.iT,Nat.succ_mul,Nat.add_comm,List.take_append,List.take_of_length_le (by rw[E.len]; omega),E.len,Nat.add_sub_cancel_left,Enc.vT xs i]
   rfl
theorem Enc.Uc {xs:List α} {i:Nat} (hi:i<xs.length) : ((E.row xs).drop (i * E.size)).take E.size=E.cells xs[i]:=by
 rw[Enc.wC,List.drop_eq_getElem_cons hi,Enc.iT]
 rw[List.take_append_of_le_length (by rw[E.len]; exact Nat.le_refl _),List.take_of_length_le (by rw[E.len]; exact Nat.le_refl _)]
abbrev Sl (M:RM) (v:AV) (xs:List α) : Prop:=aL M E.size v (E.row xs) xs.length
abbrev Ow (M:RM) (base el:Nat) (v:AV) (xs:List α) : Prop:=Own M base el E.size v (E.row xs) xs.length
variable {E} {M M' : RM} {v:AV} {xs:List α}
theorem Sl.elem (h:Sl E M v xs) {i:Nat} (hi:i<xs.length) : ∃ b o,b<M.next∧b∈aJ v∧(∀ (kd:IntKind) (K:AV→Prop),ah v (N kd (i:Int)) E.size K=K (.ptr b o))∧M.loads b o E.size=some (E.cells xs[i]):=by
 obtain⟨b,o,cap,rfl,hb,hl⟩:=h.pos (by omega)
 have hsum:i * E.size + E.size≤xs.length * E.size:=by rw[← Nat.succ_mul]; exact Nat.mul_le_mul_right _ hi
 refine⟨b,o + i * E.size,hb,by simp[aJ],fun kd K=>?_, ?_⟩
 ·rw[ma]
  simp only[Int.toNat_natCast]
  exact propext ⟨fun h=>h.2.2,fun h=>⟨by omega,by omega,h⟩⟩
 ·rw[Ae hl (i * E.size) E.size hsum,E.Uc hi]
theorem Sl.at (h:Sl E M v xs) {i:Nat} (sz:Nat) (j:Int) (hi:i<xs.length) (hsz:E.size=sz:=by rfl) (hj:j=(i:Int):=by rfl) : ∃ b o,b<M.next∧b∈aJ v∧(∀ (kd:IntKind) (K:AV→Prop),ah v (N kd j) sz K=K (.ptr b o))∧M.loads b o sz=some (E.cells xs[i]):=by
 subst hsz hj; exact h.elem hi
theorem q9 {b o k:Nat} {cs:List AV} (h:M.loads b o k=some cs) {j:Nat} {x:AV} (hj:cs[j]?=some x) : M.cell b (o + j)=some x:=by
 have hlt:j<k:=by rw[← Kn h]; exact(List.getElem?_eq_some_iff.1 hj).1
 rw[afs h j hlt,hj]
theorem uD {b o k:Nat} {cs:List AV} (h:M.loads b o k=some cs) {x:AV} (hj:cs[0]?=some x) : M.cell b o=some x:=q9 h hj
theorem yQ {base T bytes:Nat} {zs:List AV} {u:AV} {ys:List α} {K:aj} (ho:Ow E M base T v xs) (hb:base≤M.next) (hs:1≤E.size) (hu:Sl E M u ys)
  (hn:(xs.length + ys.length) * bytes≤140737488355328) (hn2:xs.length + ys.length≤140737488355328)
  (hK:∀ v' M',Ow E M' base T v' (xs++ys)→ag (aJ v) M M'→M.next≤M'.next→(v'=v∨∀ b∈aJ v',M.next≤b)→K v' M') :
  appW T E.size bytes zs false v u M K:=by
 refine BK ho hb hs (aL.qy hu _) (E.eH ys) (E.wX ys) hn hn2 ?_
 intro v' M' h1 h2 h3 h4
 refine hK v' M' ?_ h2 h3 h4
 rw[← E.qW] at h1
 simpa [Ow] using h1
theorem xn {b o k:Nat} {cs:List AV} (h:M.loads b o k=some cs) (m:Nat) (hm:m≤k) : M.loads b o m=some (cs.take m):=Ae h 0 m (by omega)
theorem Sl.new {T c:Nat} {p:Bool} (ys:List α) : Sl E (M.push (.row (E.row ys) p T 0)) (.slc M.next 0 ys.length (.ex c)) ys :=
 .slc _ _ _ _ _ (by simp[RM.push]) (by rw[RM.dH (RM.aT _) (by rw[E.eH]; omega),List.drop_zero,← E.eH,List.take_length])
theorem rE {base T bytes:Nat} {zs:List AV} {a:α} {K:aj} (ho:Ow E M base T v xs) (hb:base≤M.next) (hs:1≤E.size)
  (hn:(xs.length + 1) * bytes≤140737488355328) (hn2:xs.length + 1≤140737488355328)
  (hK:∀ v' M',Ow E M' base T v' (xs++[a])→ag (aJ v) M M'→M.next≤M'.next→(v'=v∨∀ b∈aJ v',M.next≤b)→K v' M') :
  appW T E.size bytes zs false v (.slc M.next 0 1 (.ex 1)) (M.push (.row (E.cells a) false T 0)) K:=by
 have hk:ag [] M (M.push (.row (E.cells a) false T 0)):=(ag.refl _ _).push _
 refine yQ (ys:=[a]) (Own.keep ho hk (by simp)) (Nat.le_trans hb hk.next) hs (by rw[← E.row_one]; exact Sl.new [a]) hn hn2 ?_
 intro v' M' h1 h2 h3 h4
 exact hK v' M' h1 ((hk.mono (by simp)).trans h2) (Nat.le_trans hk.next h3) (h4.imp id fun h b hb=>Nat.le_trans hk.next (h b hb))
@[go_sem] theorem auz {T:Nat} {zs:List AV} {K:RB→(Nat→AV)→Prop} : eB T 0 zs [] K=K (.row [] false T 0) (fun b=>.slc b 0 0 (.ex 0)):=by
 apply propext; unfold eB
 constructor
 ·rintro⟨l,h,hk⟩; cases h; exact hk
 ·intro hk; exact⟨_,rfl,hk⟩
theorem mO {T size:Nat} {zs:List AV} {x:AV} {K:RB→(Nat→AV)→Prop} (h:x.cells.length=size) (h1:x.cells.all oneCell=true) (hz:zs.length=size) :
  eB T 1 zs [(0,size,x)] K=K (.row x.cells false T 0) (fun b=>.slc b 0 1 (.ex 1)):=by
 have:DI (bO zs 1) [(0,size,x)]=some x.cells:=by
  simp only[DI,bO,List.append_nil,h1,h,Nat.zero_add,hz,Nat.le_refl,and_self,if_true,List.take_zero,List.nil_append]
  rw[List.drop_of_length_le (by omega),List.append_nil]
 apply propext; unfold eB
 constructor
 ·rintro⟨l,h,hk⟩; rw[this] at h; cases h; exact hk
 ·intro hk; exact⟨_,this,hk⟩
theorem Ow.lit (E:Enc α) {T:Nat} (M:RM) : Ow E (M.push (.row [] false T 0)) M.next T (.slc M.next 0 0 (.ex 0)) []:=Own.lit M (Nat.le_refl _)
theorem gL {i:Nat} (h:i<9223372036854775807) : IntKind.wrap .i64 ((i:Int) + 1)=((i + 1:Nat) : Int):=by
 rw[aZ (by omega) (by omega)]; rfl
end
@[go_sem] theorem GD:dV [] [] []=some true:=rfl
@[go_sem] theorem QB (ks:List Nat) (k:IntKind) (a b:Int) (xs ys:List AV) : dV (1 :: ks) (N k a :: xs) (N k b :: ys)=if a=b then dV ks xs ys else some false:=by
 simp only[dV,xC,if_true]
 by_cases h:a=b
 ·simp[h]
 ·have:(a == b)=false:=by simp[h]
  simp[this,h]
@[go_sem] theorem Qq (ks:List Nat) (a b:List UInt8) (xs ys:List AV) : dV (2 :: ks) (St a :: xs) (St b :: ys)=if a=b then dV ks xs ys else some false:=by
 simp only[dV,xC]
 by_cases h:a=b
 ·simp[h]
 ·have:(a == b)=false:=by simp[h]
  simp[this,h]
@[go_sem] theorem ash (ks:List Nat) (a b:Bool) (xs ys:List AV) : dV (3 :: ks) (Bo a :: xs) (Bo b :: ys)=if a=b then dV ks xs ys else some false:=by
 simp only[dV,xC]
 by_cases h:a=b
 ·simp[h]
 ·have:(a == b)=false:=by simp[h]
  simp[this,h]
theorem qK {neg:Bool} {ks:List Nat} {cs ds:List AV} {r:Bool} {K:AV→Prop} (h1:cs.length=ks.length) (h2:ds.length=ks.length) (h:dV ks cs ds=some r) : mD neg ks (.agg cs) (.agg ds) K=K (Bo (r != neg)):=by
 rw[acY]
 apply propext
 constructor
 ·rintro⟨_,_,r',h',hk⟩; rw[h] at h'; cases h'; exact hk
 ·intro hk; exact⟨h1,h2,r,h,hk⟩
theorem gK (x:AV) (w:Bool) (f g:aj→Prop) (F G:AV→RM→aj→Prop) (k:aj) :
  ai x w f g (fun v M=>ai x w (F v M) (G v M) k)=ai x w (fun k'=>f fun v M=>F v M k') (fun k'=>g fun v M=>G v M k') k:=by
 unfold ai pG
 split
 ·split <;> simp_all
 ·rfl
 ·rfl
theorem eu (x:AV) (w:Bool) (f g:KR→Prop) (F G:AV→RM→Option Nat→KR→Prop) (k:KR) :
  ae x w f g (fun v M b=>ae x w (F v M b) (G v M b) k)=ae x w (fun k'=>f fun v M b=>F v M b k') (fun k'=>g fun v M b=>G v M b k') k:=by
 unfold ae pG
 split
 ·split <;> simp_all
 ·rfl
 ·rfl
theorem dE (x:AV) (w:Bool) (f g:KR→Prop) (F G:AV→RM→Option Nat→aj→Prop) (k:aj) :
  ae x w f g (fun v M b=>ai x w (F v M b) (G v M b) k)=ai x w (fun k'=>f fun v M b=>F v M b k') (fun k'=>g fun v M b=>G v M b k') k:=by
 unfold ae ai pG
 split
 ·split <;> simp_all
 ·rfl
 ·rfl
theorem dQ (x:AV) (w:Bool) (f g:aj→Prop) (F G:AV→RM→KR→Prop) (k:KR) :
  ai x w f g (fun v M=>ae x w (F v M) (G v M) k)=ae x w (fun k'=>f fun v M=>F v M k') (fun k'=>g fun v M=>G v M k') k:=by
 unfold ae ai pG
 split
 ·split <;> simp_all
 ·rfl
 ·rfl
theorem aG {body:(List AV→RM→Prop)→List AV→RM→Prop} {xs:List AV} {M:RM} (I:Nat→List AV→RM→Prop) (n:Nat) (h0:I n xs M)
  (hb:∀ (next:List AV→RM→Prop) m ys M',(∀ m' zs M'',m'<m→I m' zs M''→next zs M'')→I m ys M'→body next ys M') : aM body xs M :=
 ⟨I,n,h0,fun m ys M' hI=>hb _ m ys M' (fun m' zs M'' hlt h=>⟨m',hlt,h⟩) hI⟩
theorem adb {P:Program} {I:World→Prop} {T:Table} (hT:lT P I T) {f:FuncId} {args:List AV} {v:AV} {M:RM} {Q:aj} (hP:FX P f) (hl:∀ A,Hg T f args A=some (v,A))
  (hI:∀ w,M.base.inv w→I w) (hQ:Q v M) : iJ P f args M Q:=by
 refine⟨hP,fun ρ w us hargs hw=>?_⟩
 obtain⟨A,hA⟩:=hw
 refine(Fp (base:=M.base) hI T hT f args A v A (hl A) ρ w us hargs hA.rel hA.size).mono fun e w' hR=>?_
 obtain⟨ρ',v',rfl,hst,hw',_,hv⟩:=hR
 refine⟨v',v,M,ρ',rfl,pU hA hst hw' rfl hA.next (Nat.le_refl _) (fun b x hx=>?_),hv,hQ⟩
 rcases hA.blk b x hx with h | ⟨c,rfl,_⟩
 ·exact .inl h
 ·exact .inr ⟨c,rfl,hx⟩
abbrev By (b:UInt8) : AV:=N .u8 (b.toNat:Int)
def BY:Enc UInt8:=⟨1,fun b=>[By b],fun _=>rfl,fun _=>rfl⟩
theorem VX (s:List UInt8) : BY.row s=s.map By:=by
 induction s with
 | nil=>rfl
 | cons b s ih=>rw[Enc.iT,ih]; rfl
def AX:Enc (List UInt8):=⟨1,fun s=>[St s],fun _=>rfl,fun _=>rfl⟩
def INT:Enc Int:=⟨1,fun n=>[N .i64 n],fun _=>rfl,fun _=>rfl⟩
def bf:Enc Nat:=⟨1,fun n=>[N .u64 (n:Int)],fun _=>rfl,fun _=>rfl⟩
theorem Uj (s:List Nat) : bf.row s=s.map (fun(s:Nat)=>N .u64 (s:Int)):=by
 induction s with
 | nil=>rfl
 | cons b s ih=>rw[Enc.iT,ih]; rfl
theorem Qh:∀ (s:List UInt8),eD byteOf (s.map By)=some s
 | []=>rfl
 | b :: s=>by
   simp only[List.map_cons,eD,byteOf,Qh s]
   simp
section
variable {α:Type} {E:Enc α} {M M' : RM} {v:AV} {xs:List α}
theorem Sl.str {s:List UInt8} (h:Sl BY M v s) {K:AV→Prop} : FE M v K=K (St s) :=
 aaE (aL.Ht h (by rw[VX]; exact Qh s))
theorem Sl.Kq (h:Sl E M v xs) {i:Nat} (j:Int) (hi:i<xs.length) (hsz:E.size=1:=by rfl) (hj:j=(i:Int):=by rfl) :
  ∃ b o,b<M.next∧b∈aJ v∧(∀ (kd:IntKind) (K:AV→Prop),ah v (N kd j) 1 K=K (.ptr b o))∧∀ x,E.cells xs[i]=[x]→M.cell b o=some x:=by
 obtain⟨b,o,h1,h2,h3,h4⟩:=Sl.at h 1 j hi hsz hj
 exact⟨b,o,h1,h2,h3,fun x hx=>uD h4 (by rw[hx]; rfl)⟩
structure Rw (E:Enc α) (M:RM) (b:Nat) (opn:Bool) (el:Nat) (xs:List α) : Prop where
 heap:M.heap b=some (.row (E.row xs) opn el 0)
 lt:b<M.next
theorem Rw.sl {b el:Nat} {p:Bool} {cap:Cap} (h:Rw E M b p el xs) : Sl E M (.slc b 0 xs.length cap) xs:=by
 refine .slc _ _ _ _ _ h.lt ?_
 rw[RM.dH h.heap (by rw[E.eH]; omega),List.drop_zero,← E.eH,List.take_length]
theorem Rw.keep {b el:Nat} {p:Bool} {bs:List Nat} (h:Rw E M b p el xs) (hk:ag bs M M') (hb:b ∉ bs) : Rw E M' b p el xs :=
 ⟨hk.aQ h.heap h.lt hb,Nat.lt_of_lt_of_le h.lt hk.next⟩
theorem Rw.new {el:Nat} {p:Bool} (M:RM) (xs:List α) : Rw E (M.push (.row (E.row xs) p el 0)) M.next p el xs :=
 ⟨RM.aT _,by simp[RM.push]⟩
theorem Rw.load {b el:Nat} {p:Bool} (h:Rw E M b p el xs) {i:Nat} (hi:i<xs.length) : M.loads b (i * E.size) E.size=some (E.cells xs[i]):=by
 have hsum:i * E.size + E.size≤xs.length * E.size:=by rw[← Nat.succ_mul]; exact Nat.mul_le_mul_right _ hi
 rw[RM.dH h.heap (by rw[E.eH]; exact hsum),E.Uc hi]
theorem Enc.Sw (E:Enc α) {xs:List α} {i:Nat} (hi:i<xs.length) (x:α) : E.row (xs.set i x)=(E.row xs).take (i * E.size)++E.cells x++(E.row xs).drop (i * E.size + E.size):=by
 rw[E.vT,← Nat.succ_mul,E.wC,List.set_eq_take_append_cons_drop,if_pos hi,E.qW,E.iT,List.append_assoc]
theorem Rw.store {b el:Nat} {p:Bool} (h:Rw E M b p el xs) {i:Nat} (hi:i<xs.length) (x:α) :
  M.stores b (i * E.size) (E.cells x)=some (M.put b (.row (E.row (xs.set i x)) p el 0))∧Rw E (M.put b (.row (E.row (xs.set i x)) p el 0)) b p el (xs.set i x):=by
 have hsum:i * E.size + E.size≤xs.length * E.size:=by rw[← Nat.succ_mul]; exact Nat.mul_le_mul_right _ hi
 refine⟨?_,RM.wm _ _,h.lt⟩
 rw[RM.Br h.heap (by rw[E.len,E.eH]; exact hsum) (Nat.zero_le _) (E.one x),E.Sw hi,E.len]
theorem Rw.au {b el:Nat} {p:Bool} (h:Rw E M b p el xs) {i:Nat} (hi:i<xs.length) (hsz:E.size=1:=by rfl) {x:AV} (hx:E.cells xs[i]=[x]:=by rfl) : M.cell b i=some x:=by
 have:=h.load hi
 rw[hsz,Nat.mul_one] at this
 exact uD this (by rw[hx]; rfl)
theorem Rw.afh {b el:Nat} {p:Bool} (h:Rw E M b p el xs) {i:Nat} (hi:i<xs.length) (x:α) (hsz:E.size=1:=by rfl) {u:AV} (hx:E.cells x=[u]:=by rfl) :
  M.stores b i [u]=some (M.put b (.row (E.row (xs.set i x)) p el 0))∧Rw E (M.put b (.row (E.row (xs.set i x)) p el 0)) b p el (xs.set i x):=by
 have:=h.store hi x
 rw[hsz,Nat.mul_one,hx] at this
 exact this
end
@[go_sem] theorem UE (el:Nat) (s:List UInt8) (K:RB→(Nat→AV)→Prop) : JV el (St s) K=K (.row (BY.row s) true el 0) (fun b=>.slc b 0 s.length (.op 1)):=by
 rw[VX]
 apply propext; unfold JV
 constructor
 ·rintro⟨s',h,hk⟩; cases h; exact hk
 ·intro hk; exact⟨s,rfl,hk⟩
def awl (b:UInt8) : UInt8:=if 65≤b.toNat∧b.toNat≤90 then b + 32 else b
def low (s:List UInt8) : List UInt8:=s.map awl
theorem ajr (b:UInt8) : b.toNat<256:=b.toNat_lt
structure rf (n:Nat) (bs:List Nat) (M M' : RM) : Prop where
 base:M'.base=M.base
 next:M.next≤M'.next
 heap:∀ c,c<n→c ∉ bs→M'.heap c=M.heap c
theorem rf.refl (n:Nat) (bs:List Nat) (M:RM) : rf n bs M M:=⟨rfl,Nat.le_refl _,fun _ _ _=>rfl⟩
theorem rf.trans {n:Nat} {bs:List Nat} {M M1 M2:RM} (h:rf n bs M M1) (k:rf n bs M1 M2) : rf n bs M M2 :=
 ⟨k.base.trans h.base,Nat.le_trans h.next k.next,fun c h1 h2=>(k.heap c h1 h2).trans (h.heap c h1 h2)⟩
theorem ag.to {bs cs:List Nat} {n:Nat} {M M' : RM} (h:ag bs M M') (hn:n≤M.next) (hb:∀ b∈bs,n≤b∨b∈cs) : rf n cs M M' :=
 ⟨h.base,h.next,fun c h1 h2=>h.heap c (Nat.lt_of_lt_of_le h1 hn) (fun hm=>by rcases hb c hm with h3 | h3; omega; exact h2 h3)⟩
theorem ag.alV {bs cs:List Nat} {n:Nat} {M0 M M' : RM} (h:ag bs M0 M) (k:rf n cs M M') (hn:M0.next≤n) (hc:∀ c∈cs,M0.next≤c∨c∈bs) : ag bs M0 M' :=
 ⟨k.base.trans h.base,Nat.le_trans h.next k.next,fun c h1 h2=>by
  rw[k.heap c (Nat.lt_of_lt_of_le h1 hn) (fun hm=>by rcases hc c hm with h3 | h3; omega; exact h2 h3),h.heap c h1 h2]⟩
theorem rf.aQ {n:Nat} {bs:List Nat} {M M' : RM} (h:rf n bs M M') {b:Nat} {x:RB} (hh:M.heap b=some x) (hlt:b<n) (hb:b ∉ bs) : M'.heap b=some x:=by rw[h.heap b hlt hb,hh]
theorem Own.same {M M' : RM} {n el size n0:Nat} {v:AV} {cs:List AV} (h:Own M n0 el size v cs n) (hn:M'.next=M.next) (hb:∀ c∈aJ v,M'.heap c=M.heap c) (hbase:M'.base=M.base) : Own M' n0 el size v cs n:=by
 cases h with
 | nil=>exact .nil
 | ex0 b o h1 h2 h3=>exact .ex0 b o h1 (by omega) (by simpa [RM.OM,hb b (by simp[aJ]),RM.lo,hbase] using h3)
 | op b n cs h1 h2 h3 h4=>exact .op b n cs h1 (by omega) (by rw[hb b (by simp[aJ]),h3]) h4
theorem Own.one {M:RM} {n el size n0:Nat} {v:AV} {cs:List AV} (h:Own M n0 el size v cs n) : oneCell v=true:=by
 cases h <;> rfl
def aeR (B:Base) (c:ak) : Prop:=∀ {M:RM} {Q:aj},M.base=B→Q (Bo true) M→c [] M Q
theorem Own.cells {M:RM} {n el size n0:Nat} {v:AV} {cs:List AV} (h:Own M n0 el size v cs n) : v.cells=[v]:=by
 cases h <;> rfl
section
variable {P:Program} {ρ:Ren} {M:RM} {w w' : World}
theorem bP.below {base:Base} {A:AW} (h:bP P base ρ A w) (hb:Below w.heap.size w w') (hn:base.n≤w.heap.size) : bP P base ρ A w' where
 dom b i hbi:=⟨(h.dom b i hbi).1,Nat.lt_of_lt_of_le (h.dom b i hbi).2 hb.size⟩
 blk b i x hbi hx:=let ⟨o,ho,hr⟩:=h.blk b i x hbi hx; ⟨o,by rw[hb.block _ (h.dom b i hbi).2]; exact ho,hr⟩
 sep:=h.sep
 top:=h.top
 lo:=h.lo
 inv:=base.low w w' (fun c hc=>hb.block c (Nat.lt_of_lt_of_le hc hn)) h.inv
theorem Step.of_below {base n:Nat} (hb:Below w.heap.size w w') (hn:base≤w.heap.size) : Step base n ρ w ρ w' where
 os:=hb.os
 tape:=hb.tape
 output:=hb.output
 size:=hb.size
 frame c hc _:=hb.block c hc
 ext _ _:=rfl
 fresh b i h:=.inl ⟨b,i,h,rfl⟩
 low c hc:=hb.block c (Nat.lt_of_lt_of_le hc hn)
theorem After.below (h:ek P ρ M w) (hb:Below w.heap.size w w') : After P M ρ w M ρ w':=by
 obtain⟨A,hA⟩:=h
 refine pU hA (Step.of_below hb hA.size) (hA.rel.below hb hA.size) rfl hA.next (Nat.le_refl _) fun b x hx=>?_
 rcases hA.blk b x hx with h | ⟨c,rfl,_⟩
 ·exact .inl h
 ·exact .inr ⟨c,rfl,hx⟩
theorem ek.inv (h:ek P ρ M w) : M.base.inv w:=by
 obtain⟨A,hA⟩:=h
 exact hA.rel.inv
theorem iJ.aiV {f:FuncId} {args:List AV} {v:AV} {Q:aj} (hP:FX P f)
  (h:∀ (ρ:Ren) (w:World) (us:List Value),bn ρ args us→ek P ρ M w→Calls P f ⟨us⟩ w fun e w'=>∃ v',e=.returned v'∧Below w.heap.size w w'∧ay ρ v v') (hQ:Q v M) : iJ P f args M Q:=by
 refine⟨hP,fun ρ w us hargs hw=>(h ρ w us hargs hw).mono fun e w' hR=>?_⟩
 obtain⟨v',rfl,hb,hv⟩:=hR
 exact⟨v',v,M,ρ,rfl,After.below hw hb,hv,hQ⟩
end
structure uF (α:Type) where
 size:Nat
 rel:RM→List AV→α→(Nat→Prop)→Prop
 len:∀ {M cs a S},rel M cs a S→cs.length=size
 one:∀ {M cs a S},rel M cs a S→cs.all oneCell=true
 mono:∀ {M cs a S S'},rel M cs a S→(∀ b,S b→S' b)→rel M cs a S'
 lt:∀ {M cs a S},rel M cs a S→rel M cs a (fun b=>S b∧b<M.next)
 keep:∀ {M M' cs a S bs},rel M cs a S→ag bs M M'→(∀ b∈bs,¬ S b)→rel M' cs a S
def Enc.Ec {α:Type} (E:Enc α) : uF α where
 size:=E.size
 rel _ cs a _:=cs=E.cells a
 len h:=by subst h; exact E.len _
 one h:=by subst h; exact E.one _
 mono h _:=h
 lt h:=h
 keep h _ _:=h
inductive fC {α:Type} (R:uF α) (M:RM) (S:Nat→Prop) : List AV→List α→Prop
 | nil:fC R M S [] []
 | cons {cs ds:List AV} {a:α} {xs:List α} : R.rel M cs a S→fC R M S ds xs→fC R M S (cs++ds) (a :: xs)
section
variable {α:Type} {R:uF α} {M M' : RM} {S S' : Nat→Prop} {cs ds:List AV} {xs ys:List α} {a:α}
theorem fC.len (h:fC R M S cs xs) : cs.length=xs.length * R.size:=by
 induction h with
 | nil=>simp
 | cons h1 _ ih=>rw[List.length_append,R.len h1,ih,List.length_cons,Nat.succ_mul,Nat.add_comm]
theorem fC.one (h:fC R M S cs xs) : cs.all oneCell=true:=by
 induction h with
 | nil=>rfl
 | cons h1 _ ih=>rw[List.all_append,R.one h1,ih]; rfl
theorem fC.mono (h:fC R M S cs xs) (hs:∀ b,S b→S' b) : fC R M S' cs xs:=by
 induction h with
 | nil=>exact .nil
 | cons h1 _ ih=>exact .cons (R.mono h1 hs) ih
theorem fC.lt (h:fC R M S cs xs) : fC R M (fun b=>S b∧b<M.next) cs xs:=by
 induction h with
 | nil=>exact .nil
 | cons h1 _ ih=>exact .cons (R.lt h1) ih
theorem fC.keep {bs:List Nat} (h:fC R M S cs xs) (hk:ag bs M M') (hb:∀ b∈bs,¬ S b) : fC R M' S cs xs:=by
 induction h with
 | nil=>exact .nil
 | cons h1 _ ih=>exact .cons (R.keep h1 hk hb) ih
theorem fC.append (h:fC R M S cs xs) (k:fC R M S ds ys) : fC R M S (cs++ds) (xs++ys):=by
 induction h with
 | nil=>exact k
 | cons h1 _ ih=>rw[List.append_assoc]; exact .cons h1 ih
theorem fC.single (h:R.rel M cs a S) : fC R M S cs [a]:=by
 have:=fC.cons h .nil
 simpa using this
theorem fC.get (h:fC R M S cs xs) : ∀ {i:Nat} (hi:i<xs.length),R.rel M ((cs.drop (i * R.size)).take R.size) xs[i] S:=by
 induction h with
 | nil=>intro i hi; simp at hi
 | cons h1 h2 ih =>
   rename_i c1 d1 a1 x1
   intro i hi
   cases i with
   | zero =>
     rw[Nat.zero_mul,List.drop_zero,List.take_append_of_le_length (by rw[R.len h1]; exact Nat.le_refl _),List.take_of_length_le (by rw[R.len h1]; exact Nat.le_refl _)]
     exact h1
   | succ i =>
     rw[Nat.succ_mul,Nat.add_comm,← List.drop_drop,List.drop_left' (R.len h1)]
     exact ih (by simpa using hi)
theorem fC.take (h:fC R M S cs xs) : ∀ (k:Nat),fC R M S (cs.take (k * R.size)) (xs.take k):=by
 induction h with
 | nil=>intro k; simp; exact .nil
 | cons h1 h2 ih =>
   intro k
   cases k with
   | zero=>simp; exact .nil
   | succ k =>
     rw[Nat.succ_mul,Nat.add_comm,List.take_append,List.take_of_length_le (by rw[R.len h1]; omega),R.len h1,Nat.add_sub_cancel_left]
     exact .cons h1 (ih k)
theorem fC.drop (h:fC R M S cs xs) : ∀ (k:Nat),fC R M S (cs.drop (k * R.size)) (xs.drop k):=by
 induction h with
 | nil=>intro k; simp; exact .nil
 | cons h1 h2 ih =>
   intro k
   cases k with
   | zero=>simp; exact .cons h1 h2
   | succ k =>
     rw[Nat.succ_mul,Nat.add_comm,← List.drop_drop,List.drop_left' (R.len h1)]
     exact ih k
theorem fC.cells {E:Enc α} : ∀ {cs:List AV} {xs:List α},fC E.Ec M S cs xs→cs=E.row xs
 | _,_,.nil=>rfl
 | _,_,.cons h1 h2=>by rw[Enc.iT,fC.cells h2]; rw[show _=_ from h1]
theorem fC.of_cells {E:Enc α} : ∀ (xs:List α),fC E.Ec M S (E.row xs) xs
 | []=>.nil
 | x :: xs=>by rw[Enc.iT]; exact .cons rfl (fC.of_cells xs)
def iK (R:uF α) (M:RM) (v:AV) (xs:List α) (S:Nat→Prop) : Prop :=
 ∃ cs,aL M R.size v cs xs.length∧(∀ b∈aJ v,S b)∧fC R M S cs xs
theorem aL.lt {size n:Nat} {v:AV} (h:aL M size v cs n) : ∀ b∈aJ v,b<M.next:=by
 cases h with
 | nil=>intro b hb; simp[aJ] at hb
 | emp=>intro b hb; simp[aJ] at hb
 | slc b o n cap cs hb _=>intro c hc; simp[aJ] at hc; omega
theorem aL.one {size n:Nat} {v:AV} (h:aL M size v cs n) : oneCell v=true:=by
 cases h <;> rfl
theorem aL.cells {size n:Nat} {v:AV} (h:aL M size v cs n) : v.cells=[v]:=by
 cases h <;> rfl
variable {v:AV}
theorem iK.mono (h:iK R M v xs S) (hs:∀ b,S b→S' b) : iK R M v xs S':=let ⟨cs,h1,h2,h3⟩:=h; ⟨cs,h1,fun b hb=>hs b (h2 b hb),h3.mono hs⟩
theorem iK.lt (h:iK R M v xs S) : iK R M v xs (fun b=>S b∧b<M.next):=let ⟨cs,h1,h2,h3⟩:=h; ⟨cs,h1,fun b hb=>⟨h2 b hb,h1.lt b hb⟩,h3.lt⟩
theorem iK.keep {bs:List Nat} (h:iK R M v xs S) (hk:ag bs M M') (hb:∀ b∈bs,¬ S b) : iK R M' v xs S :=
 let ⟨cs,h1,h2,h3⟩:=h; ⟨cs,h1.keep hk (fun b hv hbs=>hb b hbs (h2 b hv)),h2,h3.keep hk hb⟩
theorem iK.len (h:iK R M v xs S) {K:AV→Prop} : bu v K=K (N .i64 xs.length):=let ⟨cs,h1,_,_⟩:=h; h1.len
theorem iK.one (h:iK R M v xs S) : oneCell v=true:=let ⟨cs,h1,_,_⟩:=h; h1.one
theorem iK.cells (h:iK R M v xs S) : v.cells=[v]:=let ⟨cs,h1,_,_⟩:=h; h1.cells
theorem iK.nil:iK R M di [] S:=⟨[],.nil,by simp[aJ],.nil⟩
theorem iK.sl {E:Enc α} (h:iK E.Ec M v xs S) : Sl E M v xs:=by
 obtain⟨cs,h1,h2,h3⟩:=h
 rw[h3.cells] at h1
 exact h1
theorem iK.acz {E:Enc α} (h:Sl E M v xs) (hs:∀ b∈aJ v,S b) : iK E.Ec M v xs S:=⟨_,h,hs,fC.of_cells xs⟩
theorem iK.at (h:iK R M v xs S) {i:Nat} (sz:Nat) (j:Int) (hi:i<xs.length) (hsz:R.size=sz:=by rfl) (hj:j=(i:Int):=by rfl) :
  ∃ b o cs,b<M.next∧b∈aJ v∧(∀ (kd:IntKind) (K:AV→Prop),ah v (N kd j) sz K=K (.ptr b o))∧M.loads b o sz=some cs∧R.rel M cs xs[i] S:=by
 subst hsz hj
 obtain⟨cs,h1,h2,h3⟩:=h
 obtain⟨b,o,cap,rfl,hb,hl⟩:=h1.pos (by omega)
 have hsum:i * R.size + R.size≤xs.length * R.size:=by rw[← Nat.succ_mul]; exact Nat.mul_le_mul_right _ hi
 refine⟨b,o + i * R.size,(cs.drop (i * R.size)).take R.size,hb,by simp[aJ],fun kd K=>?_, ?_,h3.get hi⟩
 ·rw[ma]
  simp only[Int.toNat_natCast]
  exact propext ⟨fun h=>h.2.2,fun h=>⟨by omega,by omega,h⟩⟩
 ·rw[Ae hl (i * R.size) R.size hsum]
def uF.slice (R:uF α) : uF (List α) where
 size:=1
 rel M cs xs S:=∃ v,cs=[v]∧iK R M v xs S
 len h:=by obtain⟨v,rfl,_⟩:=h; rfl
 one h:=by obtain⟨v,rfl,h⟩:=h; simp[h.one]
 mono h hs:=by obtain⟨v,rfl,h⟩:=h; exact⟨v,rfl,h.mono hs⟩
 lt h:=by obtain⟨v,rfl,h⟩:=h; exact⟨v,rfl,h.lt⟩
 keep h hk hb:=by obtain⟨v,rfl,h⟩:=h; exact⟨v,rfl,h.keep hk hb⟩
def qb (R:uF α) (M:RM) (base el:Nat) (v:AV) (xs:List α) (S:Nat→Prop) : Prop :=
 ∃ cs,Own M base el R.size v cs xs.length∧fC R M S cs xs
theorem qb.nil {base el:Nat} : qb R M base el di [] S:=⟨[],.nil,.nil⟩
theorem qb.mono {base el:Nat} (h:qb R M base el v xs S) (hs:∀ b,S b→S' b) : qb R M base el v xs S':=let ⟨cs,h1,h2⟩:=h; ⟨cs,h1,h2.mono hs⟩
theorem qb.lt {base el:Nat} (h:qb R M base el v xs S) : qb R M base el v xs (fun b=>S b∧b<M.next):=let ⟨cs,h1,h2⟩:=h; ⟨cs,h1,h2.lt⟩
theorem qb.keep {base el:Nat} {bs:List Nat} (h:qb R M base el v xs S) (hk:ag bs M M') (hb:∀ b∈bs,¬ S b) (hv:∀ b∈aJ v,b ∉ bs) : qb R M' base el v xs S :=
 let ⟨cs,h1,h2⟩:=h; ⟨cs,h1.keep hk hv,h2.keep hk hb⟩
theorem qb.len {base el:Nat} (h:qb R M base el v xs S) {K:AV→Prop} : bu v K=K (N .i64 xs.length):=let ⟨cs,h1,_⟩:=h; h1.eZ.len
theorem qb.blk {base el:Nat} (h:qb R M base el v xs S) : ∀ b∈aJ v,base≤b∧b<M.next:=let ⟨cs,h1,_⟩:=h; h1.blk
theorem qb.slD {base el:Nat} (h:qb R M base el v xs S) (hs:∀ b,base≤b→b<M.next→S b) : iK R M v xs S :=
 let ⟨cs,h1,h2⟩:=h; ⟨cs,h1.eZ,fun b hb=>hs b (h1.blk b hb).1 (h1.blk b hb).2,h2⟩
theorem qb.cells {base el:Nat} (h:qb R M base el v xs S) : v.cells=[v]:=let ⟨cs,h1,_⟩:=h; h1.cells
theorem qb.one {base el:Nat} (h:qb R M base el v xs S) : oneCell v=true:=let ⟨cs,h1,_⟩:=h; h1.one
theorem qb.app {base T bytes:Nat} {zs:List AV} {K:aj} (ho:qb R M base T v xs S) (ha:R.rel M cs a S) (hb:base≤M.next) (hs:1≤R.size)
  (hd:∀ b∈aJ v,¬ S b) (hS:∀ b,S b→b<M.next)
  (hn:(xs.length + 1) * bytes≤140737488355328) (hn2:xs.length + 1≤140737488355328)
  (hK:∀ v' M',qb R M' base T v' (xs++[a]) S→ag (aJ v) M M'→M.next≤M'.next→(v'=v∨∀ b∈aJ v',M.next≤b)→(∀ b∈aJ v',¬ S b)→K v' M') :
  appW T R.size bytes zs false v (.slc M.next 0 1 (.ex 1)) (M.push (.row cs false T 0)) K:=by
 obtain⟨ds,h1,h2⟩:=ho
 have hk:ag [] M (M.push (.row cs false T 0)):=(ag.refl _ _).push _
 have hl:=R.len ha
 have hnl:qy (M.push (.row cs false T 0)) R.size zs false (.slc M.next 0 1 (.ex 1))=some (1,cs):=by
  simp only[qy,Nat.one_mul]
  rw[RM.dH (RM.aT _) (by omega),List.drop_zero,← hl,List.take_length]
 refine BK (h1.keep hk (by simp)) (Nat.le_trans hb hk.next) hs hnl (by rw[hl,Nat.one_mul]) (R.one ha) hn hn2 ?_
 intro v' M' q1 q2 q3 q4
 have kk:ag (aJ v) M M':=(hk.mono (by simp)).trans q2
 refine hK v' M' ⟨_,by simpa using q1, ?_⟩ kk (Nat.le_trans hk.next q3) (q4.imp id fun h b hb=>Nat.le_trans hk.next (h b hb)) ?_
 ·exact(h2.keep kk hd).append (fC.single (R.keep ha kk hd))
 ·rcases q4 with rfl | q4
  ·exact hd
  ·intro b hb hSb
   have:=q4 b hb
   have:=hS b hSb
   simp only[RM.push] at *
   omega
end
section
variable {M M' : RM} {b i n e f:Nat} {l:List AV} {p:Bool} {x:AV}
theorem az {K:AV→Prop} (h:M.heap b=some (.row l p e f)) (hx:l[i]?=some x) : au M (.ptr b i) K=K x:=by
 rw[gX,RM.cell_of h,hx]; simp
theorem eQ {K:AV→Prop} (h:M.heap b=some (.row l p e f)) (hn:l.length=n) : aB M (.ptr b 0) n K=K (.agg l):=by
 rw[fB,RM.ZM h]
 have:zR (some l) 0 n=some l:=by simp[zR,← hn]
 rw[this]; simp
theorem gY {K:RM→Prop} (h:M.heap b=some (.row l p e 0)) (hi:i<l.length) (hc:x.cells=[x]) (h1:oneCell x=true) : aF M (.ptr b i) x 1 K=K (M.put b (.row (l.set i x) p e 0)):=by
 rw[Bb,hc,RM.Ai h,rZ (by simp only[List.length_cons,List.length_nil]; omega) (Nat.zero_le _) (by simp[h1])]
 have:l.take i++[x]++l.drop (i + 1)=l.set i x:=by
  rw[List.set_eq_take_append_cons_drop,if_pos hi]; simp
 simp[this]
theorem sV {K:RM→Prop} (l' : List AV) (h:M.heap b=some (.row l p e 0)) (hi:i<l.length) (hc:x.cells=[x]) (h1:oneCell x=true) (hl:l.set i x=l') : aF M (.ptr b i) x 1 K=K (M.put b (.row l' p e 0)):=by
 rw[gY h hi hc h1,hl]
theorem bK {K:AV→Prop} : aI (.ptr b 0) n K=K (.ptr b n):=by rw[aN,Nat.zero_add]
theorem iw {K:RM→Prop} (h:M.heap b=some (.row l p e 0)) (hn:x.cells.length=n) (hl:l.length=n) (h1:x.cells.all oneCell=true) : aF M (.ptr b 0) x n K=K (M.put b (.row x.cells p e 0)):=by
 rw[Bb,RM.Ai h,Ve (by rw[hn,hl]) h1]
 simp[hn]
theorem rH {c:Nat} {y z:RB} (h:M.heap b=some y) (hb:b≠c) : (M.put c z).heap b=some y:=by
 simp only[RM.put]; rw[if_neg hb]; exact h
theorem aU (y:RB) : (M.put b y).heap b=some y:=RM.wm _ _
theorem nL {y z:RB} (h:M.heap b=some y) (hb:b<M.next) : (M.push z).heap b=some y:=by
 simp only[RM.push]; rw[if_neg (by omega)]; exact h
theorem wW (y:RB) : (M.push y).next=M.next + 1:=rfl
theorem jV (c:Nat) (y:RB) : (M.put c y).next=M.next:=rfl
theorem ag.new {bs:List Nat} (h:ag bs M M') {b:Nat} (y:RB) (hb:M.next≤b) : ag bs M (M'.put b y):=h.put y (.inl hb)
end
variable {M:RM}
theorem lV {a:AV} {l:List AV} {K:AV→Prop} : fI (.tup (a :: l)) 0 K=K a:=by rw[Xz]; simp
theorem lQ {a b:AV} {l:List AV} {K:AV→Prop} : fI (.tup (a :: b :: l)) 1 K=K b:=by rw[Xz]; simp
theorem dP {p q:Prop} : av (Bo true) p q=p:=by simp[Wy]
theorem bA {p q:Prop} : av (Bo false) p q=q:=by simp[Wy]
theorem aC {b:Bool} {p q:Prop} (h1:b=true→p) (h2:b=false→q) : av (Bo b) p q:=⟨h1,h2⟩
theorem bZ {f g:aj→Prop} {k:aj} : ai (Bo true) true f g k=f k:=rfl
theorem gZ {f g:aj→Prop} {k:aj} : ai (Bo false) false f g k=f k:=rfl
theorem mZ {f g:aj→Prop} {k:aj} : ai (Bo true) false f g k=g k:=rfl
theorem bN {f g:aj→Prop} {k:aj} : ai (Bo false) true f g k=g k:=rfl
theorem gI {f g:KR→Prop} {k:KR} : ae (Bo true) true f g k=f k:=rfl
theorem lK {f g:KR→Prop} {k:KR} : ae (Bo false) false f g k=f k:=rfl
theorem DR {f g:KR→Prop} {k:KR} : ae (Bo true) false f g k=g k:=rfl
theorem gG {f g:KR→Prop} {k:KR} : ae (Bo false) true f g k=g k:=rfl
theorem CK {w:Bool} {f g:aj→Prop} {k:aj} : ai .undef w f g k=g k:=rfl
theorem YK {w:Bool} {f g:KR→Prop} {k:KR} : ae .undef w f g k=g k:=rfl
theorem dC {a b:AV} {K:AV→Prop} : aK (Bo true) a b K=K a:=by rw[Yd]; rfl
theorem bT {a b:AV} {K:AV→Prop} : aK (Bo false) a b K=K b:=by rw[Yd]; rfl
theorem aL.known {size:Nat} {v:AV} {cs:List AV} {n:Nat} (h:aL M size v cs n) : known v=true:=by
 cases h <;> rfl
theorem dX {t:TypeId} {cs:List AV} {K:RB→(Nat→AV)→Prop} (h1:cs.all oneCell=true) (h2:1≤cs.length) : jR t (.agg cs) K=K (.row cs false t 0) (fun b=>.ptr b 0):=by
 unfold jR
 exact propext ⟨fun h=>h.2.2,fun h=>⟨h1,h2,h⟩⟩
theorem apN {x y a b:AV} (h1:known x=true) (h2:x.cells=[x]) (h3:known y=true) (h4:y.cells=[y]) : DC [a,b] [(0,1,x),(1,1,y)]=some [x,y]:=by
 simp[DC,h1,h2,h3,h4]
def uF.pre {α β:Type} (E:Enc α) (R:uF β) : uF (α × β) where
 size:=E.size + R.size
 rel M cs a S:=∃ ds,cs=E.cells a.1++ds∧R.rel M ds a.2 S
 len h:=by obtain⟨ds,rfl,h⟩:=h; rw[List.length_append,E.len,R.len h]
 one h:=by obtain⟨ds,rfl,h⟩:=h; rw[List.all_append,E.one,R.one h]; rfl
 mono h hs:=by obtain⟨ds,rfl,h⟩:=h; exact⟨ds,rfl,R.mono h hs⟩
 lt h:=by obtain⟨ds,rfl,h⟩:=h; exact⟨ds,rfl,R.lt h⟩
 keep h hk hb:=by obtain⟨ds,rfl,h⟩:=h; exact⟨ds,rfl,R.keep h hk hb⟩
def uF.post {α β:Type} (R:uF α) (E:Enc β) : uF (α × β) where
 size:=R.size + E.size
 rel M cs a S:=∃ ds,cs=ds++E.cells a.2∧R.rel M ds a.1 S
 len h:=by obtain⟨ds,rfl,h⟩:=h; rw[List.length_append,E.len,R.len h]
 one h:=by obtain⟨ds,rfl,h⟩:=h; rw[List.all_append,E.one,R.one h]; rfl
 mono h hs:=by obtain⟨ds,rfl,h⟩:=h; exact⟨ds,rfl,R.mono h hs⟩
 lt h:=by obtain⟨ds,rfl,h⟩:=h; exact⟨ds,rfl,R.lt h⟩
 keep h hk hb:=by obtain⟨ds,rfl,h⟩:=h; exact⟨ds,rfl,R.keep h hk hb⟩
def uF.map {α β:Type} (R:uF α) (g:β→α) : uF β where
 size:=R.size
 rel M cs a S:=R.rel M cs (g a) S
 len h:=R.len h
 one h:=R.one h
 mono h hs:=R.mono h hs
 lt h:=R.lt h
 keep h hk hb:=R.keep h hk hb
end Go.Ab
set_option maxRecDepth 10000
namespace Go.Ab.aH
open Go Go.Ab
def zG (c:ak) : Prop:=∀ {M:RM} {x y:Nat} {Q:aj},Q (Bo (decide (x<y))) M→c [N .u64 (x:Int),N .u64 (y:Int)] M Q
theorem Qk {M:RM} {x:Nat} {Q:aj} (h:Q (Bo false) M) : uw (N .u64 (x:Int)) M Q:=by
 unfold uw
 rw[jH,bne_self_eq_false]; exact h
theorem aaN {M:RM} {x:Nat} {Q:aj} (h:Q (Bo false) M) : vG (N .u64 (x:Int)) M Q:=by
 unfold vG
 rw[jH,bne_self_eq_false]; exact h
def aeL (c:ak) : Prop:=∀ {M:RM} {x:Nat} {Q:aj},Q (Bo false) M→c [N .u64 (x:Int)] M Q
theorem agj {cn:ak} (hn:aeL cn) : zG fun args M Q=>∃ a0 a1,args=[a0,a1]∧Aq cn a0 a1 M Q:=by
 intro M x y Q hQ
 refine⟨_,_,rfl, ?_⟩
 unfold Aq
 simp only[gK]
 refine hn ?_
 rw[bN]
 dsimp only
 rw[bT,gZ,dL]
 dsimp only
 rw[bT,show decide ((x:Int)<(y:Int))=decide (x<y) by simp]
 exact hQ
def Asc (xs:List Nat) : Prop:=xs.Pairwise (· < ·)
def below (n:Nat) (xs:List Nat) : Nat:=(xs.takeWhile (fun x=>decide (x<n))).length
theorem below_le (n:Nat) (xs:List Nat) : below n xs≤xs.length:=by
 unfold below
 induction xs with
 | nil=>simp
 | cons x xs ih =>
   rw[List.takeWhile_cons]
   split <;> simp <;> omega
theorem Asc.lt {xs:List Nat} (h:Asc xs) {i j:Nat} (hij:i<j) (hj:j<xs.length) : xs[i]'(by omega)<xs[j]:=List.pairwise_iff_getElem.1 h i j (by omega) hj hij
theorem Gl {n:Nat} : ∀ {xs:List Nat} {i:Nat},i≤xs.length→(∀ k (hk:k<xs.length),k<i→xs[k]<n)→(∀ (hi:i<xs.length),n≤xs[i])→below n xs=i
 | [],i,h,_,_=>by simp at h; subst h; rfl
 | x :: xs,0,_,_,h2=>by
   have:=h2 (by simp)
   simp at this
   unfold below
   rw[List.takeWhile_cons,if_neg (by simp; omega)]; rfl
 | x :: xs,i + 1,h,h1,h2=>by
   have hx:=h1 0 (by simp) (by omega)
   have:=Gl (n:=n) (xs:=xs) (i:=i) (by simpa using h) (fun k hk hki=>by have:=h1 (k + 1) (by simp; omega) (by omega); simpa using this) (fun hi=>by have:=h2 (by simp; omega); simpa using this)
   unfold below at *
   rw[List.takeWhile_cons,if_pos (by simpa using hx),List.length_cons,this]
theorem UU {n:Nat} {xs:List Nat} (ha:Asc xs) : (n∈xs↔∃ h:below n xs<xs.length,xs[below n xs]=n):=by
 constructor
 ·intro hm
  obtain⟨i,hi,he⟩:=List.getElem_of_mem hm
  have hb:below n xs=i:=Gl (by omega) (fun k hk hki=>by have:=ha.lt hki hi; omega) (fun _=>by omega)
  exact⟨by omega,by simp only[hb]; exact he⟩
 ·rintro⟨h,he⟩
  rw[← he]; exact List.getElem_mem h
theorem Yg {n:Nat} : ∀ {xs:List Nat} {k:Nat} (hk:k<xs.length),k<below n xs→xs[k]<n
 | x :: xs,k,hk,h=>by
   unfold below at h
   rw[List.takeWhile_cons] at h
   split at h
   ·rename_i hx
    cases k with
    | zero=>simpa using hx
    | succ k=>exact Yg (xs:=xs) (k:=k) (by simpa using hk) (by unfold below; simpa using h)
   ·simp at h
theorem aaw {n:Nat} : ∀ {xs:List Nat} (h:below n xs<xs.length),n≤xs[below n xs]
 | x :: xs,h=>by
   unfold below at *
   rw[List.takeWhile_cons] at h
   simp only[List.takeWhile_cons]
   by_cases hx:x<n
   ·simp only[hx,decide_true,if_true,List.length_cons] at h ⊢
    exact aaw (xs:=xs) (by unfold below; omega)
   ·simp only[hx,decide_false,Bool.false_eq_true,if_false,List.length_nil,List.getElem_cons_zero]
    omega
def LP (c:ak) : Prop:=∀ {M:RM} {v:AV} {xs:List Nat} {n:Nat} {Q:aj},Sl bf M v xs→xs.length≤1000000→Asc xs→Q (.tup [N .i64 ((below n xs:Nat) : Int),Bo (decide (n∈xs))]) M→c [v,N .u64 (n:Int)] M Q
theorem half (i j:Nat) (h:i + j<9223372036854775808) : N .i64 (IntKind.i64.wrap (Zp .u64 (IntKind.u64.wrap (IntKind.i64.wrap ((i:Int) + (j:Int)))) 1))=N .i64 (((i + j) / 2:Nat) : Int):=by
 rw[show IntKind.i64.wrap ((i:Int) + (j:Int))=((i + j:Nat) : Int) by rw[aZ (by omega) (by omega)]; rfl]
 rw[show IntKind.u64.wrap (((i + j:Nat) : Int))=((i + j:Nat) : Int) by unfold IntKind.wrap; simp[IntKind.bits,IntKind.signed]; omega]
 rw[show(1:Int)=((1:Nat) : Int) from rfl,Od _ _ _ (by decide)]
 rw[show((i + j:Nat) / 2 ^ 1)=(i + j) / 2 by simp]
 rw[aZ (by omega) (by omega)]
theorem aaF {cl cn:ak} (hl:zG cl) (hn:aeL cn) : LP fun args M Q=>∃ a0 a1,args=[a0,a1]∧ql cl cn a0 a1 M Q:=by
 intro M v xs n Q hv hxl ha hQ
 refine⟨_,_,rfl, ?_⟩
 unfold ql
 simp only[gK]
 rw[aL.len hv]
 refine aG (fun m ys M3=>M3=M∧∃ i j:Nat,m=j - i∧ys=[N .i64 (i:Int),N .i64 (j:Int)]∧i≤j∧j≤xs.length∧(∀ k (hk:k<xs.length),k<i→xs[k]<n)∧(∀ k (hk:k<xs.length),j≤k→n≤xs[k])) _
  ⟨rfl,0,xs.length,rfl,rfl,Nat.zero_le _,Nat.le_refl _,by omega,by omega⟩ ?_
 rintro next m ys M3 hnext ⟨rfl,i,j,rfl,rfl,hij,hj,h1,h2⟩
 dsimp only[aa]
 rw[dL]
 refine aC (fun hlt=>?_) (fun hge=>?_)
 ·have hlt:i<j:=by simpa using hlt
  have hh:(i + j) / 2<j:=by omega
  have hh2:i≤(i + j) / 2:=by omega
  rw[dw,oJ,LA]
  refine⟨by omega, ?_⟩
  rw[oJ,half i j (by omega)]
  have hm:(i + j) / 2<xs.length:=by omega
  obtain⟨b,o,_,_,hidx,hc⟩:=Sl.Kq (E:=bf) hv (((i + j) / 2:Nat) : Int) hm
  have hc:=hc _ rfl
  rw[hidx,gX]
  refine⟨_,hc, ?_⟩
  refine hl ?_
  refine aC (fun h=>?_) (fun h=>?_)
  ·have h:xs[(i + j) / 2]<n:=by simpa using h
   rw[dw,gL (by omega)]
   refine hnext _ _ _ (by omega) ⟨rfl,(i + j) / 2 + 1,j,rfl,rfl,by omega,hj,fun k hk hki=>?_,h2⟩
   rcases Nat.lt_or_ge k ((i + j) / 2) with h3 | h3
   ·have:=ha.lt h3 hm; omega
   ·have:k=(i + j) / 2:=by omega
    subst this; exact h
  ·have h:n≤xs[(i + j) / 2]:=by simp at h; omega
   refine hnext _ _ _ (by omega) ⟨rfl,i,(i + j) / 2,rfl,rfl,by omega,by omega,h1,fun k hk hki=>?_⟩
   rcases Nat.lt_or_ge ((i + j) / 2) k with h3 | h3
   ·have:=ha.lt h3 hk; omega
   ·have:k=(i + j) / 2:=by omega
    subst this; exact h
 ·have hij:i=j:=by simp at hge; omega
  subst hij
  have hb:below n xs=i:=Gl hj h1 (fun hi=>h2 i hi (Nat.le_refl _))
  rw[hb] at hQ
  rw[dL]
  by_cases hi:i<xs.length
  ·obtain⟨b,o,_,_,hidx,hc⟩:=Sl.Kq (E:=bf) hv (i:Int) hi
   have hc:=hc _ rfl
   have hm:decide (n∈xs)=(xs[i] == n):=by
    have:=UU (n:=n) ha
    simp only[hb] at this
    by_cases h:xs[i]=n
    ·rw[decide_eq_true (this.2 ⟨hi,h⟩)]; simp[h]
    ·rw[decide_eq_false (fun hm=>h (this.1 hm).2)]; simp[h]
   rw[hm] at hQ
   rw[show decide ((i:Int)<(xs.length:Int))=true by simpa using hi,bZ,hidx,gX]
   refine⟨_,hc, ?_⟩
   rw[bL,show(((xs[i] : Nat) : Int) == (n:Int))=(xs[i] == n) by
    by_cases h:xs[i]=n
    ·simp[h]
    ·have:((xs[i] : Int) == (n:Int))=false:=by simp; omega
     rw[this]; simp[h]]
   dsimp only
   cases he:xs[i] == n with
   | true =>
     rw[he] at hQ
     simp only[CK,bZ,mZ,bN,gZ,dC,bT]
     exact hQ
   | false =>
     rw[he] at hQ
     rw[gZ,hidx,gX]
     refine⟨_,hc, ?_⟩
     refine hn ?_
     simp only[CK,bZ,mZ,bN,gZ,dC,bT]
     exact hQ
  ·have hm:decide (n∈xs)=false:=by
    refine decide_eq_false fun h=>?_
    have:=(UU (n:=n) ha).1 h
    simp only[hb] at this
    exact hi this.1
   rw[hm] at hQ
   rw[show decide ((i:Int)<(xs.length:Int))=false by simp; omega]
   simp only[CK,bZ,mZ,bN,gZ,dC,bT]
   exact hQ
theorem Bi {M:RM} {b bx o ox dn sn k e:Nat} {l vs:List AV} {p:Bool} {cap aqP:Cap} {K:aj} (hd:M.heap b=some (.row l p e 0)) (hk:Nat.min sn dn=k) (hk0:k≠0) (hl:M.loads bx ox k=some vs) (ho:o + k≤l.length) (hall:vs.all oneCell=true) :
  El 1 (.slc b o dn cap) (.slc bx ox sn aqP) M K=K (N .i64 (k:Int)) (M.put b (.row (l.take o++vs++l.drop (o + k)) p e 0)):=by
 have hvs:=Kn hl
 have hst:M.stores b o vs=some (M.put b (.row (l.take o++vs++l.drop (o + k)) p e 0)):=by
  rw[RM.Ai hd,rZ (by omega) (Nat.zero_le _) hall,hvs]; rfl
 have:PZ 1 (.slc b o dn cap) (.slc bx ox sn aqP) M=some (N .i64 (k:Int),M.put b (.row (l.take o++vs++l.drop (o + k)) p e 0)):=by
  unfold PZ
  simp only[EL,hk,if_neg hk0,firstM,Nat.mul_one,hl,hst]
 unfold El
 rw[this]
 apply propext
 constructor
 ·rintro⟨v,M',h,hK⟩; cases h; exact hK
 ·intro hK; exact⟨_,_,rfl,hK⟩
theorem xz {size b o n c at' : Nat} (h:at'≤n) (hc:n≤c) (hne:at'≠c) : cZ size (.slc b o n (.ex c)) (some (N .i64 (at' : Int))) none none=some (.slc b (o + at' * size) (n - at') (.ex (c - at'))):=by
 simp only[cZ,bnd]
 simp[h,hc,Ne.symm hne]
theorem QH {size b o n c at' : Nat} (h:at'≤c) (hc:c≠0) : cZ size (.slc b o n (.ex c)) none (some (N .i64 (at' : Int))) none=some (.slc b o at' (.ex c)):=by
 simp only[cZ,bnd]
 simp[h,hc]
theorem sP {size b o n at' : Nat} (h:at'<n) : cZ size (.slc b o n (.op size)) (some (N .i64 (at' : Int))) none none=some (.slc b (o + at' * size) (n - at') (.op size)):=by
 simp only[cZ,bnd]
 simp[Nat.le_of_lt h]
 omega
theorem atM {A B D:List AV} {X:AV} {k m:Nat} (hA:A.length=k) (hB:B.length=m) : (A++X :: B).take (k + 1)++D++(A++X :: B).drop (k + 1 + m)=A++X :: D:=by
 subst hA; subst hB
 have e:A++X :: B=(A++[X])++B:=by simp
 rw[e,List.take_left' (by simp),List.drop_of_length_le (by simp; omega)]
 simp
def nV:AV→Prop
 | .slc _ _ n (.ex c)=>n≤c
 | .slc _ _ _ (.op e)=>e=1
 | _=>True
def gD (k x:Nat) (xs:List Nat) : List Nat:=xs.take k++x :: xs.drop k
theorem GL {k x:Nat} {xs:List Nat} (h:k≤xs.length) : (gD k x xs).length=xs.length + 1:=by
 simp[gD]; omega
def akk (c:ak) : Prop:=∀ {M:RM} {ba oa na bb ob nb ea eb:Nat} {ca cb:Cap} {la lb:List AV} {opb:Bool} {Q:aj},ba≠bb→M.heap ba=some (.row la false ea 0)→M.heap bb=some (.row lb opb eb 0)→oa + 1≤la.length→1≤lb.length→Q (Bo false) M→c [.slc ba oa na ca,.slc bb ob nb cb] M Q
theorem wL {i:Nat} (h:i<9223372036854775807) : IntKind.wrap .i64 ((i:Int) + ((1:Nat) : Int))=((i + 1:Nat) : Int):=gL h
theorem tq (k:Nat) : (bO [N .u64 0] k).length=k∧(bO [N .u64 0] k).all oneCell=true:=by
 induction k with
 | zero=>exact⟨rfl,rfl⟩
 | succ k ih=>exact⟨by simp[bO,ih.1],by simp[bO,ih.2,Wx]⟩
theorem afB {M:RM} {b bx T n c k x ex:Nat} {xs:List Nat} {co cr:ak} {Q:aj} (hov:akk co) (hn:n=xs.length) (hnl:n≤1000000) (hc:n≤c) (hk:k<n)
  (hb:M.heap b=some (.row (bf.row xs++List.replicate (c - n) .top) true T 0)) (hbl:b<M.next) (hx:M.heap bx=some (.row [N .u64 (x:Int)] false ex 0)) (hxl:bx<M.next) (hne:bx≠b)
  (hQ:∀ v' M',Sl bf M' v' (gD k x xs)→nV v'→(∀ c∈aJ v',c=b∨M.next≤c)→ag [b] M M'→Q v' M') : pq T co cr (.slc b 0 n (.ex c)) (N .i64 (k:Int)) (.slc bx 0 1 (.ex 1)) M Q:=by
 have hrow:(bf.row xs).length=n:=by rw[Enc.eH,hn]; simp[bf]
 have ako:(bf.row xs++List.replicate (c - n) AV.top).length=c:=by simp[hrow]; omega
 unfold pq
 rw[xz (by omega) hc (by omega),dO,lZ,bL,show((((1:Nat) : Int)) == 0)=false from rfl,bA,lZ,bL,
  show(((k:Int)) == (n:Int))=false by simp; omega,bA,dw,wL (by omega),ak8,mh]
 have hxo:M.loads bx 0 1=some [N .u64 (x:Int)]:=by rw[RM.dH hx (by simp)]; rfl
 have hold:M.loads b k (n - k)=some ((bf.row xs).drop k):=by
  rw[RM.dH hb (by omega),List.drop_append_of_le_length (by omega),List.take_append_of_le_length (by simp[hrow]),List.take_of_length_le (by simp[hrow])]
 have hall:=bf.wX xs
 have hins:bf.row (gD k x xs)=(bf.row xs).take k++N .u64 (x:Int) :: (bf.row xs).drop k:=by
  have h1:=bf.vT xs k
  have h2:=bf.wC xs k
  simp only[show bf.size=1 from rfl,Nat.mul_one] at h1 h2
  rw[h1,h2,gD,Enc.qW,Enc.iT]; rfl
 have hinl:(gD k x xs).length=n + 1:=by rw[GL (by omega),hn]
 have htl:((bf.row xs).take k).length=k:=by simp[hrow]; omega
 have hdl:((bf.row xs).drop k).length=n - k:=by simp[hrow]
 refine aC (fun hg=>?_) (fun hg=>?_)
 ·have hcn:c=n:=by simp at hg; omega
  subst hcn
  rw[Nat.sub_self,List.replicate_zero,List.append_nil] at hb
  rw[QH (by omega) (by omega),dO,dw,wL (by omega),iX,
   show IntKind.wrap .i64 (((c + 1:Nat) : Int) - (k:Int))=((c + 1 - k:Nat) : Int) by rw[aZ (by omega) (by omega)]; omega]
  have hr0:=tq (c + 1 - k)
  refine⟨c + 1 - k,bO [N .u64 0] (c + 1 - k),by simp[qy],by omega,by omega,.slc M.next 0 (c + 1) (.op 1),M.push (.row ((bf.row xs).take k++bO [N .u64 0] (c + 1 - k)) true T 0), ?_, ?_⟩
  ·have hl0:M.loads b 0 (k * 1)=some ((bf.row xs).take k):=by rw[RM.dH hb (by omega)]; simp
   simp only[vE,if_neg (show ¬ c + 1 - k=0 by omega),if_neg (show ¬ k + (c + 1 - k)≤c by omega),hl0]
   have h1:(((bf.row xs).take k)++bO [N .u64 0] (c + 1 - k)).all oneCell=true:=by
    rw[List.all_append,hr0.2,Bool.and_true,List.all_eq_true]
    exact fun y hy=>List.all_eq_true.1 hall y (List.mem_of_mem_take hy)
   rw[if_pos ⟨by omega,by omega,h1⟩,show k + (c + 1 - k)=c + 1 by omega]
  ·have hnew:(M.push (.row ((bf.row xs).take k++bO [N .u64 0] (c + 1 - k)) true T 0)).heap M.next=some (.row ((bf.row xs).take k++bO [N .u64 0] (c + 1 - k)) true T 0):=RM.aT _
   have kp:ag [] M (M.push (.row ((bf.row xs).take k++bO [N .u64 0] (c + 1 - k)) true T 0)):=(ag.refl _ _).push _
   have hb1:=kp.aQ hb hbl (by simp)
   have hx1:=kp.loads hxl (by simp) (o:=0) (k:=1)
   rw[hxo] at hx1
   have hn1:(M.push (.row ((bf.row xs).take k++bO [N .u64 0] (c + 1 - k)) true T 0)).next=M.next + 1:=rfl
   generalize M.push (.row ((bf.row xs).take k++bO [N .u64 0] (c + 1 - k)) true T 0)=M1 at *
   have avQ:((bf.row xs).take k++bO [N .u64 0] (c + 1 - k)).length=c + 1:=by rw[List.length_append,htl,hr0.1]; omega
   dsimp only
   rw[sP (by omega),dO,Bi (k:=1) hnew (by simp[Nat.min_def]; omega) (by omega) hx1 (by rw[avQ]; omega) rfl,dw,wL (by omega),
    sP (by omega),dO,dO]
   simp only[Nat.mul_one,Nat.zero_add]
   have aud:((bf.row xs).take k++bO [N .u64 0] (c + 1 - k)).take k++[N .u64 (x:Int)]++((bf.row xs).take k++bO [N .u64 0] (c + 1 - k)).drop (k + 1)=(bf.row xs).take k++N .u64 (x:Int) :: bO [N .u64 0] (c - k):=by
    rw[List.take_append_of_le_length (by omega),List.take_of_length_le (by omega),← List.drop_drop,List.drop_left' htl,show c + 1 - k=(c - k) + 1 by omega,bO]
    simp
   rw[aud]
   have auE:(M1.put M.next (.row ((bf.row xs).take k++N .u64 (x:Int) :: bO [N .u64 0] (c - k)) true T 0)).heap M.next=some (.row ((bf.row xs).take k++N .u64 (x:Int) :: bO [N .u64 0] (c - k)) true T 0):=aU _
   have hb2:=rH (z:=.row ((bf.row xs).take k++N .u64 (x:Int) :: bO [N .u64 0] (c - k)) true T 0) hb1 (show b≠M.next by omega)
   have kp2:ag [] M (M1.put M.next (.row ((bf.row xs).take k++N .u64 (x:Int) :: bO [N .u64 0] (c - k)) true T 0)):=kp.new _ (Nat.le_refl _)
   have hn2:(M1.put M.next (.row ((bf.row xs).take k++N .u64 (x:Int) :: bO [N .u64 0] (c - k)) true T 0)).next=M.next + 1:=hn1
   generalize M1.put M.next (.row ((bf.row xs).take k++N .u64 (x:Int) :: bO [N .u64 0] (c - k)) true T 0)=M2 at *
   have hr1:=tq (c - k)
   have as2:M2.loads b k (c - k)=some ((bf.row xs).drop k):=by
    rw[RM.dH hb2 (by omega),List.take_of_length_le (by simp[hrow])]
   have awU:((bf.row xs).take k++N .u64 (x:Int) :: bO [N .u64 0] (c - k)).length=c + 1:=by rw[List.length_append,htl,List.length_cons,hr1.1]; omega
   have acA:((bf.row xs).drop k).all oneCell=true:=by
    rw[List.all_eq_true]; exact fun y hy=>List.all_eq_true.1 hall y (List.mem_of_mem_drop hy)
   rw[Bi (k:=c - k) auE (by simp[Nat.min_def]) (by omega) as2 (by rw[awU]; omega) acA]
   have hrow3:((bf.row xs).take k++N .u64 (x:Int) :: bO [N .u64 0] (c - k)).take (k + 1)++(bf.row xs).drop k++((bf.row xs).take k++N .u64 (x:Int) :: bO [N .u64 0] (c - k)).drop (k + 1 + (c - k))=bf.row (gD k x xs):=by
    rw[atM htl hr1.1,hins]
   rw[hrow3]
   refine hQ _ _ ?_ rfl (fun d hd=>.inr (by simp[aJ] at hd; omega)) ((kp2.new _ (Nat.le_refl _)).mono (by simp))
   have:Rw bf (M2.put M.next (.row (bf.row (gD k x xs)) true T 0)) M.next true T (gD k x xs):=⟨aU _,by rw[jV]; omega⟩
   have h4:=this.sl (cap:=.op 1)
   rw[hinl] at h4
   exact h4
 ·have hcn:n + 1≤c:=by simp at hg; omega
  rw[dw,wL (by omega),QH (by omega) (by omega),dO,dw,wL (by omega),xz (by omega) (by omega) (by omega),dO]
  simp only[Nat.zero_add,Nat.mul_one]
  refine hov hne hx hb (by simp) (by rw[ako]; omega) ?_
  rw[bD,Bool.not_false,dP,dw,wL (by omega),xz (by omega) (by omega) (by omega),dO,xz (by omega) (by omega) (by omega),dO]
  simp only[Nat.zero_add,Nat.mul_one]
  have acA:((bf.row xs).drop k).all oneCell=true:=by
   rw[List.all_eq_true]; exact fun y hy=>List.all_eq_true.1 hall y (List.mem_of_mem_drop hy)
  rw[Bi (k:=n - k) hb (by simp[Nat.min_def]; omega) (by omega) hold (by rw[ako]; omega) acA]
  have hsplit:bf.row xs=(bf.row xs).take k++(bf.row xs).drop k:=(List.take_append_drop _ _).symm
  obtain⟨y,D,hD⟩ : ∃ y D,(bf.row xs).drop k=y :: D:=by
   cases h:(bf.row xs).drop k with
   | nil=>rw[h] at hdl; simp at hdl; omega
   | cons y D=>exact⟨y,D,rfl⟩
  obtain⟨R,hR⟩ : ∃ R,List.replicate (c - n) AV.top=.top :: R∧R.length=c - n - 1:=⟨List.replicate (c - n - 1) AV.top,by rw[show c - n=(c - n - 1) + 1 by omega,List.replicate_succ]; simp,by simp⟩
  generalize hA:(bf.row xs).take k=A at *
  have hDl:D.length + 1=n - k:=by rw[hD] at hdl; simpa using hdl
  have atF:(bf.row xs++List.replicate (c - n) AV.top).take (k + 1)++(bf.row xs).drop k++(bf.row xs++List.replicate (c - n) AV.top).drop (k + 1 + (n - k))=A++y :: (y :: D++R):=by
   have hX:bf.row xs=A++y :: D:=by rw[hsplit,hD]
   rw[hD,hX,hR.1]
   have e1:A++y :: D++AV.top :: R=(A++[y])++(D++AV.top :: R):=by simp
   have e2:A++y :: D++AV.top :: R=(A++y :: D++[AV.top])++R:=by simp
   have d1:(A++y :: D++AV.top :: R).drop (k + 1 + (n - k))=R:=by rw[e2,List.drop_left' (by simp; omega)]
   have d2:(A++y :: D++AV.top :: R).take (k + 1)=A++[y]:=by rw[e1,List.take_left' (by simp[htl])]
   rw[d1,d2]
   simp
  rw[atF]
  have hb2:(M.put b (.row (A++y :: (y :: D++R)) true T 0)).heap b=some (.row (A++y :: (y :: D++R)) true T 0):=aU _
  have kp:ag [b] M (M.put b (.row (A++y :: (y :: D++R)) true T 0)):=(ag.refl _ _).put _ (.inr (by simp))
  have hx2:=kp.loads hxl (by simp[hne]) (o:=0) (k:=1)
  rw[hxo] at hx2
  have hn2:(M.put b (.row (A++y :: (y :: D++R)) true T 0)).next=M.next:=rfl
  generalize M.put b (.row (A++y :: (y :: D++R)) true T 0)=M2 at *
  have hl2:(A++y :: (y :: D++R)).length=c:=by simp[htl,hR.2]; omega
  rw[dO,Bi (k:=1) hb2 (by simp[Nat.min_def]; omega) (by omega) hx2 (by rw[hl2]; omega) rfl]
  have hrow2:(A++y :: (y :: D++R)).take k++[N .u64 (x:Int)]++(A++y :: (y :: D++R)).drop (k + 1)=bf.row (gD k x xs)++R:=by
   rw[hins,hD,List.take_left' htl,show(A++y :: (y :: D++R)).drop (k + 1)=y :: D++R by
    rw[show A++y :: (y :: D++R)=(A++[y])++(y :: D++R) by simp,List.drop_left' (by simp[htl])]]
   simp
  rw[hrow2]
  refine hQ _ _ ?_ (show n + 1≤c from hcn) (fun d hd=>.inl (by simpa [aJ] using hd)) (kp.put _ (.inr (by simp)))
  rw[← hinl]
  refine .slc _ _ _ _ _ (by rw[jV,hn2]; exact hbl) ?_
  have hil:(bf.row (gD k x xs)).length=n + 1:=by rw[Enc.eH,hinl]; simp[bf]
  show RM.loads _ b 0 ((gD k x xs).length * 1)=_
  rw[Nat.mul_one,hinl,RM.dH (aU _) (by rw[List.length_append,hil]; omega),List.drop_zero,List.take_append_of_le_length (by omega),List.take_of_length_le (by omega)]
theorem Own.nV {M:RM} {n el n0:Nat} {v:AV} {cs:List AV} (h:Own M n0 el 1 v cs n) : nV v:=by
 cases h with
 | nil=>trivial
 | ex0=>exact Nat.le_refl _
 | op=>rfl
theorem aiZ {M:RM} {v:AV} {xs:List Nat} {k:Nat} (h:Sl bf M v xs) (hc:nV v) (hk:k≤xs.length) :
  ∃ v',cZ 1 v (some (N .i64 (k:Int))) none none=some v'∧Sl bf M v' (xs.drop k)∧nV v'∧∀ b∈aJ v',b∈aJ v:=by
 generalize hcs:bf.row xs=cs at *
 have h' : aL M 1 v cs xs.length:=by rw[← hcs]; exact h
 have hl:cs.length=xs.length:=by rw[← hcs,Enc.eH]; simp[bf]
 have hd:bf.row (xs.drop k)=cs.drop k:=by rw[← hcs,← bf.wC]; simp[bf]
 generalize hn:xs.length=n at *
 cases h' with
 | nil =>
   have:k=0:=by omega
   subst this
   exact⟨di,by simp[cZ,bnd],by simp only[Sl]; rw[hd]; simp[hn]; exact .nil,trivial,by simp⟩
 | emp b =>
   have:k=0:=by omega
   subst this
   exact⟨.emp b,by simp[cZ,bnd],by simp only[Sl]; rw[hd]; simp[hn]; exact .emp b,trivial,by simp⟩
 | slc b o n cap cs hb hload =>
   rw[Nat.mul_one] at hload
   have ajx:M.loads b (o + k) (n - k)=some (cs.drop k):=by
    have:=Ae hload k (n - k) (by omega)
    rw[List.take_of_length_le (by simp; omega)] at this
    exact this
   cases cap with
   | ex c =>
     have hcn:n≤c:=hc
     by_cases hck:c=k
     ·have hkn:k=n:=by omega
      refine⟨.slc b o 0 (.ex 0),by simp only[cZ,bnd]; simp[hk,hcn,hck]; omega, ?_,Nat.le_refl _,by simp[aJ]⟩
      simp only[Sl]
      rw[hd,List.length_drop,hn,hkn,Nat.sub_self,List.drop_of_length_le (by omega)]
      refine .slc b o 0 _ _ hb ?_
      have:=Ae hload 0 0 (by omega)
      simpa using this
     ·refine⟨.slc b (o + k * 1) (n - k) (.ex (c - k)),by simp only[cZ,bnd]; simp[hk,hcn,hck], ?_,by simp only[nV]; omega,by simp[aJ]⟩
      simp only[Sl]
      rw[hd,List.length_drop,hn]
      refine .slc _ _ _ _ _ hb ?_
      show M.loads b (o + k * 1) ((n - k) * 1)=_
      rw[Nat.mul_one,Nat.mul_one]; exact ajx
   | op e =>
     have he:e=1:=hc
     subst he
     by_cases hkn:n≤k
     ·refine⟨.emp b,by simp only[cZ,bnd]; simp[hk,hkn], ?_,trivial,by simp[aJ]⟩
      simp only[Sl]
      rw[hd,List.length_drop,hn,show n - k=0 by omega,List.drop_of_length_le (by omega)]
      exact .emp b
     ·refine⟨.slc b (o + k * 1) (n - k) (.op 1),by simp only[cZ,bnd]; simp[hk,hkn], ?_,rfl,by simp[aJ]⟩
      simp only[Sl]
      rw[hd,List.length_drop,hn]
      refine .slc _ _ _ _ _ hb ?_
      show M.loads b (o + k * 1) ((n - k) * 1)=_
      rw[Nat.mul_one,Nat.mul_one]; exact ajx
def eO:Nat→List Nat→Nat × Nat
 | u,[]=>(u,0)
 | u,x :: xs=>if x≤u + 1 then((eO (max u x) xs).1,(eO (max u x) xs).2 + 1) else(u,0)
def settle (u:Nat) (xs:List Nat) : Nat × List Nat:=((eO u xs).1,xs.drop (eO u xs).2)
theorem ZW {u:Nat} {xs:List Nat} {i u' : Nat} (hi:i<xs.length) (h:eO u xs=((eO u' (xs.drop i)).1,(eO u' (xs.drop i)).2 + i)) (hle:xs[i]≤u' + 1) :
  eO u xs=((eO (max u' xs[i]) (xs.drop (i + 1))).1,(eO (max u' xs[i]) (xs.drop (i + 1))).2 + (i + 1)):=by
 rw[h,List.drop_eq_getElem_cons hi,eO,if_pos hle]
 ext <;> simp; omega
theorem aaj {u:Nat} {xs:List Nat} {i u' : Nat} (h:eO u xs=((eO u' (xs.drop i)).1,(eO u' (xs.drop i)).2 + i)) (hs:i=xs.length∨∃ hi:i<xs.length,¬ xs[i]≤u' + 1) : eO u xs=(u',i):=by
 rw[h]
 rcases hs with hs | ⟨hi,hs⟩
 ·rw[List.drop_of_length_le (by omega)]; simp[eO]
 ·rw[List.drop_eq_getElem_cons hi,eO,if_neg hs]; simp
theorem Xk (a b:Nat) : (if (b:Int) > (a:Int) then(b:Int) else(a:Int))=((max a b:Nat) : Int):=by
 split <;> omega
theorem aic {l:List AV} {o:Nat} {x:AV} (h:l[o]?=some x) : l.set o x=l:=by
 apply List.ext_getElem?
 intro j
 rw[List.getElem?_set]
 split
 ·rename_i e; subst e
  obtain⟨h1,h2⟩:=List.getElem?_eq_some_iff.1 h
  simp[h1,h2]
 ·rfl
def IQ (c:ak) : Prop:=∀ {M:RM} {b o T u:Nat} {l:List AV} {v:AV} {xs:List Nat} {Q:aj},M.heap b=some (.row l false T 0)→l[o]?=some (N .u64 (u:Int))→l[o + 1]?=some v→Sl bf M v xs→b ∉ aJ v→nV v →
 xs.length≤1000000→u≤4398046511104→(∀ x∈xs,x≤4398046511104) →
 (∀ v' M',M'.heap b=some (.row ((l.set o (N .u64 (((settle u xs).1:Nat) : Int))).set (o + 1) v') false T 0)→Sl bf M' v' (settle u xs).2→nV v'→(∀ d∈aJ v',d∈aJ v)→ag [b] M M'→M'.next=M.next→Q (.tup []) M')→c [.ptr b o] M Q
theorem aar:IQ fun args M Q=>∃ a0,args=[a0]∧yF a0 M Q:=by
 intro M b o T u l v xs Q hb ho hv hs hbv hcap hxl hu hx hQ
 refine⟨_,rfl, ?_⟩
 unfold yF
 simp only[eu]
 have hol:o<l.length:=(List.getElem?_eq_some_iff.1 ho).1
 have axd:o + 1<l.length:=(List.getElem?_eq_some_iff.1 hv).1
 refine aG (fun m ys M3=>∃ (i u' : Nat),m=xs.length - i∧ys=[N .i64 (i:Int)]∧i≤xs.length∧u'≤4398046511104∧M3.heap b=some (.row (l.set o (N .u64 (u' : Int))) false T 0)∧ag [b] M M3∧M3.next=M.next ∧
   eO u xs=((eO u' (xs.drop i)).1,(eO u' (xs.drop i)).2 + i)) _
  ⟨0,u,rfl,rfl,Nat.zero_le _,hu, ?_,ag.refl _ _,rfl,by simp⟩ ?_
 ·rw[hb]
  rw[aic ho]
 rintro next m ys M3 hnext ⟨i,u',rfl,rfl,hi,hu',h3,hK,hn3,hset⟩
 dsimp only[aa]
 have g0:(l.set o (N .u64 (u' : Int)))[o]?=some (N .u64 (u' : Int)):=by rw[List.getElem?_set_self hol]
 have g1:(l.set o (N .u64 (u' : Int)))[o + 1]?=some v:=by rw[List.getElem?_set_ne (by omega)]; exact hv
 have hs3:Sl bf M3 v xs:=aL.keep hs hK (fun d hd h=>by simp at h; subst h; exact hbv hd)
 rw[aO,aN,az h3 g1,aL.len hs3,dL]
 have stop:(i=xs.length∨∃ hi:i<xs.length,¬ xs[i]≤u' + 1)→dx (.ptr b o) fun t44=>aI t44 1 fun t45=>au M3 t45 fun t46=>iB (cZ 1 t46 (some (N .i64 (i:Int))) none none) fun t48=>dx (.ptr b o) fun t49=>aI t49 1 fun t50=>aF M3 t50 t48 1 fun il=>Q (.tup []) il:=fun h=>by
  have he:=aaj hset h
  rw[aO,aN,az h3 g1]
  obtain⟨v',e1,e2,e3,e4⟩:=aiZ hs3 hcap hi
  rw[e1,dO,aO,aN,gY h3 (by simpa using axd) (aL.cells e2) (aL.one e2)]
  have kk:ag [b] M3 (M3.put b (.row ((l.set o (N .u64 (u' : Int))).set (o + 1) v') false T 0)):=(ag.refl _ _).put _ (.inr (by simp))
  refine hQ v' _ ?_ ?_ e3 e4 (hK.trans kk) hn3
  ·rw[aU,settle,he]
  ·rw[settle,he]
   exact aL.keep e2 kk (fun d hd h=>by simp at h; subst h; exact hbv (e4 _ hd))
 by_cases hlt:i<xs.length
 ·have hxi:=hx _ (List.getElem_mem hlt)
  obtain⟨b1,o1,_,_,hidx,hc⟩:=Sl.Kq (E:=bf) hs3 (i:Int) hlt
  have hc:=hc _ rfl
  rw[show decide ((i:Int)<(xs.length:Int))=true by simpa using hlt,gI,aO,aN,az h3 g1,hidx,gX]
  refine⟨_,hc, ?_⟩
  rw[aO,aN,Nat.add_zero,az h3 g0,dw,nP]
  rw[show IntKind.u64.wrap ((u' : Int) + 1)=((u' + 1:Nat) : Int) by unfold IntKind.wrap; simp[IntKind.bits,IntKind.signed]; omega]
  dsimp only
  rw[dC]
  refine aC (fun h=>?_) (fun h=>?_)
  ·have hle:xs[i]≤u' + 1:=by
    have h2:((xs[i] : Nat) : Int)≤((u' + 1:Nat) : Int):=of_decide_eq_true h
    omega
   rw[aO,aN,Nat.add_zero,az h3 g0,aO,aN,az h3 g1,hidx,gX]
   refine⟨_,hc, ?_⟩
   rw[afv,if_pos rfl,Xk,aO,aN,Nat.add_zero,sV (l.set o (N .u64 ((max u' xs[i] : Nat) : Int))) h3 (by simpa using hol) rfl rfl (by rw[List.set_set]),dw,gL (by omega)]
   exact hnext _ _ _ (by omega) ⟨i + 1,max u' xs[i],rfl,rfl,by omega,by omega,aU _,hK.put _ (.inr (by simp)),hn3,ZW hlt hset hle⟩
  ·have hle:¬ xs[i]≤u' + 1:=by
    have h2:¬ ((xs[i] : Nat) : Int)≤((u' + 1:Nat) : Int):=of_decide_eq_false h
    omega
   exact stop (.inr ⟨hlt,hle⟩)
 ·rw[show decide ((i:Int)<(xs.length:Int))=false by simp; omega,gG]
  dsimp only
  rw[bT,bA]
  exact stop (.inl (by omega))
abbrev Pt:=Nat × List Nat
def iA (p:Pt) (n:Nat) : Bool × Pt :=
 if n∈p.2∨n≤p.1 then(true,p)
 else if (settle p.1 (gD (below n p.2) n p.2)).2.length≤4096 then(true,settle p.1 (gD (below n p.2) n p.2)) else(false,p)
def abO (T:Nat) (c:ak) : Prop:=∀ {M:RM} {v:AV} {bx n0 k x ex:Nat} {xs:List Nat} {Q:aj},Ow bf M n0 T v xs→n0≤M.next→xs.length≤100000→k≤xs.length→M.heap bx=some (.row [N .u64 (x:Int)] false ex 0)→bx<M.next→bx ∉ aJ v →
 (∀ v' M',Sl bf M' v' (gD k x xs)→nV v'→(∀ c∈aJ v',n0≤c)→ag (aJ v) M M'→Q v' M')→c [v,N .i64 (k:Int),.slc bx 0 1 (.ex 1)] M Q
theorem GJ (u:Nat) (xs:List Nat) : (settle u xs).2.length≤xs.length:=by simp[settle]
theorem Hu {k x:Nat} {xs:List Nat} {y:Nat} (h:y∈gD k x xs) : y=x∨y∈xs:=by
 unfold gD at h
 rcases List.mem_append.1 h with h | h
 ·exact .inr (List.mem_of_mem_take h)
 ·rcases List.mem_cons.1 h with h | h
  ·exact .inl h
  ·exact .inr (List.mem_of_mem_drop h)
def adf (c:ak) : Prop:=∀ {M:RM} {b o T u n:Nat} {l:List AV} {v:AV} {xs:List Nat} {Q:aj},M.heap b=some (.row l false T 0)→b<M.next→l[o]?=some (N .u64 (u:Int))→l[o + 1]?=some v→Sl bf M v xs→b ∉ aJ v→nV v →
 Asc xs→xs.length≤10000→u≤4398046511104→(∀ x∈xs,x≤4398046511104)→n≤4398046511104 →
 (∀ M',iA (u,xs) n=((iA (u,xs) n).1,(u,xs))→ag [] M M'→Q (Bo (iA (u,xs) n).1) M') →
 (∀ v' M',M'.heap b=some (.row (l.take o++[N .u64 (((iA (u,xs) n).2.1:Nat) : Int),v']++l.drop (o + 2)) false T 0)→Sl bf M' v' (iA (u,xs) n).2.2→nV v'→(∀ d∈aJ v',M.next≤d)→ag [b] M M'→Q (Bo (iA (u,xs) n).1) M') →
 c [.ptr b o,N .u64 (n:Int)] M Q
theorem agf {TU TP:Nat} {cb cc ci cs:ak} (hsr:LP cb) (hcl:afM TU 1 8 cc) (hin:abO TU ci) (hst:IQ cs) : adf fun args M Q=>∃ a0 a1,args=[a0,a1]∧Hq cb TU TP cc ci cs a0 a1 M Q:=by
 intro M b o T u n l v xs Q hb hbl ho hv hs hbv hcap hasc hxl hu hx hn hsame hnew
 refine⟨_,_,rfl, ?_⟩
 unfold Hq
 simp only[gK]
 have hol:o + 1<l.length:=(List.getElem?_eq_some_iff.1 hv).1
 rw[aO,aN,az hb hv]
 refine hsr hs (by omega) hasc ?_
 rw[lV,lQ]
 have yes:n∈xs∨n≤u→Q (Bo true) M:=fun h=>by
  have e:iA (u,xs) n=(true,(u,xs)):=by unfold iA; rw[if_pos h]
  have:=hsame M (by rw[e]) (ag.refl _ _)
  rw[e] at this; exact this
 by_cases hm:n∈xs
 ·rw[decide_eq_true hm,mZ]
  dsimp only
  rw[dC,dP]
  exact yes (.inl hm)
 rw[decide_eq_false hm,gZ,aO,aN,Nat.add_zero,az hb ho,nP]
 dsimp only
 rw[bT]
 by_cases hnu:n≤u
 ·rw[show decide ((n:Int)≤(u:Int))=true by simpa using hnu,dP]
  exact yes (.inr hnu)
 rw[show decide ((n:Int)≤(u:Int))=false by simp; omega,bA]
 have e0:iA (u,xs) n=if (settle u (gD (below n xs) n xs)).2.length≤4096 then(true,settle u (gD (below n xs) n xs)) else(false,(u,xs)):=by
  unfold iA; rw[if_neg (by simp[hm]; omega)]
 rw[aO,aN,Nat.add_zero,az hb ho,aO,aN,az hb hv,mO (x:=N .u64 (n:Int)) (size:=1) rfl rfl rfl,qo,qo]
 have hx1:((M.push (.row [N .u64 (n:Int)] false TU 0)).push (.row [N .u64 0,di] false TP 0)).heap M.next=some (.row [N .u64 (n:Int)] false TU 0):=nL (RM.aT _) (by simp[RM.push])
 have h7:((M.push (.row [N .u64 (n:Int)] false TU 0)).push (.row [N .u64 0,di] false TP 0)).heap (M.next + 1)=some (.row [N .u64 0,di] false TP 0):=RM.aT _
 have kk:ag [] M ((M.push (.row [N .u64 (n:Int)] false TU 0)).push (.row [N .u64 0,di] false TP 0)):=((ag.refl _ _).push _).push _
 have nn:((M.push (.row [N .u64 (n:Int)] false TU 0)).push (.row [N .u64 0,di] false TP 0)).next=M.next + 2:=rfl
 rw[wW]
 change cc _ ((M.push (.row [N .u64 (n:Int)] false TU 0)).push (.row [N .u64 0,di] false TP 0)) _
 generalize (M.push (.row [N .u64 (n:Int)] false TU 0)).push (.row [N .u64 0,di] false TP 0)=M1 at *
 refine hcl (aL.keep hs kk (by simp)) (bf.wX xs) (by omega) (by omega) fun v1 M2 ow k2=>?_
 have n2:=k2.next
 have hb2:=(kk.trans k2).aQ hb hbl (by simp)
 have hx2:=k2.aQ hx1 (by omega) (by simp)
 have h72:=k2.aQ h7 (by omega) (by simp)
 have hbi:=below_le n xs
 have hwb:∀ d∈aJ v1,M1.next≤d:=fun d hd=>(ow.blk d hd).1
 rw[az hb2 ho]
 refine⟨rfl, ?_⟩
 rw[mO (x:=N .u64 (n:Int)) (size:=1) rfl rfl rfl]
 refine⟨⟨hx2,rfl⟩,⟨h72,rfl⟩, ?_⟩
 refine hin (n0:=M1.next) ow n2 (by omega) hbi hx2 (by omega) (fun h=>by have:=hwb _ h; omega) fun v2 M3 s3 c3 b3 k3=>?_
 have n3:=k3.next
 have ke:ag [] M M3:=(kk.trans k2).cz k3 fun d hd=>.inl (by have:=hwb d hd; omega)
 have hb3:=ke.aQ hb hbl (by simp)
 have h73:=k3.aQ h72 (by omega) (fun h=>by have:=hwb _ h; omega)
 rw[az hb3 ho]
 refine⟨rfl,⟨h73,rfl⟩, ?_⟩
 rw[oH]
 refine⟨[N .u64 (u:Int),v2],apN rfl rfl (aL.known s3) (aL.cells s3), ?_⟩
 rw[iw (n:=2) (x:=.agg [N .u64 (u:Int),v2]) (l:=[N .u64 0,di]) h73 rfl rfl (by simp[AV.cells,Wx,aL.one s3])]
 change cs _ (M3.put (M.next + 1) (.row [N .u64 (u:Int),v2] false TP 0)) _
 have h74:(M3.put (M.next + 1) (.row [N .u64 (u:Int),v2] false TP 0)).heap (M.next + 1)=_:=aU _
 have ke4:ag [] M (M3.put (M.next + 1) (.row [N .u64 (u:Int),v2] false TP 0)):=ke.new _ (by omega)
 have n4:(M3.put (M.next + 1) (.row [N .u64 (u:Int),v2] false TP 0)).next=M3.next:=rfl
 have s4:Sl bf (M3.put (M.next + 1) (.row [N .u64 (u:Int),v2] false TP 0)) v2 (gD (below n xs) n xs):=aL.keep (bs:=[M.next + 1]) s3 ((ag.refl _ _).put _ (.inr (by simp))) (fun d hd h=>by have:=b3 d hd; simp at h; omega)
 have hb4:=rH (z:=.row [N .u64 (u:Int),v2] false TP 0) hb3 (show b≠M.next + 1 by omega)
 generalize M3.put (M.next + 1) (.row [N .u64 (u:Int),v2] false TP 0)=M4 at *
 have hil:=GL (x:=n) hbi
 refine hst h74 rfl rfl s4 (fun h=>by have:=b3 _ h; omega) c3 (by omega) hu (fun y hy=>by rcases Hu hy with rfl | hy; exact hn; exact hx y hy) ?_
 intro v5 M5 h75 s5 c5 b5 k5 n5
 have hb5:=k5.aQ hb4 (by omega) (by simp; omega)
 have ke5:ag [] M M5:=ke4.cz k5 fun d hd=>.inl (by simp at hd; omega)
 simp only[List.set_cons_zero,List.set_cons_succ,Nat.zero_add] at h75
 rw[bK,az h75 rfl,aL.len s5,mh]
 refine aC (fun hg=>?_) (fun hg=>?_)
 ·have hg:¬ (settle u (gD (below n xs) n xs)).2.length≤4096:=by simp at hg; omega
  rw[if_neg hg] at e0
  have:=hsame M5 (by rw[e0]) ke5
  rw[e0] at this; exact this
 ·have hg:(settle u (gD (below n xs) n xs)).2.length≤4096:=by simp at hg; omega
  rw[if_pos hg] at e0
  rw[eQ (n:=2) h75 rfl,aO,Bb]
  have hst:M5.stores b o [N .u64 (((settle u (gD (below n xs) n xs)).1:Nat) : Int),v5]=some (M5.put b (.row (l.take o++[N .u64 (((settle u (gD (below n xs) n xs)).1:Nat) : Int),v5]++l.drop (o + 2)) false T 0)):=by
   rw[RM.Ai hb5,rZ (by simp only[List.length_cons,List.length_nil]; omega) (Nat.zero_le _) (by simp[Wx,aL.one s5])]; rfl
  refine⟨rfl,_,hst, ?_⟩
  have kf:ag [b] M5 (M5.put b (.row (l.take o++[N .u64 (((settle u (gD (below n xs) n xs)).1:Nat) : Int),v5]++l.drop (o + 2)) false T 0)):=(ag.refl _ _).put _ (.inr (by simp))
  have:=hnew v5 _ (by rw[aU,e0]) (by rw[e0]; exact aL.keep s5 kf (fun d hd h=>by have:=b3 d (b5 d hd); simp at h; omega)) c5 (fun d hd=>by have:=b3 d (b5 d hd); omega) ((ke5.mono (by simp)).trans kf)
  rw[e0] at this; exact this
def fT (p:Pt) (n:Nat) : Bool:=(decide (1≤n) && decide (n≤p.1)) || decide (n∈p.2)
def Vv (c:ak) : Prop:=∀ {M:RM} {b o T u n:Nat} {l:List AV} {v:AV} {xs:List Nat} {Q:aj},M.heap b=some (.row l false T 0)→l[o]?=some (N .u64 (u:Int))→l[o + 1]?=some v→Sl bf M v xs→Asc xs→xs.length≤1000000 →
 Q (Bo (fT (u,xs) n)) M→c [.ptr b o,N .u64 (n:Int)] M Q
theorem afK {cb:ak} (hsr:LP cb) : Vv fun args M Q=>∃ a0 a1,args=[a0,a1]∧Iw cb a0 a1 M Q:=by
 intro M b o T u n l v xs Q hb ho hv hs hasc hxl hQ
 refine⟨_,_,rfl, ?_⟩
 unfold Iw
 simp only[gK]
 unfold fT at hQ
 rw[aO,aN,az hb hv]
 refine hsr hs hxl hasc ?_
 rw[lV,lQ,iW]
 by_cases h1:1≤n
 ·rw[show decide ((n:Int) ≥ 1)=true by simp; omega,bZ,aO,aN,Nat.add_zero,az hb ho,nP]
  dsimp only
  rw[dC]
  by_cases h2:n≤u
  ·rw[show decide ((n:Int)≤(u:Int))=true by simpa using h2,mZ]
   dsimp only
   rw[dC]
   simpa [h1,h2] using hQ
  ·rw[show decide ((n:Int)≤(u:Int))=false by simp; omega,gZ]
   dsimp only
   rw[bT]
   simpa [h1,h2] using hQ
 ·rw[show decide ((n:Int) ≥ 1)=false by simp; omega,bN]
  dsimp only
  rw[bT,gZ]
  dsimp only
  rw[bT]
  simpa [h1] using hQ
abbrev aH:=Int × Nat
abbrev aR (d:aH) : List AV:=[N .i64 d.1,N .u64 (d.2:Int)]
def eX:Enc aH:=⟨2,aR,fun _=>rfl,fun _=>rfl⟩
def good (d:aH) : Bool:=decide (0≤d.1) && decide (d.1<16) && decide (1≤d.2) && decide (d.2≤1099511627776)
def DZ (c:ak) : Prop:=∀ {M:RM} {d:aH} {Q:aj},(∀ M',ag [] M M'→Q (Bo (good d)) M')→c [.agg (aR d)] M Q
theorem UN {M1:RM} {K:aj} {d:aH} {T:Nat} {b:Nat} (h:M1.heap b=some (.row (aR d) false T 0)) (hQ:K (Bo (good d)) M1) :
  aI (.ptr b 0) 0 fun t3=>au M1 t3 fun t4=>af .geq t4 (N .i64 0) fun t5 =>
   ai t5 true (fun k'=>aI (.ptr b 0) 0 fun t7=>au M1 t7 fun t8=>af .lss t8 (N .i64 16) fun t9=>k' t9 M1) (fun k=>k .undef M1) fun t9 M2=>aK t5 t9 (Bo false) fun bW =>
   ai bW true (fun k'=>aI (.ptr b 0) 1 fun t12=>au M2 t12 fun t13=>af .geq t13 (N .u64 1) fun t14=>k' t14 M2) (fun k=>k .undef M2) fun t14 M3=>aK bW t14 (Bo false) fun t15 =>
   ai t15 true (fun k'=>aI (.ptr b 0) 1 fun t17=>au M3 t17 fun t18=>af .leq t18 (N .u64 1099511627776) fun t19=>k' t19 M3) (fun k=>k .undef M3) fun t19 M4=>aK t15 t19 (Bo false) fun t20=>K t20 M4:=by
 unfold good at hQ
 obtain⟨dv,n⟩:=d
 simp only at hQ
 rw[bK,az h rfl,iW]
 by_cases h1:0≤dv
 ·rw[show decide (dv ≥ 0)=true by simpa using h1,bZ,bK,az h rfl,dL]
  dsimp only
  rw[dC]
  by_cases h2:dv<16
  ·rw[show decide (dv<16)=true by simpa using h2,bZ,bK,az h rfl,iW]
   dsimp only
   rw[dC]
   by_cases h3:1≤n
   ·rw[show decide ((n:Int) ≥ 1)=true by simp; omega,bZ,bK,az h rfl,nP]
    dsimp only
    rw[dC,show decide ((n:Int)≤1099511627776)=decide (n≤1099511627776) by simp; omega]
    simpa [h1,h2,h3] using hQ
   ·rw[show decide ((n:Int) ≥ 1)=false by simp; omega,bN]
    dsimp only
    rw[bT]
    simpa [h1,h2,h3] using hQ
  ·rw[show decide (dv<16)=false by simpa using h2,bN]
   dsimp only
   rw[bT,bN]
   dsimp only
   rw[bT]
   simpa [h1,h2] using hQ
 ·rw[show decide (dv ≥ 0)=false by simpa using h1,bN]
  dsimp only
  rw[bT,bN]
  dsimp only
  rw[bT,bN]
  dsimp only
  rw[bT]
  simpa [h1] using hQ
theorem ae7 {T:Nat} : DZ fun args M Q=>∃ a0,args=[a0]∧Na T a0 M Q:=by
 intro M d Q hQ
 refine⟨_,rfl, ?_⟩
 unfold Na
 simp only[gK]
 rw[dX rfl (by simp),bg]
 exact UN (RM.aT _) (hQ _ ((ag.refl _ _).push _))
theorem VU {T:Nat} : DZ fun args M Q=>∃ a0,args=[a0]∧Nv T a0 M Q:=by
 intro M d Q hQ
 refine⟨_,rfl, ?_⟩
 unfold Nv
 simp only[gK]
 rw[dX rfl (by simp),bg]
 exact UN (RM.aT _) (hQ _ ((ag.refl _ _).push _))
def qc (p:Pt) : Prop:=Asc p.2∧(∀ x∈p.2,p.1 + 1<x)∧p.1≤1099511627776∧(∀ x∈p.2,x≤1099511627776)∧p.2.length≤4096
theorem ajf {n:Nat} {xs:List Nat} (h:Asc xs) (hn:n ∉ xs) : Asc (gD (below n xs) n xs):=by
 unfold gD Asc
 rw[List.pairwise_append]
 have ht:=List.Pairwise.sublist (List.take_sublist (below n xs) xs) h
 have hd:=List.Pairwise.sublist (List.drop_sublist (below n xs) xs) h
 have lt1:∀ a∈xs.take (below n xs),a<n:=fun a ha=>by
  obtain⟨i,hi,rfl⟩:=List.getElem_of_mem ha
  rw[List.getElem_take]
  exact Yg (by simp at hi; omega) (by simp at hi; omega)
 have gt1:∀ a∈xs.drop (below n xs),n<a:=fun a ha=>by
  obtain⟨i,hi,rfl⟩:=List.getElem_of_mem ha
  rw[List.getElem_drop]
  simp only[List.length_drop] at hi
  have h0:below n xs<xs.length:=by omega
  have h1:=aaw (n:=n) h0
  have h2:xs[below n xs]≠n:=fun e=>hn (by rw[← e]; exact List.getElem_mem h0)
  rcases Nat.eq_zero_or_pos i with rfl | hi0
  ·simp only[Nat.add_zero]; omega
  ·have:=h.lt (i:=below n xs) (j:=below n xs + i) (by omega) (by omega); omega
 refine⟨ht,List.pairwise_cons.2 ⟨gt1,hd⟩,fun a ha b hb=>?_⟩
 rcases List.mem_cons.1 hb with rfl | hb
 ·exact lt1 a ha
 ·have:=lt1 a ha; have:=gt1 b hb; omega
theorem De:∀ (xs:List Nat) (u N:Nat),Asc xs→u≤N→(∀ x∈xs,x≤N)→Asc (settle u xs).2∧(∀ x∈(settle u xs).2,(settle u xs).1 + 1<x)∧(settle u xs).1≤N∧u≤(settle u xs).1
 | [],u,N,_,hu,_=>⟨by simp[settle,eO,Asc],by simp[settle,eO],hu,Nat.le_refl _⟩
 | x :: xs,u,N,ha,hu,hx=>by
   have ha2:=(List.pairwise_cons.1 ha).2
   by_cases h:x≤u + 1
   ·have e:settle u (x :: xs)=settle (max u x) xs:=by
     unfold settle
     rw[eO,if_pos h]; rfl
    rw[e]
    have:=De xs (max u x) N ha2 (by have:=hx x (by simp); omega) (fun y hy=>hx y (by simp[hy]))
    exact⟨this.1,this.2.1,this.2.2.1,by have:=this.2.2.2; omega⟩
   ·have e:settle u (x :: xs)=(u,x :: xs):=by
     unfold settle
     rw[eO,if_neg h]; rfl
    rw[e]
    refine⟨ha,fun y hy=>?_,hu,Nat.le_refl _⟩
    simp only at hy ⊢
    rcases List.mem_cons.1 hy with rfl | hy
    ·omega
    ·have:=(List.pairwise_cons.1 ha).1 y hy; omega
theorem Ra {u:Nat} {xs:List Nat} {y:Nat} (h:y∈(settle u xs).2) : y∈xs:=List.mem_of_mem_drop h
theorem akZ {p:Pt} {n:Nat} (hp:qc p) (hn:n≤1099511627776) : qc (iA p n).2:=by
 unfold iA
 split
 ·exact hp
 ·rename_i h
  split
  ·rename_i h2
   have hm:n ∉ p.2:=fun hm=>h (.inl hm)
   have:=De (gD (below n p.2) n p.2) p.1 1099511627776 (ajf hp.1 hm) hp.2.2.1 (fun x hx=>by rcases Hu hx with rfl | hx; exact hn; exact hp.2.2.2.1 x hx)
   exact⟨this.1,this.2.1,this.2.2.1,fun x hx=>by rcases Hu (Ra hx) with rfl | hx; exact hn; exact hp.2.2.2.1 x hx,h2⟩
  ·exact hp
structure iF (T:Nat) (S:Nat→Prop) (M:RM) (b:Nat) (ps:List Pt) : Prop where
 lt:b<M.next
 len:ps.length=16
 row:∃ l,M.heap b=some (.row l false T 0)∧l.length=32∧∀ (i:Nat) (hi:i<ps.length),∃ v,l[2 * i]?=some (N .u64 (ps[i].1:Int))∧l[2 * i + 1]?=some v∧Sl bf M v ps[i].2∧nV v∧∀ d∈aJ v,S d
 nb:¬ S b
theorem iF.mono {T:Nat} {S S' : Nat→Prop} {M:RM} {b:Nat} {ps:List Pt} (h:iF T S M b ps) (hs:∀ d,S d→S' d) (hb:¬ S' b) : iF T S' M b ps:=by
 obtain⟨l,h1,h2,h3⟩:=h.row
 exact⟨h.lt,h.len,⟨l,h1,h2,fun i hi=>let ⟨v,a1,a2,a3,a4,a5⟩:=h3 i hi; ⟨v,a1,a2,a3,a4,fun d hd=>hs d (a5 d hd)⟩⟩,hb⟩
theorem iF.keep {T:Nat} {S:Nat→Prop} {M M' : RM} {b:Nat} {ps:List Pt} {bs:List Nat} (h:iF T S M b ps) (hk:ag bs M M') (hb:b ∉ bs) (hs:∀ d∈bs,¬ S d) : iF T S M' b ps:=by
 obtain⟨l,h1,h2,h3⟩:=h.row
 exact⟨Nat.lt_of_lt_of_le h.lt hk.next,h.len,⟨l,hk.aQ h1 h.lt hb,h2,fun i hi=>let ⟨v,a1,a2,a3,a4,a5⟩:=h3 i hi; ⟨v,a1,a2,aL.keep a3 hk (fun d hd hm=>hs d hm (a5 d hd)),a4,a5⟩⟩,h.nb⟩
theorem iF.below {T:Nat} {S:Nat→Prop} {M:RM} {b:Nat} {ps:List Pt} (h:iF T S M b ps) : iF T (fun d=>S d∧d<M.next) M b ps:=by
 obtain⟨l,h1,h2,h3⟩:=h.row
 exact⟨h.lt,h.len,⟨l,h1,h2,fun i hi=>let ⟨v,a1,a2,a3,a4,a5⟩:=h3 i hi; ⟨v,a1,a2,a3,a4,fun d hd=>⟨a5 d hd,aL.lt a3 d hd⟩⟩⟩,fun hb=>h.nb hb.1⟩
def l5 (ps:List Pt) (d:aH) : Int × List Pt :=
 if good d then(if (iA (ps.getD d.1.toNat (0,[])) d.2).1 then(0,ps.set d.1.toNat (iA (ps.getD d.1.toNat (0,[])) d.2).2) else(2,ps)) else(1,ps)
def VN (T:Nat) (c:ak) : Prop:=∀ {M:RM} {b:Nat} {ps:List Pt} {d:aH} {S:Nat→Prop} {Q:aj},iF T S M b ps→(∀ p∈ps,qc p) →
 (∀ M',iF T (fun e=>S e∨M.next≤e) M' b (l5 ps d).2→ag [b] M M'→Q (N .i64 (l5 ps d).1) M')→c [.ptr b 0,.agg (aR d)] M Q
theorem aeq {p:Pt} {n:Nat} (h:(iA p n).1=false) : (iA p n).2=p:=by
 unfold iA at h ⊢
 split
 ·rfl
 ·split
  ·rename_i h1 h2
   rw[if_neg h1,if_pos h2] at h; cases h
  ·rfl
theorem af2 {T TD:Nat} {cg ca:ak} (hg:DZ cg) (ha:adf ca) : VN T fun args M Q=>∃ a0 a1,args=[a0,a1]∧JB TD cg ca a0 a1 M Q:=by
 intro M b ps d S Q hset hwf hQ
 refine⟨_,_,rfl, ?_⟩
 unfold JB
 rw[dX rfl (by simp),bg,eQ (n:=2) (RM.aT _) rfl]
 have k1:ag [] M (M.push (.row (aR d) false TD 0)):=(ag.refl _ _).push _
 have h3:(M.push (.row (aR d) false TD 0)).heap M.next=some (.row (aR d) false TD 0):=RM.aT _
 have n1:(M.push (.row (aR d) false TD 0)).next=M.next + 1:=rfl
 generalize M.push (.row (aR d) false TD 0)=M1 at *
 refine hg fun M2 k2=>?_
 have kk:=k1.trans k2
 have h3:=k2.aQ h3 (by omega) (by simp)
 have s2:=hset.keep kk (by simp) (by simp)
 have hbl:=hset.lt
 rw[bD]
 unfold l5 at hQ
 have n2:=k2.next
 cases hgd:good d with
 | false =>
   simp only[hgd,Bool.false_eq_true,if_false] at hQ
   rw[Bool.not_false,dP]
   exact hQ M2 (s2.mono (fun e h=>.inl h) (fun h=>by rcases h with h | h; exact hset.nb h; omega)) (kk.mono (by simp))
 | true =>
   simp only[hgd,if_true] at hQ
   have hgd':=hgd
   simp[good] at hgd'
   obtain⟨i,hi⟩ : ∃ i:Nat,d.1=(i:Int):=⟨d.1.toNat,by omega⟩
   have agm:i<16:=by omega
   have hil:i<ps.length:=by rw[hset.len]; exact agm
   have auu:ps.getD d.1.toNat (0,[])=ps[i]:=by rw[hi,Int.toNat_natCast,List.getD_eq_getElem?_getD,List.getElem?_eq_getElem hil]; rfl
   rw[auu] at hQ
   rw[hi,Int.toNat_natCast] at hQ
   rw[Bool.not_true,bA,bK,az h3 rfl,aO,bK,hi,BX]
   refine⟨by omega,by omega, ?_⟩
   rw[bK,az h3 rfl,Int.toNat_natCast,Nat.zero_add,Nat.mul_comm i 2]
   obtain⟨l,hb,ad4,hrow⟩:=s2.row
   obtain⟨v,a1,a2,a3,a4,a5⟩:=hrow i hil
   have hwp:=hwf _ (List.getElem_mem hil)
   have hk0:∀ b'∈([b] : List Nat),b'=b:=by simp
   refine ha hb s2.lt a1 a2 a3 (fun h=>hset.nb (a5 b h)) a4 hwp.1 (by have:=hwp.2.2.2.2; omega) (by have:=hwp.2.2.1; omega) (fun x hx=>by have:=hwp.2.2.2.1 x hx; omega) (by omega) ?_ ?_
   ·intro M3 he k3
    have s3:=s2.keep k3 (by simp) (by simp)
    rw[bD]
    cases hr:(iA (ps[i].1,ps[i].2) d.2).1 with
    | false =>
      have hr' : (iA ps[i] d.2).1=false:=hr
      simp only[hr',Bool.false_eq_true,if_false] at hQ
      rw[Bool.not_false,dP]
      exact hQ M3 (s3.mono (fun e h=>.inl h) (fun h=>by rcases h with h | h; exact hset.nb h; omega)) ((kk.trans k3).mono (by simp))
    | true =>
      have hr' : (iA ps[i] d.2).1=true:=hr
      have he2:(iA ps[i] d.2).2=ps[i]:=by
       have:=congrArg Prod.snd he
       exact this
      simp only[hr',if_true,he2,List.set_getElem_self] at hQ
      rw[Bool.not_true,bA]
      exact hQ M3 (s3.mono (fun e h=>.inl h) (fun h=>by rcases h with h | h; exact hset.nb h; omega)) ((kk.trans k3).mono (by simp))
   ·intro v' M3 hb3 hs3 hc3 hbk k3
    rw[bD]
    have hb2n:∀ b'∈aJ v',b'≠b:=fun b' hb' e=>by have:=hbk b' hb'; omega
    have Wl:iF T (fun e=>S e∨M.next≤e) M3 b (ps.set i (iA ps[i] d.2).2):=by
     refine⟨Nat.lt_of_lt_of_le s2.lt k3.next,by rw[List.length_set]; exact hset.len,⟨_,hb3,by simp[ad4]; omega,fun j hj=>?_⟩,fun h=>by rcases h with h | h; exact hset.nb h; omega⟩
     rw[List.length_set] at hj
     have htl:(l.take (2 * i)).length=2 * i:=by simp; omega
     by_cases hji:j=i
     ·subst hji
      refine⟨v', ?_, ?_, ?_,hc3,fun e he=>.inr (by have:=hbk e he; omega)⟩
      ·rw[List.append_assoc,List.getElem?_append_right (by omega),htl,Nat.sub_self]; simp
      ·rw[List.append_assoc,List.getElem?_append_right (by omega),htl,show 2 * j + 1 - 2 * j=1 by omega]; simp
      ·simp only[List.getElem_set_self]; exact hs3
     ·obtain⟨w,e1,e2,e3,e4,e5⟩:=hrow j hj
      have same:∀ k,(k=2 * j∨k=2 * j + 1)→(l.take (2 * i)++[N .u64 (((iA (ps[i].1,ps[i].2) d.2).2.1:Nat) : Int),v']++l.drop (2 * i + 2))[k]?=l[k]?:=fun k hk=>by
       rcases Nat.lt_or_ge k (2 * i) with h | h
       ·rw[List.append_assoc,List.getElem?_append_left (by omega),List.getElem?_take_of_lt h]
       ·rw[List.getElem?_append_right (by simp; omega),List.getElem?_drop]
        congr 1
        simp; omega
      refine⟨w, ?_, ?_, ?_,e4,fun e he=>.inl (e5 e he)⟩
      ·rw[same _ (.inl rfl),e1,List.getElem_set_ne (Ne.symm hji)]
      ·rw[same _ (.inr rfl),e2]
      ·rw[List.getElem_set_ne (Ne.symm hji)]
       exact aL.keep e3 k3 (fun e he hm=>by simp at hm; subst hm; exact hset.nb (e5 _ he))
    cases hr:(iA (ps[i].1,ps[i].2) d.2).1 with
    | false =>
      have hr' : (iA ps[i] d.2).1=false:=hr
      simp only[hr',Bool.false_eq_true,if_false] at hQ
      rw[Bool.not_false,dP]
      have e:=aeq hr'
      rw[e,List.set_getElem_self] at Wl
      exact hQ M3 Wl ((kk.mono (by simp)).trans k3)
    | true =>
      have hr' : (iA ps[i] d.2).1=true:=hr
      simp only[hr',if_true] at hQ
      rw[Bool.not_true,bA]
      exact hQ M3 Wl ((kk.mono (by simp)).trans k3)
def kI:List Pt:=List.replicate 16 (0,[])
def Zw (T:Nat) (c:ak) : Prop:=∀ {M:RM} {Q:aj},(∀ M',iF T (fun _=>False) M' M.next kI→ag [] M M'→M'.next=M.next + 1→Q (.ptr M.next 0) M')→c [] M Q
theorem aiY {T:Nat} : Zw T fun args M Q=>args=[]∧SQ T M Q:=by
 intro M Q hQ
 refine⟨rfl, ?_⟩
 unfold SQ
 rw[oH]
 refine⟨_,rfl, ?_⟩
 rw[dX rfl (by simp),bg]
 refine hQ _ ⟨by simp[RM.push],rfl,⟨_,RM.aT _,rfl,fun i hi=>?_⟩,id⟩ ((ag.refl _ _).push _) rfl
 have hi:i<16:=hi
 refine⟨di, ?_, ?_, ?_,trivial,by simp[aJ]⟩
 ·obtain rfl | rfl | rfl | rfl | rfl | rfl | rfl | rfl | rfl | rfl | rfl | rfl | rfl | rfl | rfl | rfl:i=0∨i=1∨i=2∨i=3∨i=4∨i=5∨i=6∨i=7∨i=8∨i=9∨i=10∨i=11∨i=12∨i=13∨i=14∨i=15:=by omega
  all_goals rfl
 ·obtain rfl | rfl | rfl | rfl | rfl | rfl | rfl | rfl | rfl | rfl | rfl | rfl | rfl | rfl | rfl | rfl:i=0∨i=1∨i=2∨i=3∨i=4∨i=5∨i=6∨i=7∨i=8∨i=9∨i=10∨i=11∨i=12∨i=13∨i=14∨i=15:=by omega
  all_goals rfl
 ·simp only[kI,List.getElem_replicate]; exact .nil
end Go.Ab.aH
