/- Part 4 of the ground of the proofs of this seat (texts WCrw to E1). By an AI agent. -/
import Derived.Test.YtlhlnchhaminjaaGreatApa3
set_option maxRecDepth 100000
set_option linter.unusedVariables false
set_option linter.unusedSimpArgs false
namespace Go.Ab.Crw
open Go Go.Ab
def yh (p1 p2 p3 p4:aj) (p5:Nat) (p6 p7 p8 p9 p10 p11:aj) (a0 a1 a2 a3 a4 a5:AV) (M0:RM) (Q:ah) : Prop :=
 p1 [] M0 fun t26 M =>
 dD t26 fun t27 =>
 ay t27 (
 Q (Bo false) M) (
 cK a0 fun t29 =>
 af .gtr t29 (N .i64 30) fun t30 =>
 ai t30 false (fun k=>k a5 M) (fun k=>k .undef M) fun t32 M_0 =>
 ai t30 false (fun k_1=>mE t32 fun t33 =>
 k_1 t33 M_0) (fun k=>k .undef M_0) fun t33_2 M_3 =>
 ai t30 false (fun k_4=>af .gtr t33_2 (N .i64 512) fun t34 =>
 k_4 t34 M_3) (fun k=>k .undef M_3) fun t34_5 M_6 =>
 aM t30 (Bo true) t34_5 fun t35 =>
 ay t35 (
 Q (Bo true) M_6) (
 p2 [a0] M_6 fun t37 M_7 =>
 aU (fun next xs M_8 =>
 cK t37 fun t40 =>
 af .lss (aa xs 0) t40 fun t41 =>
 ay t41 (
 au t37 (aa xs 0) 7 fun t46 =>
 aI t46 0 fun t47 =>
 aI t47 0 fun t48 =>
 ax M_8 t48 fun t49 =>
 af .geq t49 (N .i64 12) fun t50 =>
 ay t50 (
 Q (Bo true) M_8) (
 aU (fun next_9 xs_10 M_11 =>
 au t37 (aa xs 0) 7 fun t54 =>
 aI t54 6 fun t55 =>
 ax M_11 t55 fun t56 =>
 cK t56 fun t57 =>
 af .lss (aa xs_10 0) t57 fun t58 =>
 ay t58 (
 au t37 (aa xs 0) 7 fun t63 =>
 aI t63 6 fun t64 =>
 ax M_11 t64 fun t65 =>
 au t65 (aa xs_10 0) 2 fun t67 =>
 aI t67 0 fun t68 =>
 ax M_11 t68 fun t69 =>
 af .geq t69 (N .i64 12) fun t70 =>
 ay t70 (
 Q (Bo true) M_11) (
 af .add (aa xs_10 0) (N .i64 1) fun t60 =>
 next_9 [t60] M_11)) (
 af .add (aa xs 0) (N .i64 1) fun t43 =>
 next [t43] M_11)) [(N .i64 0)] M_8)) (
 p3 [t37,(N .i64 0),(Bo false)] M_8 fun t72 M_12 =>
 jA [(N .i64 0),(N .u64 0)] [(0,1,(N .i64 12)),(1,1,(N .u64 1))] fun t75 =>
 p4 [t72,t75,a1,a2,a3] M_12 fun t79 M_13 =>
 dJ t79 0 fun t80 =>
 dJ t79 1 fun t81 =>
 bZ (.row [(N .i64 0),(N .u64 0),(N .i64 0),(St []),(St []),(St []),(.sc (.slice none 0 0))] false p5 0) (fun b=>.ptr b 0) M_13 fun t17 M_14 =>
 aD M_14 t17 t80 7 fun M_15 =>
 jA [(N .i64 0),(N .u64 0)] [(0,1,(N .i64 13)),(1,1,(N .u64 1))] fun t84 =>
 p4 [t72,t84,a1,a2,a4] M_15 fun t88 M_16 =>
 dJ t88 0 fun t89 =>
 dJ t88 1 fun t90 =>
 bZ (.row [(N .i64 0),(N .u64 0),(N .i64 0),(St []),(St []),(St []),(.sc (.slice none 0 0))] false p5 0) (fun b=>.ptr b 0) M_16 fun t19 M_17 =>
 aD M_17 t19 t89 7 fun M_18 =>
 af .neq t81 (N .i64 0) fun t92 =>
 ai t92 false (fun k_19=>k_19 t90 M_18) (fun k=>k .undef M_18) fun t94 M_20 =>
 ai t92 false (fun k_21=>af .neq t94 (N .i64 0) fun t95 =>
 k_21 t95 M_20) (fun k=>k .undef M_20) fun t95_22 M_23 =>
 aM t92 (Bo true) t95_22 fun t96 =>
 ay t96 (
 Q (Bo true) M_23) (
 p6 [t72] M_23 fun t98 M_24 =>
 p6 [t72] M_24 fun t100 M_25 =>
 aB M_25 t17 7 fun t102 =>
 p7 [t98,t102] M_25 fun t103 M_26 =>
 aB M_26 t19 7 fun t105 =>
 p7 [t100,t105] M_26 fun t106 M_27 =>
 p8 [t98,t100] M_27 fun t109 M_28 =>
 p8 [t100,t98] M_28 fun t112 M_29 =>
 p9 [t98] M_29 fun t114 M_30 =>
 p10 [t114,a1,a2] M_30 fun t117 M_31 =>
 cK t117 fun t118 =>
 af .neq t118 (N .i64 2) fun t119 =>
 ai t119 false (fun k_32=>k_32 t98 M_31) (fun k=>k .undef M_31) fun t121 M_33 =>
 ai t119 false (fun k_34=>k_34 t100 M_33) (fun k=>k .undef M_33) fun t122 M_35 =>
 ai t119 false (fun k_36=>p11 [t121,t122] M_35 fun t123 M_37 =>
 k_36 t123 M_37) (fun k=>k .undef M_35) fun t123_38 M_39 =>
 ai t119 false (fun k_40=>dD t123_38 fun t124 =>
 k_40 t124 M_39) (fun k=>k .undef M_39) fun t124_41 M_42 =>
 aM t119 (Bo true) t124_41 fun t125 =>
 ay t125 (
 Q (Bo false) M_42) (
 jA [(N .i64 0),(N .u64 0)] [(0,1,(N .i64 14)),(1,1,(N .u64 1))] fun t128 =>
 p4 [t98,t128,a1,a2,a5] M_42 fun t132 M_43 =>
 dJ t132 0 fun t133 =>
 dJ t132 1 fun t134 =>
 bZ (.row [(N .i64 0),(N .u64 0),(N .i64 0),(St []),(St []),(St []),(.sc (.slice none 0 0))] false p5 0) (fun b=>.ptr b 0) M_43 fun t23 M_44 =>
 aD M_44 t23 t133 7 fun M_45 =>
 af .neq t134 (N .i64 0) fun t136 =>
 ay t136 (
 Q (Bo false) M_45) (
 aB M_45 t23 7 fun t138 =>
 p7 [t100,t138] M_45 fun t139 M_46 =>
 aB M_46 t23 7 fun t141 =>
 p7 [t72,t141] M_46 fun t142 M_47 =>
 p8 [t72,t98] M_47 fun t145 M_48 =>
 p9 [t72] M_48 fun t147 M_49 =>
 p10 [t147,a1,a2] M_49 fun t150 M_50 =>
 p11 [t72,t100] M_50 fun t153 M_51 =>
 ae t153 true (fun k_52=>k_52 t150 M_51 none) (fun k=>k .undef M_51 none) fun t155 M_53 b =>
 ae t153 true (fun k_54=>cK t155 fun t156 =>
 k_54 t156 M_53 none) (fun k=>k .undef M_53 none) fun t156_55 M_56 b_57 =>
 ae t153 true (fun k_58=>af .eql t156_55 (N .i64 1) fun t157 =>
 k_58 t157 M_56 none) (fun k=>k .undef M_56 none) fun t157_59 M_60 b_61 =>
 aM t153 t157_59 (Bo false) fun t158 =>
 ae t158 true (fun k_62=>k_62 t150 M_60 none) (fun k=>k .undef M_60 none) fun t160 M_63 b_64 =>
 ae t158 true (fun k_65=>au t160 (N .i64 0) 5 fun t161 =>
 k_65 t161 M_63 none) (fun k=>k .undef M_63 none) fun t161_66 M_67 b_68 =>
 ae t158 true (fun k_69=>aI t161_66 0 fun t162 =>
 k_69 t162 M_67 none) (fun k=>k .undef M_67 none) fun t162_70 M_71 b_72 =>
 ae t158 true (fun k_73=>aB M_71 t162_70 2 fun t163 =>
 k_73 t163 M_71 none) (fun k=>k .undef M_71 none) fun t163_74 M_75 b_76 =>
 ae t158 true (fun k_77=>aI t23 0 fun t164 =>
 k_77 t164 M_75 none) (fun k=>k .undef M_75 none) fun t164_78 M_79 b_80 =>
 ae t158 true (fun k_81=>aB M_79 t164_78 2 fun t165 =>
 k_81 t165 M_79 none) (fun k=>k .undef M_79 none) fun t165_82 M_83 b_84 =>
 ae t158 true (fun k_85=>mG false [1,1] t163_74 t165_82 fun t166 =>
 k_85 t166 M_83 none) (fun k=>k .undef M_83 none) fun t166_86 M_87 b_88 =>
 aM t158 t166_86 (Bo false) fun t167 =>
 ae t167 true (fun k_89=>k_89 t150 M_87 none) (fun k=>k .undef M_87 none) fun t169 M_90 b_91 =>
 ae t167 true (fun k_92=>au t169 (N .i64 0) 5 fun t170 =>
 k_92 t170 M_90 none) (fun k=>k .undef M_90 none) fun t170_93 M_94 b_95 =>
 ae t167 true (fun k_96=>aI t170_93 4 fun t171 =>
 k_96 t171 M_94 none) (fun k=>k .undef M_94 none) fun t171_97 M_98 b_99 =>
 ae t167 true (fun k_100=>ax M_98 t171_97 fun t172 =>
 k_100 t172 M_98 none) (fun k=>k .undef M_98 none) fun t172_101 M_102 b_103 =>
 ae t167 true (fun k_104=>k_104 a5 M_102 none) (fun k=>k .undef M_102 none) fun t173 M_105 b_106 =>
 ae t167 true (fun k_107=>iO .eql t172_101 t173 fun t174 =>
 k_107 t174 M_105 none) (fun k=>k .undef M_105 none) fun t174_108 M_109 b_110 =>
 aM t167 t174_108 (Bo false) fun t175 =>
 Q t175 M_109))))) [(N .i64 0)] M_7))
def PI (p1:aj) (p2:Nat) (M0:RM) (Q:ah) : Prop :=
 p1 [] M0 fun t1 M =>
 jA [(.sc (.pointer none)),(.sc (.slice none 0 0))] [(0,1,t1)] fun t2 =>
 gz p2 t2 fun r f =>
 bZ r f M fun t3 M_0 =>
 Q t3 M_0
def rF (p1 p2:Nat) (p3 p4:aj) (a0 a1 a2 a3 a4:AV) (M0:RM) (Q:ah) : Prop :=
 gz p1 a1 fun r f =>
 bZ r f M0 fun t6 M =>
 bZ (.row [(N .i64 0),(N .u64 0),(N .i64 0),(St []),(St []),(St []),(.sc (.slice none 0 0))] false p2 0) (fun b=>.ptr b 0) M fun bV M_0 =>
 aB M_0 t6 2 fun bO =>
 jA [(N .i64 0),(N .u64 0),(N .i64 0),(St []),(St []),(St []),(.sc (.slice none 0 0))] [(0,2,bO),(2,1,(N .i64 1)),(3,1,a2),(4,1,a3),(5,1,a4)] fun t17 =>
 bZ (.row [(N .i64 0),(N .u64 0),(N .i64 0),(St []),(St []),(St []),(.sc (.slice none 0 0))] false p2 0) (fun b=>.ptr b 0) M_0 fun t12 M_1 =>
 aD M_1 t12 t17 7 fun M_2 =>
 iO .eql a3 (St []) fun t19 =>
 ay t19 (
 jA [(N .i64 0),(N .u64 0),(N .i64 0),(St []),(St []),(St []),(.sc (.slice none 0 0))] [] fun t20 =>
 aD M_2 bV t20 7 fun M_3 =>
 aB M_3 bV 7 fun res =>
 Q (.tup [res,(N .i64 1)]) M_3) (
 aB M_2 t12 7 fun t21 =>
 p3 [a0,a2,a3] M_2 fun t25 M_4 =>
 aB M_4 t12 7 fun t21_8 =>
 (t21_8=t21∧p4 [t21,t25] M_4 fun t26 M_5 =>
 dJ t26 0 fun t27 =>
 dJ t26 1 fun t28 =>
 aD M_5 bV t27 7 fun M_6 =>
 aB M_6 bV 7 fun res_7 =>
 Q (.tup [res_7,t28]) M_6))
def uG (p1:Nat) (p2 p3:aj) (p4:Nat) (p5 p6:aj) (p7:Nat) (p8 p9:aj) (p10 p11:Nat) (p12 p13 p14:aj) (a0 a1:AV) (M0:RM) (Q:ah) : Prop :=
 gz p1 a1 fun r f =>
 bZ r f M0 fun t3 M =>
 aB M t3 7 fun t12 =>
 p2 [t12] M fun bO M_0 =>
 dD bO fun t14 =>
 ay t14 (
 Q (.tup [(Bo false),(N .i64 1)]) M_0) (
 bQ a0 fun t16 =>
 aI t16 0 fun t17 =>
 ax M_0 t17 fun t18 =>
 p3 [t18] M_0 fun t19 M_1 =>
 aI t3 0 fun t20 =>
 aB M_1 t20 2 fun t21 =>
 fO p4 1 [(N .i64 0),(N .u64 0)] [(0,2,t21)] fun r_2 f_3 =>
 bZ r_2 f_3 M_1 fun t22 M_4 =>
 aI t3 6 fun t23 =>
 ax M_4 t23 fun t24 =>
 appW p4 2 16 [(N .i64 0),(N .u64 0)] false t22 t24 M_4 fun t25 M_5 =>
 cK t25 fun t26 =>
 aU (fun next xs M_6 =>
 af .lss (aa xs 0) t26 fun t28 =>
 ay t28 (
 au t25 (aa xs 0) 2 fun t29 =>
 aB M_6 t29 2 fun t30 =>
 bZ (.row [(N .i64 0),(N .u64 0)] false p4 0) (fun b=>.ptr b 0) M_6 fun t8 M_7 =>
 aD M_7 t8 t30 2 fun M_8 =>
 aB M_8 t8 2 fun t32 =>
 p5 [t19,t32] M_8 fun t33 M_9 =>
 af .neq t33 (N .i64 0) fun t35 =>
 ay t35 (
 Q (.tup [(Bo false),t33]) M_9) (
 af .add (aa xs 0) (N .i64 1) fun t37 =>
 next [t37] M_9)) (
 bQ a0 fun t39 =>
 aI t39 1 fun t40 =>
 ax M_6 t40 fun t41 =>
 bX (fun J =>
 aI t3 2 fun t42 =>
 ax M_6 t42 fun t43 =>
 af .eql t43 (N .i64 1) fun t44 =>
 ae t44 true (fun k=>k a0 M_6 none) (fun k=>k .undef M_6 none) fun t46 M_10 b =>
 ae t44 true (fun k_11=>bQ t46 fun t47 =>
 k_11 t47 M_10 none) (fun k=>k .undef M_10 none) fun t47_12 M_13 b_14 =>
 ae t44 true (fun k_15=>aI t47_12 0 fun t48 =>
 k_15 t48 M_13 none) (fun k=>k .undef M_13 none) fun t48_16 M_17 b_18 =>
 ae t44 true (fun k_19=>ax M_17 t48_16 fun t49 =>
 k_19 t49 M_17 none) (fun k=>k .undef M_17 none) fun t49_20 M_21 b_22 =>
 ae t44 true (fun k_23=>aI t3 0 fun t50 =>
 k_23 t50 M_21 none) (fun k=>k .undef M_21 none) fun t50_24 M_25 b_26 =>
 ae t44 true (fun k_27=>aB M_25 t50_24 2 fun t51 =>
 k_27 t51 M_25 none) (fun k=>k .undef M_25 none) fun t51_28 M_29 b_30 =>
 ai t44 true (fun k_31=>p6 [t49_20,t51_28] M_29 fun t52 M_32 =>
 k_31 t52 M_32) (fun k=>k .undef M_29) fun t52_33 M_34 =>
 ae t44 true (fun k_35=>dD t52_33 fun t53 =>
 k_35 t53 M_34 none) (fun k=>k .undef M_34 none) fun t53_36 M_37 b_38 =>
 aM t44 t53_36 (Bo false) fun t54 =>
 ay t54 (
 aI t3 0 fun t57 =>
 aB M_37 t57 2 fun t58 =>
 aI t3 3 fun t59 =>
 ax M_37 t59 fun t60 =>
 aI t3 4 fun t61 =>
 ax M_37 t61 fun t62 =>
 aI t3 5 fun t63 =>
 ax M_37 t63 fun t64 =>
 jA [(N .i64 0),(N .u64 0),(St []),(St []),(St [])] [(0,2,t58),(2,1,t60),(3,1,t62),(4,1,t64)] fun t65 =>
 fO p7 1 [(N .i64 0),(N .u64 0),(St []),(St []),(St [])] [(0,5,t65)] fun r_39 f_40 =>
 xM r_39 f_40 M_37 fun t66 M_41 b_42 =>
 p8 [t41] M_41 fun t56 M_43 =>
 aB M_43 t57 2 fun t58_51 =>
 (t58_51=t58∧ax M_43 t59 fun t60_50 =>
 (t60_50=t60∧ax M_43 t61 fun t62_49 =>
 (t62_49=t62∧ax M_43 t63 fun t64_48 =>
 (t64_48=t64∧fO p7 1 [(N .i64 0),(N .u64 0),(St []),(St []),(St [])] [(0,5,t65)] fun r_46 f_47 =>
 (CZ b_42 M_43 r_46 f_47 t66∧appW p7 5 64 [(N .i64 0),(N .u64 0),(St []),(St []),(St [])] false t56 t66 M_43 fun t67 M_44 =>
 p9 [t67,(.fn (.func p10) [] [])] M_44 fun t69 M_45 =>
 J [t67] M_45)))))) (
 J [t41] M_37)) (fun xs_52 M_53 =>
 p8 [(aa xs_52 0)] M_53 fun t71 M_54 =>
 p12 [t71,(.fn (.func p11) [] [t3])] M_54 fun t73 M_55 =>
 bQ a0 fun t76 =>
 aI t76 0 fun t77 =>
 ax M_55 t77 fun t78 =>
 p13 [t19,t78] M_55 fun t79 M_56 =>
 dD t79 fun t80 =>
 ai t80 false (fun k_57=>k_57 t73 M_56) (fun k=>k .undef M_56) fun t82 M_58 =>
 ai t80 false (fun k_59=>k_59 a0 M_58) (fun k=>k .undef M_58) fun t83 M_60 =>
 ai t80 false (fun k_61=>bQ t83 fun t84 =>
 k_61 t84 M_60) (fun k=>k .undef M_60) fun t84_62 M_63 =>
 ai t80 false (fun k_64=>aI t84_62 1 fun t85 =>
 k_64 t85 M_63) (fun k=>k .undef M_63) fun t85_65 M_66 =>
 ai t80 false (fun k_67=>ax M_66 t85_65 fun t86 =>
 k_67 t86 M_66) (fun k=>k .undef M_66) fun t86_68 M_69 =>
 ai t80 false (fun k_70=>p14 [t82,t86_68] M_69 fun t87 M_71 =>
 k_70 t87 M_71) (fun k=>k .undef M_69) fun t87_72 M_73 =>
 ai t80 false (fun k_74=>dD t87_72 fun t88 =>
 k_74 t88 M_73) (fun k=>k .undef M_73) fun t88_75 M_76 =>
 aM t80 (Bo true) t88_75 fun t89 =>
 bQ a0 fun t94 =>
 aI t94 0 fun t95 =>
 aD M_76 t95 t19 1 fun M_77 =>
 bQ a0 fun t96 =>
 aI t96 1 fun t97 =>
 aD M_77 t97 t73 1 fun M_78 =>
 Q (.tup [t89,(N .i64 0)]) M_78))) [(N .i64 0)] M_5)
def LJ (p1:Nat) (p2 p3:aj) (p4:Nat) (p5:aj) (a0:AV) (M0:RM) (Q:ah) : Prop :=
 gz p1 a0 fun r f =>
 bZ r f M0 fun t1 M =>
 aI t1 0 fun t5 =>
 aB M t5 2 fun t6 =>
 p2 [t6] M fun t7 M_0 =>
 dD t7 fun t8 =>
 ai t8 false (fun k=>aI t1 3 fun bV =>
 k bV M_0) (fun k=>k .undef M_0) fun t10_1 M_2 =>
 ai t8 false (fun k_3=>ax M_2 t10_1 fun bW =>
 k_3 bW M_2) (fun k=>k .undef M_2) fun t11_4 M_5 =>
 ai t8 false (fun k_6=>aI t1 4 fun t12 =>
 k_6 t12 M_5) (fun k=>k .undef M_5) fun t12_7 M_8 =>
 ai t8 false (fun k_9=>ax M_8 t12_7 fun bO =>
 k_9 bO M_8) (fun k=>k .undef M_8) fun t13_10 M_11 =>
 ai t8 false (fun k_12=>aI t1 5 fun t14 =>
 k_12 t14 M_11) (fun k=>k .undef M_11) fun t14_13 M_14 =>
 ai t8 false (fun k_15=>ax M_14 t14_13 fun t15 =>
 k_15 t15 M_14) (fun k=>k .undef M_14) fun t15_16 M_17 =>
 ai t8 false (fun k_18=>p3 [t11_4,t13_10,t15_16] M_17 fun t16 M_19 =>
 k_18 t16 M_19) (fun k=>k .undef M_17) fun t16_20 M_21 =>
 ai t8 false (fun k_22=>dD t16_20 fun t17 =>
 k_22 t17 M_21) (fun k=>k .undef M_21) fun t17_23 M_24 =>
 aM t8 (Bo true) t17_23 fun t18 =>
 ai t18 false (fun k_25=>aI t1 6 fun t20 =>
 k_25 t20 M_24) (fun k=>k .undef M_24) fun t20_26 M_27 =>
 ai t18 false (fun k_28=>ax M_27 t20_26 fun t21 =>
 k_28 t21 M_27) (fun k=>k .undef M_27) fun t21_29 M_30 =>
 ai t18 false (fun k_31=>cK t21_29 fun t22 =>
 k_31 t22 M_30) (fun k=>k .undef M_30) fun t22_32 M_33 =>
 ai t18 false (fun k_34=>af .gtr t22_32 (N .i64 64) fun t23 =>
 k_34 t23 M_33) (fun k=>k .undef M_33) fun t23_35 M_36 =>
 aM t18 (Bo true) t23_35 fun t24 =>
 ay t24 (
 Q (Bo false) M_36) (
 aI t1 6 fun t25 =>
 ax M_36 t25 fun t26 =>
 cK t26 fun t27 =>
 aU (fun next xs M_37 =>
 af .lss (aa xs 0) t27 fun t29 =>
 ay t29 (
 au t26 (aa xs 0) 2 fun t31 =>
 aB M_37 t31 2 fun t32 =>
 bZ (.row [(N .i64 0),(N .u64 0)] false p4 0) (fun b=>.ptr b 0) M_37 fun t4 M_38 =>
 aD M_38 t4 t32 2 fun M_39 =>
 aB M_39 t4 2 fun t33 =>
 p2 [t33] M_39 fun t34 M_40 =>
 dD t34 fun t35 =>
 ae t35 false (fun k_41=>aB M_40 t4 2 fun t37 =>
 k_41 t37 M_40 none) (fun k=>k .undef M_40 none) fun t37_42 M_43 b =>
 ae t35 false (fun k_44=>aI t1 0 fun t38 =>
 k_44 t38 M_43 none) (fun k=>k .undef M_43 none) fun t38_45 M_46 b_47 =>
 ae t35 false (fun k_48=>aB M_46 t38_45 2 fun t39 =>
 k_48 t39 M_46 none) (fun k=>k .undef M_46 none) fun t39_49 M_50 b_51 =>
 ae t35 false (fun k_52=>mG false [1,1] t37_42 t39_49 fun t40 =>
 k_52 t40 M_50 none) (fun k=>k .undef M_50 none) fun t40_53 M_54 b_55 =>
 aM t35 (Bo true) t40_53 fun t41 =>
 ae t41 false (fun k_56=>k_56 (aa xs 0) M_54 none) (fun k=>k .undef M_54 none) fun t43 M_57 b_58 =>
 ae t41 false (fun k_59=>af .gtr t43 (N .i64 0) fun t44 =>
 k_59 t44 M_57 none) (fun k=>k .undef M_57 none) fun t44_60 M_61 b_62 =>
 ae t41 false (fun k_63=>k_63 t44_60 M_61 none) (fun k=>k .undef M_61 none) fun t45 M_64 b_65 =>
 ae t45 true (fun k_66=>aI t1 6 fun t46 =>
 k_66 t46 M_64 none) (fun k=>k .undef M_64 none) fun t46_67 M_68 b_69 =>
 ae t45 true (fun k_70=>ax M_68 t46_67 fun t47 =>
 k_70 t47 M_68 none) (fun k=>k .undef M_68 none) fun t47_71 M_72 b_73 =>
 ae t45 true (fun k_74=>k_74 (aa xs 0) M_72 none) (fun k=>k .undef M_72 none) fun t48 M_75 b_76 =>
 ae t45 true (fun k_77=>af .sub t48 (N .i64 1) fun t49 =>
 k_77 t49 M_75 none) (fun k=>k .undef M_75 none) fun t49_78 M_79 b_80 =>
 ae t45 true (fun k_81=>au t47_71 t49_78 2 fun t50 =>
 k_81 t50 M_79 none) (fun k=>k .undef M_79 none) fun t50_82 M_83 b_84 =>
 ae t45 true (fun k_85=>aB M_83 t50_82 2 fun t51 =>
 k_85 t51 M_83 none) (fun k=>k .undef M_83 none) fun t51_86 M_87 b_88 =>
 ae t45 true (fun k_89=>aB M_87 t4 2 fun t52 =>
 k_89 t52 M_87 none) (fun k=>k .undef M_87 none) fun t52_90 M_91 b_92 =>
 ai t45 true (fun k_93=>p5 [t51_86,t52_90] M_91 fun t53 M_94 =>
 k_93 t53 M_94) (fun k=>k .undef M_91) fun t53_95 M_96 =>
 ae t45 true (fun k_97=>dD t53_95 fun t54 =>
 k_97 t54 M_96 none) (fun k=>k .undef M_96 none) fun t54_98 M_99 b_100 =>
 ae t41 false (fun k_101=>aM t45 t54_98 (Bo false) fun t55 =>
 k_101 t55 M_99 none) (fun k=>k .undef M_99 none) fun t55_102 M_103 b_104 =>
 aM t41 (Bo true) t55_102 fun t56 =>
 ay t56 (
 Q (Bo false) M_103) (
 af .add (aa xs 0) (N .i64 1) fun t57 =>
 next [t57] M_103)) (
 aI t1 2 fun t58 =>
 ax M_37 t58 fun t59 =>
 af .eql t59 (N .i64 1) fun t60 =>
 ai t60 true (fun k_105=>aI t1 4 fun t62 =>
 k_105 t62 M_37) (fun k=>k .undef M_37) fun t62_106 M_107 =>
 ai t60 true (fun k_108=>ax M_107 t62_106 fun t63 =>
 k_108 t63 M_107) (fun k=>k .undef M_107) fun t63_109 M_110 =>
 ai t60 true (fun k_111=>iO .neq t63_109 (St []) fun t64 =>
 k_111 t64 M_110) (fun k=>k .undef M_110) fun t64_112 M_113 =>
 aM t60 t64_112 (Bo false) fun t65 =>
 ai t65 false (fun k_114=>aI t1 2 fun t67 =>
 k_114 t67 M_113) (fun k=>k .undef M_113) fun t67_115 M_116 =>
 ai t65 false (fun k_117=>ax M_116 t67_115 fun t68 =>
 k_117 t68 M_116) (fun k=>k .undef M_116) fun t68_118 M_119 =>
 ai t65 false (fun k_120=>af .eql t68_118 (N .i64 2) fun t69 =>
 k_120 t69 M_119) (fun k=>k .undef M_119) fun t69_121 M_122 =>
 ai t65 false (fun k_123=>k_123 t69_121 M_122) (fun k=>k .undef M_122) fun t70 M_124 =>
 ai t70 true (fun k_125=>aI t1 5 fun t71 =>
 k_125 t71 M_124) (fun k=>k .undef M_124) fun t71_126 M_127 =>
 ai t70 true (fun k_128=>ax M_127 t71_126 fun t72 =>
 k_128 t72 M_127) (fun k=>k .undef M_127) fun t72_129 M_130 =>
 ai t70 true (fun k_131=>iO .eql t72_129 (St []) fun t73 =>
 k_131 t73 M_130) (fun k=>k .undef M_130) fun t73_132 M_133 =>
 ai t65 false (fun k_134=>aM t70 t73_132 (Bo false) fun t74 =>
 k_134 t74 M_133) (fun k=>k .undef M_133) fun t74_135 M_136 =>
 aM t65 (Bo true) t74_135 fun t75 =>
 Q t75 M_136)) [(N .i64 0)] M_36)
def qK (p1:aj) (a0:AV) (M0:RM) (Q:ah) : Prop :=
 bQ a0 fun t4 =>
 aI t4 1 fun t5 =>
 ax M0 t5 fun t6 =>
 p1 [t6] M0 fun t7 M =>
 Q t7 M
def O7 (p1:Nat) (p2:aj) (a0:AV) (M0:RM) (Q:ah) : Prop :=
 PR p1 96 [(N .i64 0),(N .u64 0),(N .i64 0),(St []),(St []),(St []),(.sc (.slice none 0 0))] (N .i64 0) (N .i64 0) fun r f =>
 bZ r f M0 fun t7 M =>
 aU (fun next xs M_0 =>
 cK a0 fun bV =>
 af .lss (aa xs 1) bV fun bW =>
 ay bW (
 bX (fun J =>
 au a0 (aa xs 1) 7 fun t16 =>
 aB M_0 t16 7 fun t17 =>
 p2 [t17] M_0 fun t18 M_1 =>
 dD t18 fun t19 =>
 aU (fun next_2 xs_3 M_4 =>
 cK (aa xs 0) fun t22 =>
 af .lss (aa xs_3 1) t22 fun t23 =>
 ay t23 (
 ae (aa xs_3 0) false (fun k=>k (aa xs 0) M_4 none) (fun k=>k .undef M_4 none) fun t28 M_5 b =>
 ae (aa xs_3 0) false (fun k_6=>k_6 (aa xs_3 1) M_5 none) (fun k=>k .undef M_5 none) fun t29 M_7 b_8 =>
 ae (aa xs_3 0) false (fun k_9=>au t28 t29 7 fun t30 =>
 k_9 t30 M_7 none) (fun k=>k .undef M_7 none) fun t30_10 M_11 b_12 =>
 ae (aa xs_3 0) false (fun k_13=>aI t30_10 0 fun t31 =>
 k_13 t31 M_11 none) (fun k=>k .undef M_11 none) fun t31_14 M_15 b_16 =>
 ae (aa xs_3 0) false (fun k_17=>aB M_15 t31_14 2 fun t32 =>
 k_17 t32 M_15 none) (fun k=>k .undef M_15 none) fun t32_18 M_19 b_20 =>
 ae (aa xs_3 0) false (fun k_21=>k_21 a0 M_19 none) (fun k=>k .undef M_19 none) fun t33 M_22 b_23 =>
 ae (aa xs_3 0) false (fun k_24=>k_24 (aa xs 1) M_22 none) (fun k=>k .undef M_22 none) fun t34 M_25 b_26 =>
 ae (aa xs_3 0) false (fun k_27=>au t33 t34 7 fun t35 =>
 k_27 t35 M_25 none) (fun k=>k .undef M_25 none) fun t35_28 M_29 b_30 =>
 ae (aa xs_3 0) false (fun k_31=>aI t35_28 0 fun t36 =>
 k_31 t36 M_29 none) (fun k=>k .undef M_29 none) fun t36_32 M_33 b_34 =>
 ae (aa xs_3 0) false (fun k_35=>aB M_33 t36_32 2 fun t37 =>
 k_35 t37 M_33 none) (fun k=>k .undef M_33 none) fun t37_36 M_37 b_38 =>
 ae (aa xs_3 0) false (fun k_39=>mG false [1,1] t32_18 t37_36 fun t38 =>
 k_39 t38 M_37 none) (fun k=>k .undef M_37 none) fun t38_40 M_41 b_42 =>
 aM (aa xs_3 0) (Bo true) t38_40 fun t39 =>
 af .add (aa xs_3 1) (N .i64 1) fun t25 =>
 next_2 [t39,t25] M_41) (
 dD (aa xs_3 0) fun t41 =>
 ay t41 (
 au a0 (aa xs 1) 7 fun t45 =>
 aB M_4 t45 7 fun t46 =>
 fO p1 1 [(N .i64 0),(N .u64 0),(N .i64 0),(St []),(St []),(St []),(.sc (.slice none 0 0))] [(0,7,t46)] fun r_43 f_44 =>
 bZ r_43 f_44 M_4 fun t47 M_45 =>
 appW p1 7 96 [(N .i64 0),(N .u64 0),(N .i64 0),(St []),(St []),(St []),(.sc (.slice none 0 0))] false (aa xs 0) t47 M_45 fun t48 M_46 =>
 J [t48] M_46) (
 J [(aa xs 0)] M_4))) [t19,(N .i64 0)] M_1) (fun xs_47 M_48 =>
 af .add (aa xs 1) (N .i64 1) fun bO =>
 next [(aa xs_47 0),bO] M_48)) (
 Q (aa xs 0) M_0)) [t7,(N .i64 0)] M
def xV (p1:Nat) (p2 p3:aj) (a0:AV) (M0:RM) (Q:ah) : Prop :=
 gz p1 a0 fun r f =>
 bZ r f M0 fun t1 M =>
 aI t1 0 fun t4 =>
 aB M t4 2 fun t5 =>
 p2 [t5] M fun t6 M_0 =>
 dD t6 fun t7 =>
 ai t7 false (fun k=>aI t1 2 fun t9 =>
 k t9 M_0) (fun k=>k .undef M_0) fun t9_1 M_2 =>
 ai t7 false (fun k_3=>ax M_2 t9_1 fun bV =>
 k_3 bV M_2) (fun k=>k .undef M_2) fun t10_4 M_5 =>
 ai t7 false (fun k_6=>af .neq t10_4 (N .i64 1) fun bW =>
 k_6 bW M_5) (fun k=>k .undef M_5) fun t11_7 M_8 =>
 ai t7 false (fun k_9=>k_9 t11_7 M_8) (fun k=>k .undef M_8) fun t12 M_10 =>
 ai t12 true (fun k_11=>aI t1 2 fun bO =>
 k_11 bO M_10) (fun k=>k .undef M_10) fun t13_12 M_13 =>
 ai t12 true (fun k_14=>ax M_13 t13_12 fun t14 =>
 k_14 t14 M_13) (fun k=>k .undef M_13) fun t14_15 M_16 =>
 ai t12 true (fun k_17=>af .neq t14_15 (N .i64 2) fun t15 =>
 k_17 t15 M_16) (fun k=>k .undef M_16) fun t15_18 M_19 =>
 ai t7 false (fun k_20=>aM t12 t15_18 (Bo false) fun t16 =>
 k_20 t16 M_19) (fun k=>k .undef M_19) fun t16_21 M_22 =>
 aM t7 (Bo true) t16_21 fun t17 =>
 ai t17 false (fun k_23=>aI t1 3 fun t19 =>
 k_23 t19 M_22) (fun k=>k .undef M_22) fun t19_24 M_25 =>
 ai t17 false (fun k_26=>ax M_25 t19_24 fun t20 =>
 k_26 t20 M_25) (fun k=>k .undef M_25) fun t20_27 M_28 =>
 ai t17 false (fun k_29=>mE t20_27 fun t21 =>
 k_29 t21 M_28) (fun k=>k .undef M_28) fun t21_30 M_31 =>
 ai t17 false (fun k_32=>af .lss t21_30 (N .i64 1) fun t22 =>
 k_32 t22 M_31) (fun k=>k .undef M_31) fun t22_33 M_34 =>
 aM t17 (Bo true) t22_33 fun t23 =>
 ai t23 false (fun k_35=>aI t1 3 fun t25 =>
 k_35 t25 M_34) (fun k=>k .undef M_34) fun t25_36 M_37 =>
 ai t23 false (fun k_38=>ax M_37 t25_36 fun t26 =>
 k_38 t26 M_37) (fun k=>k .undef M_37) fun t26_39 M_40 =>
 ai t23 false (fun k_41=>mE t26_39 fun t27 =>
 k_41 t27 M_40) (fun k=>k .undef M_40) fun t27_42 M_43 =>
 ai t23 false (fun k_44=>af .gtr t27_42 (N .i64 64) fun t28 =>
 k_44 t28 M_43) (fun k=>k .undef M_43) fun t28_45 M_46 =>
 aM t23 (Bo true) t28_45 fun t29 =>
 ai t29 false (fun k_47=>aI t1 4 fun t31 =>
 k_47 t31 M_46) (fun k=>k .undef M_46) fun t31_48 M_49 =>
 ai t29 false (fun k_50=>ax M_49 t31_48 fun t32 =>
 k_50 t32 M_49) (fun k=>k .undef M_49) fun t32_51 M_52 =>
 ai t29 false (fun k_53=>mE t32_51 fun t33 =>
 k_53 t33 M_52) (fun k=>k .undef M_52) fun t33_54 M_55 =>
 ai t29 false (fun k_56=>af .gtr t33_54 (N .i64 64) fun t34 =>
 k_56 t34 M_55) (fun k=>k .undef M_55) fun t34_57 M_58 =>
 aM t29 (Bo true) t34_57 fun t35 =>
 ai t35 false (fun k_59=>aI t1 5 fun t37 =>
 k_59 t37 M_58) (fun k=>k .undef M_58) fun t37_60 M_61 =>
 ai t35 false (fun k_62=>ax M_61 t37_60 fun t38 =>
 k_62 t38 M_61) (fun k=>k .undef M_61) fun t38_63 M_64 =>
 ai t35 false (fun k_65=>mE t38_63 fun t39 =>
 k_65 t39 M_64) (fun k=>k .undef M_64) fun t39_66 M_67 =>
 ai t35 false (fun k_68=>af .gtr t39_66 (N .i64 512) fun t40 =>
 k_68 t40 M_67) (fun k=>k .undef M_67) fun t40_69 M_70 =>
 aM t35 (Bo true) t40_69 fun t41 =>
 ai t41 false (fun k_71=>aI t1 6 fun t43 =>
 k_71 t43 M_70) (fun k=>k .undef M_70) fun t43_72 M_73 =>
 ai t41 false (fun k_74=>ax M_73 t43_72 fun t44 =>
 k_74 t44 M_73) (fun k=>k .undef M_73) fun t44_75 M_76 =>
 ai t41 false (fun k_77=>cK t44_75 fun t45 =>
 k_77 t45 M_76) (fun k=>k .undef M_76) fun t45_78 M_79 =>
 ai t41 false (fun k_80=>af .gtr t45_78 (N .i64 64) fun t46 =>
 k_80 t46 M_79) (fun k=>k .undef M_79) fun t46_81 M_82 =>
 aM t41 (Bo true) t46_81 fun t47 =>
 ay t47 (
 Q (Bo false) M_82) (
 aI t1 2 fun t48 =>
 ax M_82 t48 fun t49 =>
 af .eql t49 (N .i64 1) fun t50 =>
 ai t50 true (fun k_83=>aI t1 4 fun t52 =>
 k_83 t52 M_82) (fun k=>k .undef M_82) fun t52_84 M_85 =>
 ai t50 true (fun k_86=>ax M_85 t52_84 fun t53 =>
 k_86 t53 M_85) (fun k=>k .undef M_85) fun t53_87 M_88 =>
 ai t50 true (fun k_89=>iO .eql t53_87 (St []) fun t54 =>
 k_89 t54 M_88) (fun k=>k .undef M_88) fun t54_90 M_91 =>
 aM t50 t54_90 (Bo false) fun t55 =>
 ai t55 false (fun k_92=>aI t1 2 fun t57 =>
 k_92 t57 M_91) (fun k=>k .undef M_91) fun t57_93 M_94 =>
 ai t55 false (fun k_95=>ax M_94 t57_93 fun t58 =>
 k_95 t58 M_94) (fun k=>k .undef M_94) fun t58_96 M_97 =>
 ai t55 false (fun k_98=>af .eql t58_96 (N .i64 2) fun t59 =>
 k_98 t59 M_97) (fun k=>k .undef M_97) fun t59_99 M_100 =>
 ai t55 false (fun k_101=>k_101 t59_99 M_100) (fun k=>k .undef M_100) fun t60 M_102 =>
 ai t60 true (fun k_103=>aI t1 5 fun t61 =>
 k_103 t61 M_102) (fun k=>k .undef M_102) fun t61_104 M_105 =>
 ai t60 true (fun k_106=>ax M_105 t61_104 fun t62 =>
 k_106 t62 M_105) (fun k=>k .undef M_105) fun t62_107 M_108 =>
 ai t60 true (fun k_109=>iO .neq t62_107 (St []) fun t63 =>
 k_109 t63 M_108) (fun k=>k .undef M_108) fun t63_110 M_111 =>
 ai t55 false (fun k_112=>aM t60 t63_110 (Bo false) fun t64 =>
 k_112 t64 M_111) (fun k=>k .undef M_111) fun t64_113 M_114 =>
 aM t55 (Bo true) t64_113 fun t65 =>
 ay t65 (
 Q (Bo false) M_114) (
 aU (fun next xs M_115 =>
 aI t1 6 fun t67 =>
 ax M_115 t67 fun t68 =>
 cK t68 fun t69 =>
 af .lss (aa xs 0) t69 fun t70 =>
 ay t70 (
 aI t1 6 fun t73 =>
 ax M_115 t73 fun t74 =>
 au t74 (aa xs 0) 2 fun t76 =>
 aB M_115 t76 2 fun t77 =>
 p2 [t77] M_115 fun t78 M_116 =>
 dD t78 fun t79 =>
 ae t79 false (fun k_117=>aI t1 6 fun t81 =>
 k_117 t81 M_116 none) (fun k=>k .undef M_116 none) fun t81_118 M_119 b =>
 ae t79 false (fun k_120=>ax M_119 t81_118 fun t82 =>
 k_120 t82 M_119 none) (fun k=>k .undef M_119 none) fun t82_121 M_122 b_123 =>
 ae t79 false (fun k_124=>k_124 (aa xs 0) M_122 none) (fun k=>k .undef M_122 none) fun t83 M_125 b_126 =>
 ae t79 false (fun k_127=>au t82_121 t83 2 fun t84 =>
 k_127 t84 M_125 none) (fun k=>k .undef M_125 none) fun t84_128 M_129 b_130 =>
 ae t79 false (fun k_131=>aB M_129 t84_128 2 fun t85 =>
 k_131 t85 M_129 none) (fun k=>k .undef M_129 none) fun t85_132 M_133 b_134 =>
 ae t79 false (fun k_135=>aI t1 0 fun t86 =>
 k_135 t86 M_133 none) (fun k=>k .undef M_133 none) fun t86_136 M_137 b_138 =>
 ae t79 false (fun k_139=>aB M_137 t86_136 2 fun t87 =>
 k_139 t87 M_137 none) (fun k=>k .undef M_137 none) fun t87_140 M_141 b_142 =>
 ae t79 false (fun k_143=>mG false [1,1] t85_132 t87_140 fun t88 =>
 k_143 t88 M_141 none) (fun k=>k .undef M_141 none) fun t88_144 M_145 b_146 =>
 aM t79 (Bo true) t88_144 fun t89 =>
 ae t89 false (fun k_147=>k_147 (aa xs 0) M_145 none) (fun k=>k .undef M_145 none) fun t91 M_148 b_149 =>
 ae t89 false (fun k_150=>af .gtr t91 (N .i64 0) fun t92 =>
 k_150 t92 M_148 none) (fun k=>k .undef M_148 none) fun t92_151 M_152 b_153 =>
 ae t89 false (fun k_154=>k_154 t92_151 M_152 none) (fun k=>k .undef M_152 none) fun t93 M_155 b_156 =>
 ae t93 true (fun k_157=>aI t1 6 fun t94 =>
 k_157 t94 M_155 none) (fun k=>k .undef M_155 none) fun t94_158 M_159 b_160 =>
 ae t93 true (fun k_161=>ax M_159 t94_158 fun t95 =>
 k_161 t95 M_159 none) (fun k=>k .undef M_159 none) fun t95_162 M_163 b_164 =>
 ae t93 true (fun k_165=>k_165 (aa xs 0) M_163 none) (fun k=>k .undef M_163 none) fun t96 M_166 b_167 =>
 ae t93 true (fun k_168=>af .sub t96 (N .i64 1) fun t97 =>
 k_168 t97 M_166 none) (fun k=>k .undef M_166 none) fun t97_169 M_170 b_171 =>
 ae t93 true (fun k_172=>au t95_162 t97_169 2 fun t98 =>
 k_172 t98 M_170 none) (fun k=>k .undef M_170 none) fun t98_173 M_174 b_175 =>
 ae t93 true (fun k_176=>aB M_174 t98_173 2 fun t99 =>
 k_176 t99 M_174 none) (fun k=>k .undef M_174 none) fun t99_177 M_178 b_179 =>
 ae t93 true (fun k_180=>aI t1 6 fun t100 =>
 k_180 t100 M_178 none) (fun k=>k .undef M_178 none) fun t100_181 M_182 b_183 =>
 ae t93 true (fun k_184=>ax M_182 t100_181 fun t101 =>
 k_184 t101 M_182 none) (fun k=>k .undef M_182 none) fun t101_185 M_186 b_187 =>
 ae t93 true (fun k_188=>k_188 (aa xs 0) M_186 none) (fun k=>k .undef M_186 none) fun t102 M_189 b_190 =>
 ae t93 true (fun k_191=>au t101_185 t102 2 fun t103 =>
 k_191 t103 M_189 none) (fun k=>k .undef M_189 none) fun t103_192 M_193 b_194 =>
 ae t93 true (fun k_195=>aB M_193 t103_192 2 fun t104 =>
 k_195 t104 M_193 none) (fun k=>k .undef M_193 none) fun t104_196 M_197 b_198 =>
 ai t93 true (fun k_199=>p3 [t99_177,t104_196] M_197 fun t105 M_200 =>
 k_199 t105 M_200) (fun k=>k .undef M_197) fun t105_201 M_202 =>
 ae t93 true (fun k_203=>dD t105_201 fun t106 =>
 k_203 t106 M_202 none) (fun k=>k .undef M_202 none) fun t106_204 M_205 b_206 =>
 ae t89 false (fun k_207=>aM t93 t106_204 (Bo false) fun t107 =>
 k_207 t107 M_205 none) (fun k=>k .undef M_205 none) fun t107_208 M_209 b_210 =>
 aM t89 (Bo true) t107_208 fun t108 =>
 ay t108 (
 Q (Bo false) M_209) (
 af .add (aa xs 0) (N .i64 1) fun t72 =>
 next [t72] M_209)) (
 Q (Bo true) M_115)) [(N .i64 0)] M_114))
def IQ (p1 p2:aj) (a0 a1 a2:AV) (M0:RM) (Q:ah) : Prop :=
 p1 [] M0 fun bV M =>
 aU (fun next xs M_0 =>
 cK a0 fun bO =>
 af .lss (aa xs 0) bO fun t14 =>
 ay t14 (
 bX (fun J =>
 af .and a1 (N .i64 1023) fun t19 =>
 af .add (aa xs 0) t19 fun t20 =>
 cK a0 fun t22 =>
 af .rem t20 t22 fun t23 =>
 bX (fun J_1 =>
 ay a2 (
 cK a0 fun t26 =>
 af .sub t26 (N .i64 1) fun t27 =>
 af .sub t27 t23 fun t29 =>
 J_1 [t29] M_0) (
 J_1 [t23] M_0)) (fun xs_2 M_3 =>
 au a0 (aa xs_2 0) 7 fun t33 =>
 aB M_3 t33 7 fun t34 =>
 p2 [bV,t34] M_3 fun t35 M_4 =>
 J [] M_4)) (fun xs_5 M_6 =>
 af .add (aa xs 0) (N .i64 1) fun t16 =>
 next [t16] M_6)) (
 Q bV M_0)) [(N .i64 0)] M
def wN (p1 p2:aj) (a0 a1:AV) (M0:RM) (Q:ah) : Prop :=
 bQ a0 fun t6 =>
 aI t6 1 fun t7 =>
 ax M0 t7 fun t8 =>
 bQ a1 fun bV =>
 aI bV 1 fun bW =>
 ax M0 bW fun t12 =>
 p1 [t8,t12] M0 fun bO M =>
 ae bO true (fun k=>k a0 M none) (fun k=>k .undef M none) fun t15 M_0 b =>
 ae bO true (fun k_1=>bQ t15 fun t16 =>
 k_1 t16 M_0 none) (fun k=>k .undef M_0 none) fun t16_2 M_3 b_4 =>
 ae bO true (fun k_5=>aI t16_2 0 fun t17 =>
 k_5 t17 M_3 none) (fun k=>k .undef M_3 none) fun t17_6 M_7 b_8 =>
 ae bO true (fun k_9=>ax M_7 t17_6 fun t18 =>
 k_9 t18 M_7 none) (fun k=>k .undef M_7 none) fun t18_10 M_11 b_12 =>
 ae bO true (fun k_13=>k_13 a1 M_11 none) (fun k=>k .undef M_11 none) fun t19 M_14 b_15 =>
 ae bO true (fun k_16=>bQ t19 fun t20 =>
 k_16 t20 M_14 none) (fun k=>k .undef M_14 none) fun t20_17 M_18 b_19 =>
 ae bO true (fun k_20=>aI t20_17 0 fun t21 =>
 k_20 t21 M_18 none) (fun k=>k .undef M_18 none) fun t21_21 M_22 b_23 =>
 ae bO true (fun k_24=>ax M_22 t21_21 fun t22 =>
 k_24 t22 M_22 none) (fun k=>k .undef M_22 none) fun t22_25 M_26 b_27 =>
 ai bO true (fun k_28=>p2 [t18_10,t22_25] M_26 fun t23 M_29 =>
 k_28 t23 M_29) (fun k=>k .undef M_26) fun t23_30 M_31 =>
 aM bO t23_30 (Bo false) fun t24 =>
 ae t24 true (fun k_32=>k_32 a1 M_31 none) (fun k=>k .undef M_31 none) fun t26 M_33 b_34 =>
 ae t24 true (fun k_35=>bQ t26 fun t27 =>
 k_35 t27 M_33 none) (fun k=>k .undef M_33 none) fun t27_36 M_37 b_38 =>
 ae t24 true (fun k_39=>aI t27_36 0 fun t28 =>
 k_39 t28 M_37 none) (fun k=>k .undef M_37 none) fun t28_40 M_41 b_42 =>
 ae t24 true (fun k_43=>ax M_41 t28_40 fun t29 =>
 k_43 t29 M_41 none) (fun k=>k .undef M_41 none) fun t29_44 M_45 b_46 =>
 ae t24 true (fun k_47=>k_47 a0 M_45 none) (fun k=>k .undef M_45 none) fun t30 M_48 b_49 =>
 ae t24 true (fun k_50=>bQ t30 fun t31 =>
 k_50 t31 M_48 none) (fun k=>k .undef M_48 none) fun t31_51 M_52 b_53 =>
 ae t24 true (fun k_54=>aI t31_51 0 fun t32 =>
 k_54 t32 M_52 none) (fun k=>k .undef M_52 none) fun t32_55 M_56 b_57 =>
 ae t24 true (fun k_58=>ax M_56 t32_55 fun t33 =>
 k_58 t33 M_56 none) (fun k=>k .undef M_56 none) fun t33_59 M_60 b_61 =>
 ai t24 true (fun k_62=>p2 [t29_44,t33_59] M_60 fun t34 M_63 =>
 k_62 t34 M_63) (fun k=>k .undef M_60) fun t34_64 M_65 =>
 aM t24 t34_64 (Bo false) fun t35 =>
 Q t35 M_65
def wz (p1 p2:aj) (p3:Nat) (a0:AV) (M0:RM) (Q:ah) : Prop :=
 bQ a0 fun t4 =>
 aI t4 0 fun t5 =>
 ax M0 t5 fun t6 =>
 bQ a0 fun t9 =>
 aI t9 1 fun bV =>
 ax M0 bV fun bW =>
 p1 [t6] M0 fun t7 M =>
 ax M bV fun t11_2 =>
 (t11_2=bW∧p2 [bW] M fun t12 M_0 =>
 jA [(.sc (.pointer none)),(.sc (.slice none 0 0))] [(0,1,t7),(1,1,t12)] fun bO =>
 gz p3 bO fun r f =>
 xM r f M_0 fun t14 M_1 b =>
 Q t14 M_1)
def vI (p1:Nat) (p2 p3 p4:aj) (p5:Nat) (p6:aj) (a0 a1:AV) (M0:RM) (Q:ah) : Prop :=
 bQ a0 fun bV =>
 aI bV 1 fun bW =>
 ax M0 bW fun t12 =>
 cK t12 fun bO =>
 aU (fun next xs M =>
 af .lss (aa xs 1) bO fun t15 =>
 ay t15 (
 bX (fun J =>
 au t12 (aa xs 1) 5 fun t16 =>
 aB M t16 5 fun t17 =>
 bZ (.row [(N .i64 0),(N .u64 0),(St []),(St []),(St [])] false p1 0) (fun b=>.ptr b 0) M fun t6 M_0 =>
 aD M_0 t6 t17 5 fun M_1 =>
 aB M_1 t6 5 fun t19 =>
 p2 [a1,t19] M_1 fun t20 M_2 =>
 ae t20 false (fun k=>k a1 M_2 none) (fun k=>k .undef M_2 none) fun t22 M_3 b =>
 ae t20 false (fun k_4=>bQ t22 fun t23 =>
 k_4 t23 M_3 none) (fun k=>k .undef M_3 none) fun t23_5 M_6 b_7 =>
 ae t20 false (fun k_8=>aI t23_5 0 fun t24 =>
 k_8 t24 M_6 none) (fun k=>k .undef M_6 none) fun t24_9 M_10 b_11 =>
 ae t20 false (fun k_12=>ax M_10 t24_9 fun t25 =>
 k_12 t25 M_10 none) (fun k=>k .undef M_10 none) fun t25_13 M_14 b_15 =>
 ae t20 false (fun k_16=>aI t6 0 fun t26 =>
 k_16 t26 M_14 none) (fun k=>k .undef M_14 none) fun t26_17 M_18 b_19 =>
 ae t20 false (fun k_20=>aB M_18 t26_17 2 fun t27 =>
 k_20 t27 M_18 none) (fun k=>k .undef M_18 none) fun t27_21 M_22 b_23 =>
 ai t20 false (fun k_24=>p3 [t25_13,t27_21] M_22 fun t28 M_25 =>
 k_24 t28 M_25) (fun k=>k .undef M_22) fun t28_26 M_27 =>
 ae t20 false (fun k_28=>dD t28_26 fun t29 =>
 k_28 t29 M_27 none) (fun k=>k .undef M_27 none) fun t29_29 M_30 b_31 =>
 aM t20 (Bo true) t29_29 fun t30 =>
 ay t30 (
 aB M_30 t6 5 fun t32 =>
 fO p1 1 [(N .i64 0),(N .u64 0),(St []),(St []),(St [])] [(0,5,t32)] fun r f =>
 bZ r f M_30 fun t33 M_32 =>
 appW p1 5 64 [(N .i64 0),(N .u64 0),(St []),(St []),(St [])] false (aa xs 0) t33 M_32 fun t34 M_33 =>
 J [t34] M_33) (
 J [(aa xs 0)] M_30)) (fun xs_34 M_35 =>
 af .add (aa xs 1) (N .i64 1) fun t35 =>
 next [(aa xs_34 0),t35] M_35)) (
 bQ a1 fun t37 =>
 aI t37 1 fun t38 =>
 ax M t38 fun t39 =>
 cK t39 fun t40 =>
 aU (fun next_36 xs_37 M_38 =>
 af .lss (aa xs_37 1) t40 fun t42 =>
 ay t42 (
 bX (fun J_39 =>
 au t39 (aa xs_37 1) 5 fun t43 =>
 aB M_38 t43 5 fun t44 =>
 bZ (.row [(N .i64 0),(N .u64 0),(St []),(St []),(St [])] false p1 0) (fun b=>.ptr b 0) M_38 fun t8 M_40 =>
 aD M_40 t8 t44 5 fun M_41 =>
 aB M_41 t8 5 fun t46 =>
 p2 [a0,t46] M_41 fun t47 M_42 =>
 dD t47 fun t48 =>
 ae t48 true (fun k_43=>k_43 a0 M_42 none) (fun k=>k .undef M_42 none) fun t50 M_44 b_45 =>
 ae t48 true (fun k_46=>bQ t50 fun t51 =>
 k_46 t51 M_44 none) (fun k=>k .undef M_44 none) fun t51_47 M_48 b_49 =>
 ae t48 true (fun k_50=>aI t51_47 0 fun t52 =>
 k_50 t52 M_48 none) (fun k=>k .undef M_48 none) fun t52_51 M_52 b_53 =>
 ae t48 true (fun k_54=>ax M_52 t52_51 fun t53 =>
 k_54 t53 M_52 none) (fun k=>k .undef M_52 none) fun t53_55 M_56 b_57 =>
 ae t48 true (fun k_58=>aI t8 0 fun t54 =>
 k_58 t54 M_56 none) (fun k=>k .undef M_56 none) fun t54_59 M_60 b_61 =>
 ae t48 true (fun k_62=>aB M_60 t54_59 2 fun t55 =>
 k_62 t55 M_60 none) (fun k=>k .undef M_60 none) fun t55_63 M_64 b_65 =>
 ai t48 true (fun k_66=>p3 [t53_55,t55_63] M_64 fun t56 M_67 =>
 k_66 t56 M_67) (fun k=>k .undef M_64) fun t56_68 M_69 =>
 ae t48 true (fun k_70=>dD t56_68 fun t57 =>
 k_70 t57 M_69 none) (fun k=>k .undef M_69 none) fun t57_71 M_72 b_73 =>
 aM t48 t57_71 (Bo false) fun t58 =>
 ay t58 (
 aB M_72 t8 5 fun t60 =>
 fO p1 1 [(N .i64 0),(N .u64 0),(St []),(St []),(St [])] [(0,5,t60)] fun r_74 f_75 =>
 bZ r_74 f_75 M_72 fun t61 M_76 =>
 appW p1 5 64 [(N .i64 0),(N .u64 0),(St []),(St []),(St [])] false (aa xs_37 0) t61 M_76 fun t62 M_77 =>
 J_39 [t62] M_77) (
 J_39 [(aa xs_37 0)] M_72)) (fun xs_78 M_79 =>
 af .add (aa xs_37 1) (N .i64 1) fun t63 =>
 next_36 [(aa xs_78 0),t63] M_79)) (
 p4 [(aa xs_37 0),(.fn (.func p5) [] [])] M_38 fun t65 M_80 =>
 bQ a0 fun t68 =>
 aI t68 1 fun t69 =>
 aD M_80 t69 (aa xs_37 0) 1 fun M_81 =>
 bQ a0 fun t71 =>
 aI t71 0 fun t72 =>
 ax M_81 t72 fun t73 =>
 bQ a1 fun t75 =>
 aI t75 0 fun t76 =>
 ax M_81 t76 fun t77 =>
 p6 [t73,t77] M_81 fun t78 M_82 =>
 Q (.tup []) M_82)) [(aa xs 0),(N .i64 0)] M)) [(.sc (.slice none 0 0)),(N .i64 0)] M0
def TV (p1:Nat) (a0 a1 a2:AV) (M0:RM) (Q:ah) : Prop :=
 PR p1 64 [(N .i64 0),(N .u64 0),(St []),(St []),(St [])] (N .i64 0) (N .i64 0) fun r f =>
 bZ r f M0 fun t9 M =>
 aU (fun next xs M_0 =>
 cK a0 fun t12 =>
 af .lss (aa xs 1) t12 fun bO =>
 ay bO (
 bX (fun J =>
 au a0 (aa xs 1) 5 fun t18 =>
 aI t18 2 fun t19 =>
 ax M_0 t19 fun t20 =>
 iO .eql t20 a1 fun t22 =>
 ai t22 true (fun k=>k a2 M_0) (fun k=>k .undef M_0) fun t24 M_1 =>
 ai t22 true (fun k_2=>iO .eql t24 (St []) fun t25 =>
 k_2 t25 M_1) (fun k=>k .undef M_1) fun t25_3 M_4 =>
 ai t22 true (fun k_5=>k_5 t25_3 M_4) (fun k=>k .undef M_4) fun t26 M_6 =>
 ai t26 false (fun k_7=>k_7 a0 M_6) (fun k=>k .undef M_6) fun t27 M_8 =>
 ai t26 false (fun k_9=>k_9 (aa xs 1) M_8) (fun k=>k .undef M_8) fun t28 M_10 =>
 ai t26 false (fun k_11=>au t27 t28 5 fun t29 =>
 k_11 t29 M_10) (fun k=>k .undef M_10) fun t29_12 M_13 =>
 ai t26 false (fun k_14=>aI t29_12 3 fun t30 =>
 k_14 t30 M_13) (fun k=>k .undef M_13) fun t30_15 M_16 =>
 ai t26 false (fun k_17=>ax M_16 t30_15 fun t31 =>
 k_17 t31 M_16) (fun k=>k .undef M_16) fun t31_18 M_19 =>
 ai t26 false (fun k_20=>k_20 a2 M_19) (fun k=>k .undef M_19) fun t32 M_21 =>
 ai t26 false (fun k_22=>iO .eql t31_18 t32 fun t33 =>
 k_22 t33 M_21) (fun k=>k .undef M_21) fun t33_23 M_24 =>
 ai t22 true (fun k_25=>aM t26 (Bo true) t33_23 fun t34 =>
 k_25 t34 M_24) (fun k=>k .undef M_24) fun t34_26 M_27 =>
 aM t22 t34_26 (Bo false) fun t35 =>
 ay t35 (
 au a0 (aa xs 1) 5 fun t39 =>
 aB M_27 t39 5 fun t40 =>
 fO p1 1 [(N .i64 0),(N .u64 0),(St []),(St []),(St [])] [(0,5,t40)] fun r_28 f_29 =>
 bZ r_28 f_29 M_27 fun t41 M_30 =>
 appW p1 5 64 [(N .i64 0),(N .u64 0),(St []),(St []),(St [])] false (aa xs 0) t41 M_30 fun t42 M_31 =>
 J [t42] M_31) (
 J [(aa xs 0)] M_27)) (fun xs_32 M_33 =>
 af .add (aa xs 1) (N .i64 1) fun t15 =>
 next [(aa xs_32 0),t15] M_33)) (
 Q (aa xs 0) M_0)) [t9,(N .i64 0)] M
def rH (p1:Nat) (a0 a1:AV) (M0:RM) (Q:ah) : Prop :=
 bQ a0 fun t9 =>
 aI t9 1 fun bV =>
 ax M0 bV fun bW =>
 cK bW fun t12 =>
 aU (fun next xs M =>
 af .lss (aa xs 1) t12 fun t14 =>
 ay t14 (
 bX (fun J =>
 au bW (aa xs 1) 5 fun t15 =>
 aB M t15 5 fun t16 =>
 bZ (.row [(N .i64 0),(N .u64 0),(St []),(St []),(St [])] false p1 0) (fun b=>.ptr b 0) M fun t7 M_0 =>
 aD M_0 t7 t16 5 fun M_1 =>
 aI t7 2 fun t17 =>
 ax M_1 t17 fun t18 =>
 iO .eql t18 a1 fun t20 =>
 ay t20 (
 aB M_1 t7 5 fun t22 =>
 fO p1 1 [(N .i64 0),(N .u64 0),(St []),(St []),(St [])] [(0,5,t22)] fun r f =>
 bZ r f M_1 fun t23 M_2 =>
 appW p1 5 64 [(N .i64 0),(N .u64 0),(St []),(St []),(St [])] false (aa xs 0) t23 M_2 fun t24 M_3 =>
 J [t24] M_3) (
 J [(aa xs 0)] M_1)) (fun xs_4 M_5 =>
 af .add (aa xs 1) (N .i64 1) fun t25 =>
 next [(aa xs_4 0),t25] M_5)) (
 Q (aa xs 0) M)) [(.sc (.slice none 0 0)),(N .i64 0)] M0
def zS (p1:Nat) (p2:aj) (p3:Nat) (p4:aj) (a0 a1 a2:AV) (M0:RM) (Q:ah) : Prop :=
 gz p1 a2 fun r f =>
 bZ r f M0 fun t5 M =>
 p2 [a0,a1] M fun t9 M_0 =>
 p4 [t9,(.fn (.func p3) [] [t5])] M_0 fun bW M_1 =>
 Q bW M_1
def LK (p1 p2 p3:Nat) (p4:aj) (p5:Nat) (p6 p7:aj) (a0 a1:AV) (M0:RM) (Q:ah) : Prop :=
 gz p1 a0 fun r f =>
 bZ r f M0 fun t2 M =>
 bZ (.row [(N .i64 0),(N .u64 0),(N .i64 0),(St []),(St []),(St []),(.sc (.slice none 0 0))] false p1 0) (fun b=>.ptr b 0) M fun t4 M_0 =>
 cK a1 fun bV =>
 aU (fun next xs M_1 =>
 af .lss (aa xs 0) bV fun t12 =>
 ay t12 (
 au a1 (aa xs 0) 5 fun bO =>
 aB M_1 bO 5 fun t14 =>
 bZ (.row [(N .i64 0),(N .u64 0),(St []),(St []),(St [])] false p2 0) (fun b=>.ptr b 0) M_1 fun t7 M_2 =>
 aD M_2 t7 t14 5 fun M_3 =>
 aI t2 6 fun t15 =>
 ax M_3 t15 fun t16 =>
 aI t7 0 fun t17 =>
 aB M_3 t17 2 fun t18 =>
 fO p3 1 [(N .i64 0),(N .u64 0)] [(0,2,t18)] fun r_4 f_5 =>
 bZ r_4 f_5 M_3 fun t19 M_6 =>
 appW p3 2 16 [(N .i64 0),(N .u64 0)] false t16 t19 M_6 fun t20 M_7 =>
 aI t2 6 fun t21 =>
 aD M_7 t21 t20 1 fun M_8 =>
 af .add (aa xs 0) (N .i64 1) fun t22 =>
 next [t22] M_8) (
 aI t2 6 fun t23 =>
 ax M_1 t23 fun t24 =>
 p4 [t24,(.fn (.func p5) [] [])] M_1 fun t25 M_9 =>
 aB M_9 t2 7 fun t26 =>
 p6 [t26] M_9 fun t27 M_10 =>
 ay t27 (
 aB M_10 t2 7 fun t28 =>
 aD M_10 t4 t28 7 fun M_11 =>
 aB M_11 t4 7 fun res =>
 Q (.tup [res,(N .i64 0)]) M_11) (
 bX (fun J =>
 aI t2 6 fun t29 =>
 ax M_10 t29 fun t30 =>
 cK t30 fun t31 =>
 af .gtr t31 (N .i64 64) fun t32 =>
 ay t32 (
 aB M_10 t2 7 fun t33 =>
 bZ (.row [(N .i64 0),(N .u64 0),(N .i64 0),(St []),(St []),(St []),(.sc (.slice none 0 0))] false p1 0) (fun b=>.ptr b 0) M_10 fun t8 M_12 =>
 aD M_12 t8 t33 7 fun M_13 =>
 aI t8 6 fun t34 =>
 aD M_13 t34 (.sc (.slice none 0 0)) 1 fun M_14 =>
 aB M_14 t8 7 fun t35 =>
 p6 [t35] M_14 fun t36 M_15 =>
 ai t36 true (fun k=>aI t2 6 fun t38 =>
 k t38 M_15) (fun k=>k .undef M_15) fun t38_16 M_17 =>
 ai t36 true (fun k_18=>ax M_17 t38_16 fun t39 =>
 k_18 t39 M_17) (fun k=>k .undef M_17) fun t39_19 M_20 =>
 ai t36 true (fun k_21=>aI t2 0 fun t40 =>
 k_21 t40 M_20) (fun k=>k .undef M_20) fun t40_22 M_23 =>
 ai t36 true (fun k_24=>aB M_23 t40_22 2 fun t41 =>
 k_24 t41 M_23) (fun k=>k .undef M_23) fun t41_25 M_26 =>
 ai t36 true (fun k_27=>p7 [t39_19,t41_25] M_26 fun t42 M_28 =>
 k_27 t42 M_28) (fun k=>k .undef M_26) fun t42_29 M_30 =>
 ai t36 true (fun k_31=>dD t42_29 fun t43 =>
 k_31 t43 M_30) (fun k=>k .undef M_30) fun t43_32 M_33 =>
 aM t36 t43_32 (Bo false) fun t44 =>
 ay t44 (
 jA [(N .i64 0),(N .u64 0),(N .i64 0),(St []),(St []),(St []),(.sc (.slice none 0 0))] [] fun t45 =>
 aD M_33 t4 t45 7 fun M_34 =>
 aB M_34 t4 7 fun res_35 =>
 Q (.tup [res_35,(N .i64 2)]) M_34) (
 J [] M_33)) (
 J [] M_10)) (fun xs_36 M_37 =>
 jA [(N .i64 0),(N .u64 0),(N .i64 0),(St []),(St []),(St []),(.sc (.slice none 0 0))] [] fun t46 =>
 aD M_37 t4 t46 7 fun M_38 =>
 aB M_38 t4 7 fun res_39 =>
 Q (.tup [res_39,(N .i64 1)]) M_38)))) [(N .i64 0)] M_0
def uJ (p1:Nat) (a0:AV) (M0:RM) (Q:ah) : Prop :=
 jC false 2 a0 (.sc (.slice none 0 0)) fun t4 =>
 ay t4 (
 Q (.sc (.slice none 0 0)) M0) (
 fO p1 0 [(N .i64 0),(N .u64 0),(St []),(St []),(St [])] [] fun r f =>
 bZ r f M0 fun t5 M =>
 appW p1 5 64 [(N .i64 0),(N .u64 0),(St []),(St []),(St [])] false t5 a0 M fun t7 M_0 =>
 Q t7 M_0)
def pW (p1 p2:aj) (a0 a1:AV) (M0:RM) (Q:ah) : Prop :=
 cK a0 fun t6 =>
 kD .u64 t6 fun bV =>
 p1 [bV] M0 fun bW M =>
 p2 [a0,(N .i64 0),t6,bW,a1] M fun bO M_0 =>
 Q (.tup []) M_0
def Cs (p1:Nat) (p2 p3:aj) (p4:Nat) (p5:aj) (a0 a1:AV) (M0:RM) (Q:ah) : Prop :=
 gz p1 a0 fun r f =>
 bZ r f M0 fun t2 M =>
 gz p1 a1 fun r_0 f_1 =>
 bZ r_0 f_1 M fun t3 M_2 =>
 aI t2 2 fun t5 =>
 ax M_2 t5 fun t6 =>
 aI t3 2 fun t7 =>
 ax M_2 t7 fun t8 =>
 aI t2 3 fun bV =>
 ax M_2 bV fun bW =>
 aI t3 3 fun t12 =>
 ax M_2 t12 fun bO =>
 aI t2 0 fun t15 =>
 aB M_2 t15 2 fun t16 =>
 aI t3 0 fun t17 =>
 aB M_2 t17 2 fun t18 =>
 p2 [t6,t8] M_2 fun t9 M_3 =>
 ax M_3 bV fun t11_15 =>
 (t11_15=bW∧ax M_3 t12 fun t13_14 =>
 (t13_14=bO∧aB M_3 t15 2 fun t16_13 =>
 (t16_13=t16∧aB M_3 t17 2 fun t18_12 =>
 (t18_12=t18∧p2 [bW,bO] M_3 fun t14 M_4 =>
 aB M_4 t15 2 fun t16_11 =>
 (t16_11=t16∧aB M_4 t17 2 fun t18_10 =>
 (t18_10=t18∧p3 [t16,t18] M_4 fun t19 M_5 =>
 fO p4 3 [(N .i64 0)] [(0,1,t9),(1,1,t14),(2,1,t19)] fun r_6 f_7 =>
 xM r_6 f_7 M_5 fun t20 M_8 b =>
 p5 [t20] M_8 fun t21 M_9 =>
 Q t21 M_9))))))
def nE (p1:aj) (p2:Nat) (cv:(FuncId→aj)) (a0 a1:AV) (M0:RM) (Q:ah) : Prop :=
 p1 [a0,a1] M0 fun bV M =>
 af .eql bV (N .i64 (-1)) fun t12 =>
 ay t12 (
 Q a0 M) (
 af .add bV (N .i64 1) fun t15 =>
 aU (fun next xs M_0 =>
 cK a0 fun t18 =>
 af .lss (aa xs 1) t18 fun t19 =>
 ay t19 (
 bX (fun J =>
 au a0 (aa xs 1) 5 fun t24 =>
 aB M_0 t24 5 fun t25 =>
 bZ (.row [(N .i64 0),(N .u64 0),(St []),(St []),(St [])] false p2 0) (fun b=>.ptr b 0) M_0 fun t7 M_1 =>
 aD M_1 t7 t25 5 fun M_2 =>
 aB M_2 t7 5 fun t27 =>
 bN cv a1 [t27] M_2 fun t28 M_3 =>
 dD t28 fun t29 =>
 ay t29 (
 aB M_3 t7 5 fun t32 =>
 au a0 (aa xs 0) 5 fun t33 =>
 aD M_3 t33 t32 5 fun M_4 =>
 af .add (aa xs 0) (N .i64 1) fun t35 =>
 J [t35] M_4) (
 J [(aa xs 0)] M_3)) (fun xs_5 M_6 =>
 af .add (aa xs 1) (N .i64 1) fun t21 =>
 next [(aa xs_5 0),t21] M_6)) (
 iX (dh 5 a0 (some (aa xs 0)) none none) fun t38 =>
 Gn [(N .i64 0),(N .u64 0),(St []),(St []),(St [])] t38 M_0 fun u M_7 =>
 iX (dh 5 a0 none (some (aa xs 0)) none) fun t41 =>
 Q t41 M_7)) [bV,t15] M)
def qO (p1:Nat) (p2:aj) (a0 a1:AV) (M0:RM) (Q:ah) : Prop :=
 gz p1 a0 fun r f =>
 bZ r f M0 fun t2 M =>
 aI a1 6 fun t4 =>
 ax M t4 fun t5 =>
 aI t2 0 fun t6 =>
 aB M t6 2 fun t7 =>
 p2 [t5,t7] M fun t8 M_0 =>
 Q t8 M_0
def tC (p1:Nat) (p2:aj) (a0 a1:AV) (M0:RM) (Q:ah) : Prop :=
 gz p1 a1 fun r f =>
 bZ r f M0 fun t3 M =>
 aB M t3 2 fun t6 =>
 p2 [a0,t6] M fun t7 M_0 =>
 af .geq t7 (N .i64 0) fun t8 =>
 Q t8 M_0
def uI (a0 a1:AV) (M0:RM) (Q:ah) : Prop :=
 cK a0 fun t7 =>
 cK a1 fun t9 =>
 af .neq t7 t9 fun bV =>
 ay bV (
 Q (Bo false) M0) (
 cK a0 fun t12 =>
 aU (fun next xs M =>
 af .lss (aa xs 0) t12 fun t14 =>
 ay t14 (
 au a0 (aa xs 0) 5 fun t18 =>
 aB M t18 5 fun t19 =>
 au a1 (aa xs 0) 5 fun t22 =>
 aB M t22 5 fun t23 =>
 mG true [1,1,2,2,2] t19 t23 fun t24 =>
 ay t24 (
 Q (Bo false) M) (
 af .add (aa xs 0) (N .i64 1) fun t25 =>
 next [t25] M)) (
 Q (Bo true) M)) [(N .i64 0)] M0)
def yx (a0 a1 a2:AV) (M0:RM) (Q:ah) : Prop :=
 mE a0 fun t8 =>
 af .geq t8 (N .i64 1) fun t9 =>
 ai t9 true (fun k=>k a0 M0) (fun k=>k .undef M0) fun bW M =>
 ai t9 true (fun k_0=>mE bW fun t12 =>
 k_0 t12 M) (fun k=>k .undef M) fun t12_1 M_2 =>
 ai t9 true (fun k_3=>af .leq t12_1 (N .i64 64) fun bO =>
 k_3 bO M_2) (fun k=>k .undef M_2) fun t13_4 M_5 =>
 aM t9 t13_4 (Bo false) fun t14 =>
 ai t14 true (fun k_6=>k_6 a1 M_5) (fun k=>k .undef M_5) fun t16 M_7 =>
 ai t14 true (fun k_8=>mE t16 fun t17 =>
 k_8 t17 M_7) (fun k=>k .undef M_7) fun t17_9 M_10 =>
 ai t14 true (fun k_11=>af .leq t17_9 (N .i64 64) fun t18 =>
 k_11 t18 M_10) (fun k=>k .undef M_10) fun t18_12 M_13 =>
 aM t14 t18_12 (Bo false) fun t19 =>
 ai t19 true (fun k_14=>k_14 a2 M_13) (fun k=>k .undef M_13) fun t21 M_15 =>
 ai t19 true (fun k_16=>mE t21 fun t22 =>
 k_16 t22 M_15) (fun k=>k .undef M_15) fun t22_17 M_18 =>
 ai t19 true (fun k_19=>af .leq t22_17 (N .i64 512) fun t23 =>
 k_19 t23 M_18) (fun k=>k .undef M_18) fun t23_20 M_21 =>
 aM t19 t23_20 (Bo false) fun t24 =>
 Q t24 M_21
def xZ (p1:Nat) (p2:aj) (p3:Nat) (a0 a1:AV) (M0:RM) (Q:ah) : Prop :=
 gz p1 a1 fun r f =>
 bZ r f M0 fun t3 M =>
 bQ a0 fun t9 =>
 aI t9 1 fun bV =>
 ax M bV fun bW =>
 aB M t3 5 fun t12 =>
 p2 [bW,t12,(.fn (.func p3) [] [])] M fun bO M_0 =>
 dJ bO 0 fun t14 =>
 dJ bO 1 fun t15 =>
 Q t15 M_0
def wJ (p1:Nat) (a0 a1:AV) (M0:RM) (Q:ah) : Prop :=
 gz p1 a0 fun r f =>
 bZ r f M0 fun t2 M =>
 ax M a1 fun t4 =>
 iO .neq t4 (St []) fun t5 =>
 ai t5 true (fun k=>aI t2 3 fun t7 =>
 k t7 M) (fun k=>k .undef M) fun t7_0 M_1 =>
 ai t5 true (fun k_2=>ax M_1 t7_0 fun t8 =>
 k_2 t8 M_1) (fun k=>k .undef M_1) fun t8_3 M_4 =>
 ai t5 true (fun k_5=>ax M_4 a1 fun t9 =>
 k_5 t9 M_4) (fun k=>k .undef M_4) fun t9_6 M_7 =>
 ai t5 true (fun k_8=>iO .neq t8_3 t9_6 fun bV =>
 k_8 bV M_7) (fun k=>k .undef M_7) fun t10_9 M_10 =>
 aM t5 t10_9 (Bo false) fun bW =>
 Q bW M_10
def tF (p1 p2:aj) (a0 a1:AV) (M0:RM) (Q:ah) : Prop :=
 cK a0 fun t6 =>
 kD .u64 t6 fun bV =>
 p1 [bV] M0 fun bW M =>
 p2 [a0,(N .i64 0),t6,bW,a1] M fun bO M_0 =>
 Q (.tup []) M_0
def Hw (p1:Nat) (p2 p3:aj) (p4:Nat) (p5:aj) (a0 a1:AV) (M0:RM) (Q:ah) : Prop :=
 gz p1 a0 fun r f =>
 bZ r f M0 fun t2 M =>
 gz p1 a1 fun r_0 f_1 =>
 bZ r_0 f_1 M fun t3 M_2 =>
 aI t2 1 fun t5 =>
 ax M_2 t5 fun t6 =>
 aI t3 1 fun t7 =>
 ax M_2 t7 fun t8 =>
 aI t2 0 fun bV =>
 ax M_2 bV fun bW =>
 aI t3 0 fun t12 =>
 ax M_2 t12 fun bO =>
 p2 [t6,t8] M_2 fun t9 M_3 =>
 ax M_3 bV fun t11_10 =>
 (t11_10=bW∧ax M_3 t12 fun t13_9 =>
 (t13_9=bO∧p3 [bW,bO] M_3 fun t14 M_4 =>
 fO p4 2 [(N .i64 0)] [(0,1,t9),(1,1,t14)] fun r_5 f_6 =>
 xM r_5 f_6 M_4 fun t15 M_7 b =>
 p5 [t15] M_7 fun t16 M_8 =>
 Q t16 M_8))
def fU (p1 p2 p3 p4 p5 p6:aj) (cv:(FuncId→aj)) (p7 p8 p9:aj) (a0 a1 a2 a3 a4:AV) (M0:RM) (Q:ah) : Prop :=
 aU (fun next xs M =>
 af .sub (aa xs 1) (aa xs 0) fun t23 =>
 af .leq t23 (N .i64 12) fun t25 =>
 ay t25 (
 p1 [a0,(aa xs 0),(aa xs 1),a4] M fun t30 M_0 =>
 Q (.tup []) M_0) (
 af .eql (aa xs 2) (N .i64 0) fun t32 =>
 ay t32 (
 p2 [a0,(aa xs 0),(aa xs 1),a4] M fun t37 M_1 =>
 Q (.tup []) M_1) (
 bX (fun J =>
 dD (aa xs 3) fun t39 =>
 ay t39 (
 p3 [a0,(aa xs 0),(aa xs 1),a4] M fun t44 M_2 =>
 af .sub (aa xs 2) (N .i64 1) fun t46 =>
 J [t46] M_2) (
 J [(aa xs 2)] M)) (fun xs_3 M_4 =>
 p4 [a0,(aa xs 0),(aa xs 1),a4] M_4 fun t52 M_5 =>
 dJ t52 0 fun t53 =>
 dJ t52 1 fun t54 =>
 bX (fun J_6 =>
 af .eql t54 (N .i64 2) fun t56 =>
 ay t56 (
 p5 [a0,(aa xs 0),(aa xs 1),a4] M_5 fun t61 M_7 =>
 af .sub (aa xs 1) (N .i64 1) fun t63 =>
 af .sub t53 (aa xs 0) fun t66 =>
 af .sub t63 t66 fun t67 =>
 J_6 [t67,(N .i64 1)] M_7) (
 J_6 [t53,t54] M_5)) (fun xs_8 M_9 =>
 bX (fun J_10 =>
 ai (aa xs 3) true (fun k=>k (aa xs 4) M_9) (fun k=>k .undef M_9) fun t70 M_11 =>
 aM (aa xs 3) t70 (Bo false) fun t71 =>
 ai t71 true (fun k_12=>k_12 (aa xs_8 1) M_11) (fun k=>k .undef M_11) fun t73 M_13 =>
 ai t71 true (fun k_14=>af .eql t73 (N .i64 1) fun t74 =>
 k_14 t74 M_13) (fun k=>k .undef M_13) fun t74_15 M_16 =>
 aM t71 t74_15 (Bo false) fun t75 =>
 ay t75 (
 p6 [a0,(aa xs 0),(aa xs 1),a4] M_16 fun t80 M_17 =>
 ay t80 (
 Q (.tup []) M_17) (
 J_10 [] M_17)) (
 J_10 [] M_16)) (fun xs_18 M_19 =>
 af .gtr (aa xs 0) (N .i64 0) fun t82 =>
 ae t82 true (fun k_20=>k_20 a4 M_19 none) (fun k=>k .undef M_19 none) fun t84 M_21 b =>
 ae t82 true (fun k_22=>k_22 a0 M_21 none) (fun k=>k .undef M_21 none) fun t85 M_23 b_24 =>
 ae t82 true (fun k_25=>k_25 (aa xs 0) M_23 none) (fun k=>k .undef M_23 none) fun t86 M_26 b_27 =>
 ae t82 true (fun k_28=>af .sub t86 (N .i64 1) fun t87 =>
 k_28 t87 M_26 none) (fun k=>k .undef M_26 none) fun t87_29 M_30 b_31 =>
 ae t82 true (fun k_32=>au t85 t87_29 5 fun t88 =>
 k_32 t88 M_30 none) (fun k=>k .undef M_30 none) fun t88_33 M_34 b_35 =>
 ae t82 true (fun k_36=>aB M_34 t88_33 5 fun t89 =>
 k_36 t89 M_34 none) (fun k=>k .undef M_34 none) fun t89_37 M_38 b_39 =>
 ae t82 true (fun k_40=>k_40 a0 M_38 none) (fun k=>k .undef M_38 none) fun t90 M_41 b_42 =>
 ae t82 true (fun k_43=>k_43 (aa xs_8 0) M_41 none) (fun k=>k .undef M_41 none) fun t91 M_44 b_45 =>
 ae t82 true (fun k_46=>au t90 t91 5 fun t92 =>
 k_46 t92 M_44 none) (fun k=>k .undef M_44 none) fun t92_47 M_48 b_49 =>
 ae t82 true (fun k_50=>aB M_48 t92_47 5 fun t93 =>
 k_50 t93 M_48 none) (fun k=>k .undef M_48 none) fun t93_51 M_52 b_53 =>
 ai t82 true (fun k_54=>bN cv t84 [t89_37,t93_51] M_52 fun t94 M_55 =>
 k_54 t94 M_55) (fun k=>k .undef M_52) fun t94_56 M_57 =>
 ae t82 true (fun k_58=>af .lss t94_56 (N .i64 0) fun t95 =>
 k_58 t95 M_57 none) (fun k=>k .undef M_57 none) fun t95_59 M_60 b_61 =>
 ae t82 true (fun k_62=>dD t95_59 fun t96 =>
 k_62 t96 M_60 none) (fun k=>k .undef M_60 none) fun t96_63 M_64 b_65 =>
 aM t82 t96_63 (Bo false) fun t97 =>
 ay t97 (
 p7 [a0,(aa xs 0),(aa xs 1),(aa xs_8 0),a4] M_64 fun t103 M_66 =>
 next [t103,(aa xs 1),(aa xs_3 0),(aa xs 3),(aa xs 4)] M_66) (
 p8 [a0,(aa xs 0),(aa xs 1),(aa xs_8 0),a4] M_64 fun t111 M_67 =>
 dJ t111 0 fun t112 =>
 dJ t111 1 fun t113 =>
 af .sub t112 (aa xs 0) fun t117 =>
 af .sub (aa xs 1) t112 fun t120 =>
 af .quo t23 (N .i64 8) fun t122 =>
 af .lss t117 t120 fun t125 =>
 ay t125 (
 af .geq t117 t122 fun t128 =>
 p9 [a0,(aa xs 0),t112,(aa xs_3 0),a4] M_67 fun t134 M_68 =>
 af .add t112 (N .i64 1) fun t136 =>
 next [t136,(aa xs 1),(aa xs_3 0),t128,t113] M_68) (
 af .geq t120 t122 fun t139 =>
 af .add t112 (N .i64 1) fun t142 =>
 p9 [a0,t142,(aa xs 1),(aa xs_3 0),a4] M_67 fun t146 M_69 =>
 next [(aa xs 0),t112,(aa xs_3 0),t139,t113] M_69)))))))) [a1,a2,a3,(Bo true),(Bo true)] M0
def Eu (a0:AV) (M0:RM) (Q:ah) : Prop :=
 cK a0 fun t7 =>
 aU (fun next xs M =>
 af .lss (aa xs 0) t7 fun t9 =>
 ay t9 (
 au a0 (aa xs 0) 1 fun bV =>
 ax M bV fun bW =>
 af .neq bW (N .i64 0) fun t14 =>
 ay t14 (
 Q bW M) (
 af .add (aa xs 0) (N .i64 1) fun t16 =>
 next [t16] M)) (
 Q (N .i64 0) M)) [(N .i64 0)] M0
def pG (p1:aj) (a0 a1:AV) (M0:RM) (Q:ah) : Prop :=
 p1 [a0] M0 fun t8 M =>
 p1 [a1] M fun bV M_0 =>
 ay t8 (
 ay bV (
 Q (N .i64 0) M_0) (
 Q (N .i64 (-1)) M_0)) (
 ay bV (
 Q (N .i64 1) M_0) (
 iO .lss a0 a1 fun t16 =>
 ay t16 (
 Q (N .i64 (-1)) M_0) (
 iO .gtr a0 a1 fun t19 =>
 ay t19 (
 Q (N .i64 1) M_0) (
 Q (N .i64 0) M_0))))
def ou (cv:(FuncId→aj)) (a0 a1:AV) (M0:RM) (Q:ah) : Prop :=
 cK a0 fun t7 =>
 aU (fun next xs M =>
 af .lss (aa xs 0) t7 fun t9 =>
 ay t9 (
 au a0 (aa xs 0) 5 fun t14 =>
 aB M t14 5 fun t15 =>
 bN cv a1 [t15] M fun t16 M_0 =>
 ay t16 (
 Q (aa xs 0) M_0) (
 af .add (aa xs 0) (N .i64 1) fun t18 =>
 next [t18] M_0)) (
 Q (N .i64 (-1)) M)) [(N .i64 0)] M0
def xL (p1:Nat) (a0 a1:AV) (M0:RM) (Q:ah) : Prop :=
 gz p1 a1 fun r f =>
 bZ r f M0 fun t3 M =>
 cK a0 fun t7 =>
 aU (fun next xs M_0 =>
 af .lss (aa xs 0) t7 fun t9 =>
 ay t9 (
 aB M_0 t3 2 fun bW =>
 au a0 (aa xs 0) 2 fun t14 =>
 aB M_0 t14 2 fun t15 =>
 mG false [1,1] bW t15 fun t16 =>
 ay t16 (
 Q (aa xs 0) M_0) (
 af .add (aa xs 0) (N .i64 1) fun t18 =>
 next [t18] M_0)) (
 Q (N .i64 (-1)) M_0)) [(N .i64 0)] M
def jS (p1:Nat) (cv:(FuncId→aj)) (a0 a1 a2:AV) (M0:RM) (Q:ah) : Prop :=
 gz p1 a1 fun r f =>
 bZ r f M0 fun t4 M =>
 cK a0 fun bO =>
 aU (fun next xs M_0 =>
 af .lss (aa xs 0) (aa xs 1) fun t17 =>
 ay t17 (
 af .add (aa xs 0) (aa xs 1) fun t20 =>
 kD .u64 t20 fun t21 =>
 xe .shr t21 (N .u64 1) fun t22 =>
 kD .i64 t22 fun t23 =>
 au a0 t23 5 fun t27 =>
 aB M_0 t27 5 fun t28 =>
 aB M_0 t4 5 fun t29 =>
 bN cv a2 [t28,t29] M_0 fun t30 M_1 =>
 af .lss t30 (N .i64 0) fun t31 =>
 ay t31 (
 af .add t23 (N .i64 1) fun t33 =>
 next [t33,(aa xs 1)] M_1) (
 next [(aa xs 0),t23] M_1)) (
 af .lss (aa xs 0) bO fun t38 =>
 ae t38 true (fun k=>k a2 M_0 none) (fun k=>k .undef M_0 none) fun t40 M_2 b =>
 ae t38 true (fun k_3=>k_3 a0 M_2 none) (fun k=>k .undef M_2 none) fun t41 M_4 b_5 =>
 ae t38 true (fun k_6=>k_6 (aa xs 0) M_4 none) (fun k=>k .undef M_4 none) fun t42 M_7 b_8 =>
 ae t38 true (fun k_9=>au t41 t42 5 fun t43 =>
 k_9 t43 M_7 none) (fun k=>k .undef M_7 none) fun t43_10 M_11 b_12 =>
 ae t38 true (fun k_13=>aB M_11 t43_10 5 fun t44 =>
 k_13 t44 M_11 none) (fun k=>k .undef M_11 none) fun t44_14 M_15 b_16 =>
 ae t38 true (fun k_17=>aB M_15 t4 5 fun t45 =>
 k_17 t45 M_15 none) (fun k=>k .undef M_15 none) fun t45_18 M_19 b_20 =>
 ai t38 true (fun k_21=>bN cv t40 [t44_14,t45_18] M_19 fun t46 M_22 =>
 k_21 t46 M_22) (fun k=>k .undef M_19) fun t46_23 M_24 =>
 ae t38 true (fun k_25=>af .eql t46_23 (N .i64 0) fun t47 =>
 k_25 t47 M_24 none) (fun k=>k .undef M_24 none) fun t47_26 M_27 b_28 =>
 aM t38 t47_26 (Bo false) fun t48 =>
 Q (.tup [(aa xs 0),t48]) M_27)) [(N .i64 0),bO] M
def gZ (p1 p2 p3 p4 p5 p6:aj) (cv:(FuncId→aj)) (p7 p8 p9:aj) (a0 a1 a2 a3 a4:AV) (M0:RM) (Q:ah) : Prop :=
 aU (fun next xs M =>
 af .sub (aa xs 1) (aa xs 0) fun t23 =>
 af .leq t23 (N .i64 12) fun t25 =>
 ay t25 (
 p1 [a0,(aa xs 0),(aa xs 1),a4] M fun t30 M_0 =>
 Q (.tup []) M_0) (
 af .eql (aa xs 2) (N .i64 0) fun t32 =>
 ay t32 (
 p2 [a0,(aa xs 0),(aa xs 1),a4] M fun t37 M_1 =>
 Q (.tup []) M_1) (
 bX (fun J =>
 dD (aa xs 3) fun t39 =>
 ay t39 (
 p3 [a0,(aa xs 0),(aa xs 1),a4] M fun t44 M_2 =>
 af .sub (aa xs 2) (N .i64 1) fun t46 =>
 J [t46] M_2) (
 J [(aa xs 2)] M)) (fun xs_3 M_4 =>
 p4 [a0,(aa xs 0),(aa xs 1),a4] M_4 fun t52 M_5 =>
 dJ t52 0 fun t53 =>
 dJ t52 1 fun t54 =>
 bX (fun J_6 =>
 af .eql t54 (N .i64 2) fun t56 =>
 ay t56 (
 p5 [a0,(aa xs 0),(aa xs 1),a4] M_5 fun t61 M_7 =>
 af .sub (aa xs 1) (N .i64 1) fun t63 =>
 af .sub t53 (aa xs 0) fun t66 =>
 af .sub t63 t66 fun t67 =>
 J_6 [t67,(N .i64 1)] M_7) (
 J_6 [t53,t54] M_5)) (fun xs_8 M_9 =>
 bX (fun J_10 =>
 ai (aa xs 3) true (fun k=>k (aa xs 4) M_9) (fun k=>k .undef M_9) fun t70 M_11 =>
 aM (aa xs 3) t70 (Bo false) fun t71 =>
 ai t71 true (fun k_12=>k_12 (aa xs_8 1) M_11) (fun k=>k .undef M_11) fun t73 M_13 =>
 ai t71 true (fun k_14=>af .eql t73 (N .i64 1) fun t74 =>
 k_14 t74 M_13) (fun k=>k .undef M_13) fun t74_15 M_16 =>
 aM t71 t74_15 (Bo false) fun t75 =>
 ay t75 (
 p6 [a0,(aa xs 0),(aa xs 1),a4] M_16 fun t80 M_17 =>
 ay t80 (
 Q (.tup []) M_17) (
 J_10 [] M_17)) (
 J_10 [] M_16)) (fun xs_18 M_19 =>
 af .gtr (aa xs 0) (N .i64 0) fun t82 =>
 ae t82 true (fun k_20=>k_20 a4 M_19 none) (fun k=>k .undef M_19 none) fun t84 M_21 b =>
 ae t82 true (fun k_22=>k_22 a0 M_21 none) (fun k=>k .undef M_21 none) fun t85 M_23 b_24 =>
 ae t82 true (fun k_25=>k_25 (aa xs 0) M_23 none) (fun k=>k .undef M_23 none) fun t86 M_26 b_27 =>
 ae t82 true (fun k_28=>af .sub t86 (N .i64 1) fun t87 =>
 k_28 t87 M_26 none) (fun k=>k .undef M_26 none) fun t87_29 M_30 b_31 =>
 ae t82 true (fun k_32=>au t85 t87_29 2 fun t88 =>
 k_32 t88 M_30 none) (fun k=>k .undef M_30 none) fun t88_33 M_34 b_35 =>
 ae t82 true (fun k_36=>aB M_34 t88_33 2 fun t89 =>
 k_36 t89 M_34 none) (fun k=>k .undef M_34 none) fun t89_37 M_38 b_39 =>
 ae t82 true (fun k_40=>k_40 a0 M_38 none) (fun k=>k .undef M_38 none) fun t90 M_41 b_42 =>
 ae t82 true (fun k_43=>k_43 (aa xs_8 0) M_41 none) (fun k=>k .undef M_41 none) fun t91 M_44 b_45 =>
 ae t82 true (fun k_46=>au t90 t91 2 fun t92 =>
 k_46 t92 M_44 none) (fun k=>k .undef M_44 none) fun t92_47 M_48 b_49 =>
 ae t82 true (fun k_50=>aB M_48 t92_47 2 fun t93 =>
 k_50 t93 M_48 none) (fun k=>k .undef M_48 none) fun t93_51 M_52 b_53 =>
 ai t82 true (fun k_54=>bN cv t84 [t89_37,t93_51] M_52 fun t94 M_55 =>
 k_54 t94 M_55) (fun k=>k .undef M_52) fun t94_56 M_57 =>
 ae t82 true (fun k_58=>af .lss t94_56 (N .i64 0) fun t95 =>
 k_58 t95 M_57 none) (fun k=>k .undef M_57 none) fun t95_59 M_60 b_61 =>
 ae t82 true (fun k_62=>dD t95_59 fun t96 =>
 k_62 t96 M_60 none) (fun k=>k .undef M_60 none) fun t96_63 M_64 b_65 =>
 aM t82 t96_63 (Bo false) fun t97 =>
 ay t97 (
 p7 [a0,(aa xs 0),(aa xs 1),(aa xs_8 0),a4] M_64 fun t103 M_66 =>
 next [t103,(aa xs 1),(aa xs_3 0),(aa xs 3),(aa xs 4)] M_66) (
 p8 [a0,(aa xs 0),(aa xs 1),(aa xs_8 0),a4] M_64 fun t111 M_67 =>
 dJ t111 0 fun t112 =>
 dJ t111 1 fun t113 =>
 af .sub t112 (aa xs 0) fun t117 =>
 af .sub (aa xs 1) t112 fun t120 =>
 af .quo t23 (N .i64 8) fun t122 =>
 af .lss t117 t120 fun t125 =>
 ay t125 (
 af .geq t117 t122 fun t128 =>
 p9 [a0,(aa xs 0),t112,(aa xs_3 0),a4] M_67 fun t134 M_68 =>
 af .add t112 (N .i64 1) fun t136 =>
 next [t136,(aa xs 1),(aa xs_3 0),t128,t113] M_68) (
 af .geq t120 t122 fun t139 =>
 af .add t112 (N .i64 1) fun t142 =>
 p9 [a0,t142,(aa xs 1),(aa xs_3 0),a4] M_67 fun t146 M_69 =>
 next [(aa xs 0),t112,(aa xs_3 0),t139,t113] M_69)))))))) [a1,a2,a3,(Bo true),(Bo true)] M0
def pX (p1:aj) (a0 a1:AV) (M0:RM) (Q:ah) : Prop :=
 p1 [a0] M0 fun t8 M =>
 p1 [a1] M fun bV M_0 =>
 ay t8 (
 ay bV (
 Q (N .i64 0) M_0) (
 Q (N .i64 (-1)) M_0)) (
 ay bV (
 Q (N .i64 1) M_0) (
 af .lss a0 a1 fun t16 =>
 ay t16 (
 Q (N .i64 (-1)) M_0) (
 af .gtr a0 a1 fun t19 =>
 ay t19 (
 Q (N .i64 1) M_0) (
 Q (N .i64 0) M_0))))
def uH (p1:aj) (a0 a1:AV) (M0:RM) (Q:ah) : Prop :=
 p1 [a0] M0 fun t8 M =>
 p1 [a1] M fun bV M_0 =>
 ay t8 (
 ay bV (
 Q (N .i64 0) M_0) (
 Q (N .i64 (-1)) M_0)) (
 ay bV (
 Q (N .i64 1) M_0) (
 af .lss a0 a1 fun t16 =>
 ay t16 (
 Q (N .i64 (-1)) M_0) (
 af .gtr a0 a1 fun t19 =>
 ay t19 (
 Q (N .i64 1) M_0) (
 Q (N .i64 0) M_0))))
def eH (cv:(FuncId→aj)) (a0 a1 a2 a3:AV) (M0:RM) (Q:ah) : Prop :=
 af .add a1 (N .i64 1) fun bW =>
 aU (fun next xs M =>
 af .lss (aa xs 0) a2 fun t14 =>
 ay t14 (
 aU (fun next_0 xs_1 M_2 =>
 af .gtr (aa xs_1 0) a1 fun t20 =>
 ae t20 true (fun k=>k a3 M_2 none) (fun k=>k .undef M_2 none) fun t22 M_3 b =>
 ae t20 true (fun k_4=>k_4 a0 M_3 none) (fun k=>k .undef M_3 none) fun t23 M_5 b_6 =>
 ae t20 true (fun k_7=>k_7 (aa xs_1 0) M_5 none) (fun k=>k .undef M_5 none) fun t24 M_8 b_9 =>
 ae t20 true (fun k_10=>au t23 t24 5 fun t25 =>
 k_10 t25 M_8 none) (fun k=>k .undef M_8 none) fun t25_11 M_12 b_13 =>
 ae t20 true (fun k_14=>aB M_12 t25_11 5 fun t26 =>
 k_14 t26 M_12 none) (fun k=>k .undef M_12 none) fun t26_15 M_16 b_17 =>
 ae t20 true (fun k_18=>k_18 a0 M_16 none) (fun k=>k .undef M_16 none) fun t27 M_19 b_20 =>
 ae t20 true (fun k_21=>k_21 (aa xs_1 0) M_19 none) (fun k=>k .undef M_19 none) fun t28 M_22 b_23 =>
 ae t20 true (fun k_24=>af .sub t28 (N .i64 1) fun t29 =>
 k_24 t29 M_22 none) (fun k=>k .undef M_22 none) fun t29_25 M_26 b_27 =>
 ae t20 true (fun k_28=>au t27 t29_25 5 fun t30 =>
 k_28 t30 M_26 none) (fun k=>k .undef M_26 none) fun t30_29 M_30 b_31 =>
 ae t20 true (fun k_32=>aB M_30 t30_29 5 fun t31 =>
 k_32 t31 M_30 none) (fun k=>k .undef M_30 none) fun t31_33 M_34 b_35 =>
 ai t20 true (fun k_36=>bN cv t22 [t26_15,t31_33] M_34 fun t32 M_37 =>
 k_36 t32 M_37) (fun k=>k .undef M_34) fun t32_38 M_39 =>
 ae t20 true (fun k_40=>af .lss t32_38 (N .i64 0) fun t33 =>
 k_40 t33 M_39 none) (fun k=>k .undef M_39 none) fun t33_41 M_42 b_43 =>
 aM t20 t33_41 (Bo false) fun t34 =>
 ay t34 (
 af .sub (aa xs_1 0) (N .i64 1) fun t41 =>
 af .sub (aa xs_1 0) (N .i64 1) fun t44 =>
 au a0 t44 5 fun t45 =>
 aB M_42 t45 5 fun t46 =>
 au a0 (aa xs_1 0) 5 fun t49 =>
 aB M_42 t49 5 fun t50 =>
 au a0 (aa xs_1 0) 5 fun t51 =>
 aD M_42 t51 t46 5 fun M_44 =>
 au a0 t41 5 fun t52 =>
 aD M_44 t52 t50 5 fun M_45 =>
 af .sub (aa xs_1 0) (N .i64 1) fun t36 =>
 next_0 [t36] M_45) (
 af .add (aa xs 0) (N .i64 1) fun t16 =>
 next [t16] M_42)) [(aa xs 0)] M) (
 Q (.tup []) M)) [bW] M0
def kF (p1:aj) (a0 a1 a2 a3:AV) (M0:RM) (Q:ah) : Prop :=
 af .sub a2 a1 fun t16 =>
 af .sub t16 (N .i64 1) fun t18 =>
 af .quo t18 (N .i64 2) fun t19 =>
 aU (fun next xs M =>
 af .geq (aa xs 0) (N .i64 0) fun t21 =>
 ay t21 (
 p1 [a0,(aa xs 0),t16,a1,a3] M fun t29 M_0 =>
 af .sub (aa xs 0) (N .i64 1) fun t23 =>
 next [t23] M_0) (
 af .sub t16 (N .i64 1) fun t31 =>
 aU (fun next_1 xs_2 M_3 =>
 af .geq (aa xs_2 0) (N .i64 0) fun t33 =>
 ay t33 (
 af .add a1 (aa xs_2 0) fun t41 =>
 af .add a1 (aa xs_2 0) fun t45 =>
 au a0 t45 5 fun t46 =>
 aB M_3 t46 5 fun t47 =>
 au a0 a1 5 fun t50 =>
 aB M_3 t50 5 fun t51 =>
 au a0 a1 5 fun t52 =>
 aD M_3 t52 t47 5 fun M_4 =>
 au a0 t41 5 fun t53 =>
 aD M_4 t53 t51 5 fun M_5 =>
 p1 [a0,(N .i64 0),(aa xs_2 0),a1,a3] M_5 fun t59 M_6 =>
 af .sub (aa xs_2 0) (N .i64 1) fun t35 =>
 next_1 [t35] M_6) (
 Q (.tup []) M_3)) [t31] M)) [t19] M0
def iK (p1:Nat) (p2 p3:aj) (a0 a1 a2 a3:AV) (M0:RM) (Q:ah) : Prop :=
 af .sub a2 a1 fun t15 =>
 af .geq t15 (N .i64 8) fun t17 =>
 ay t17 (
 kD .u64 t15 fun t19 =>
 bZ (.row [(N .u64 0)] false p1 0) (fun b=>.ptr b 0) M0 fun t9 M =>
 aD M t9 t19 1 fun M_0 =>
 p2 [t15] M_0 fun t21 M_1 =>
 af .quo t15 (N .i64 4) fun t24 =>
 af .mul t24 (N .i64 2) fun t25 =>
 af .add a1 t25 fun t26 =>
 af .sub t26 (N .i64 1) fun t27 =>
 aU (fun next xs M_2 =>
 af .quo t15 (N .i64 4) fun t31 =>
 af .mul t31 (N .i64 2) fun t32 =>
 af .add a1 t32 fun t33 =>
 af .add t33 (N .i64 1) fun t34 =>
 af .leq (aa xs 0) t34 fun t35 =>
 ay t35 (
 bX (fun J =>
 p3 [t9] M_2 fun t38 M_3 =>
 af .sub t21 (N .u64 1) fun t40 =>
 af .and t38 t40 fun t41 =>
 kD .i64 t41 fun t42 =>
 bX (fun J_4 =>
 af .geq t42 t15 fun t45 =>
 ay t45 (
 af .sub t42 t15 fun t48 =>
 J_4 [t48] M_3) (
 J_4 [t42] M_3)) (fun xs_5 M_6 =>
 af .add a1 (aa xs_5 0) fun t54 =>
 af .add a1 (aa xs_5 0) fun t58 =>
 au a0 t58 5 fun t59 =>
 aB M_6 t59 5 fun t60 =>
 au a0 (aa xs 0) 5 fun t63 =>
 aB M_6 t63 5 fun t64 =>
 au a0 (aa xs 0) 5 fun t65 =>
 aD M_6 t65 t60 5 fun M_7 =>
 au a0 t54 5 fun t66 =>
 aD M_7 t66 t64 5 fun M_8 =>
 J [] M_8)) (fun xs_9 M_10 =>
 af .add (aa xs 0) (N .i64 1) fun t37 =>
 next [t37] M_10)) (
 Q (.tup []) M_2)) [t27] M_1) (
 Q (.tup []) M0)
def jr (p1:Nat) (p2 p3:aj) (a0 a1 a2 a3:AV) (M0:RM) (Q:ah) : Prop :=
 af .sub a2 a1 fun t17 =>
 bZ (.row [(N .i64 0)] false p1 0) (fun b=>.ptr b 0) M0 fun bW M =>
 af .quo t17 (N .i64 4) fun t20 =>
 af .mul t20 (N .i64 1) fun t21 =>
 af .add a1 t21 fun t22 =>
 af .quo t17 (N .i64 4) fun t25 =>
 af .mul t25 (N .i64 2) fun t26 =>
 af .add a1 t26 fun t27 =>
 af .quo t17 (N .i64 4) fun t30 =>
 af .mul t30 (N .i64 3) fun t31 =>
 af .add a1 t31 fun t32 =>
 bX (fun J =>
 af .geq t17 (N .i64 8) fun t34 =>
 ay t34 (
 bX (fun J_0 =>
 af .geq t17 (N .i64 50) fun t36 =>
 ay t36 (
 p2 [a0,t22,bW,a3] M fun t40 M_1 =>
 p2 [a0,t27,bW,a3] M_1 fun t44 M_2 =>
 p2 [a0,t32,bW,a3] M_2 fun t48 M_3 =>
 J_0 [t40,t44,t48] M_3) (
 J_0 [t22,t27,t32] M)) (fun xs M_4 =>
 p3 [a0,(aa xs 0),(aa xs 1),(aa xs 2),bW,a3] M_4 fun t54 M_5 =>
 J [t54] M_5)) (
 J [t27] M)) (fun xs_6 M_7 =>
 ax M_7 bW fun t55 =>
 af .eql t55 (N .i64 0) fun t58 =>
 ay t58 (
 Q (.tup [(aa xs_6 0),(N .i64 1)]) M_7) (
 af .eql t55 (N .i64 12) fun t61 =>
 ay t61 (
 Q (.tup [(aa xs_6 0),(N .i64 2)]) M_7) (
 Q (.tup [(aa xs_6 0),(N .i64 0)]) M_7)))
def iZ (a0 a1 a2 a3:AV) (M0:RM) (Q:ah) : Prop :=
 af .sub a2 (N .i64 1) fun t12 =>
 aU (fun next xs M =>
 af .lss (aa xs 0) (aa xs 1) fun t15 =>
 ay t15 (
 au a0 (aa xs 1) 5 fun t22 =>
 aB M t22 5 fun t23 =>
 au a0 (aa xs 0) 5 fun t26 =>
 aB M t26 5 fun t27 =>
 au a0 (aa xs 0) 5 fun t28 =>
 aD M t28 t23 5 fun M_0 =>
 au a0 (aa xs 1) 5 fun t29 =>
 aD M_0 t29 t27 5 fun M_1 =>
 af .add (aa xs 0) (N .i64 1) fun t31 =>
 af .sub (aa xs 1) (N .i64 1) fun t33 =>
 next [t31,t33] M_1) (
 Q (.tup []) M)) [a1,t12] M0
def fF (cv:(FuncId→aj)) (a0 a1 a2 a3:AV) (M0:RM) (Q:ah) : Prop :=
 af .add a1 (N .i64 1) fun t14 =>
 aU (fun next xs M =>
 af .lss (aa xs 1) (N .i64 5) fun t16 =>
 ay t16 (
 bX (fun J =>
 aU (fun next_0 xs_1 M_2 =>
 af .lss (aa xs_1 0) a2 fun t21 =>
 ae t21 true (fun k=>k a3 M_2 none) (fun k=>k .undef M_2 none) fun t23 M_3 b =>
 ae t21 true (fun k_4=>k_4 a0 M_3 none) (fun k=>k .undef M_3 none) fun t24 M_5 b_6 =>
 ae t21 true (fun k_7=>k_7 (aa xs_1 0) M_5 none) (fun k=>k .undef M_5 none) fun t25 M_8 b_9 =>
 ae t21 true (fun k_10=>au t24 t25 5 fun t26 =>
 k_10 t26 M_8 none) (fun k=>k .undef M_8 none) fun t26_11 M_12 b_13 =>
 ae t21 true (fun k_14=>aB M_12 t26_11 5 fun t27 =>
 k_14 t27 M_12 none) (fun k=>k .undef M_12 none) fun t27_15 M_16 b_17 =>
 ae t21 true (fun k_18=>k_18 a0 M_16 none) (fun k=>k .undef M_16 none) fun t28 M_19 b_20 =>
 ae t21 true (fun k_21=>k_21 (aa xs_1 0) M_19 none) (fun k=>k .undef M_19 none) fun t29 M_22 b_23 =>
 ae t21 true (fun k_24=>af .sub t29 (N .i64 1) fun t30 =>
 k_24 t30 M_22 none) (fun k=>k .undef M_22 none) fun t30_25 M_26 b_27 =>
 ae t21 true (fun k_28=>au t28 t30_25 5 fun t31 =>
 k_28 t31 M_26 none) (fun k=>k .undef M_26 none) fun t31_29 M_30 b_31 =>
 ae t21 true (fun k_32=>aB M_30 t31_29 5 fun t32 =>
 k_32 t32 M_30 none) (fun k=>k .undef M_30 none) fun t32_33 M_34 b_35 =>
 ai t21 true (fun k_36=>bN cv t23 [t27_15,t32_33] M_34 fun t33 M_37 =>
 k_36 t33 M_37) (fun k=>k .undef M_34) fun t33_38 M_39 =>
 ae t21 true (fun k_40=>af .lss t33_38 (N .i64 0) fun t34 =>
 k_40 t34 M_39 none) (fun k=>k .undef M_39 none) fun t34_41 M_42 b_43 =>
 ae t21 true (fun k_44=>dD t34_41 fun t35 =>
 k_44 t35 M_42 none) (fun k=>k .undef M_42 none) fun t35_45 M_46 b_47 =>
 aM t21 t35_45 (Bo false) fun t36 =>
 ay t36 (
 af .add (aa xs_1 0) (N .i64 1) fun t38 =>
 next_0 [t38] M_46) (
 af .eql (aa xs_1 0) a2 fun t41 =>
 ay t41 (
 Q (Bo true) M_46) (
 af .sub a2 a1 fun t44 =>
 af .lss t44 (N .i64 50) fun t45 =>
 ay t45 (
 Q (Bo false) M_46) (
 af .sub (aa xs_1 0) (N .i64 1) fun t50 =>
 af .sub (aa xs_1 0) (N .i64 1) fun t53 =>
 au a0 t53 5 fun t54 =>
 aB M_46 t54 5 fun t55 =>
 au a0 (aa xs_1 0) 5 fun t58 =>
 aB M_46 t58 5 fun t59 =>
 au a0 (aa xs_1 0) 5 fun t60 =>
 aD M_46 t60 t55 5 fun M_48 =>
 au a0 t50 5 fun t61 =>
 aD M_48 t61 t59 5 fun M_49 =>
 bX (fun J_50 =>
 af .sub (aa xs_1 0) a1 fun t64 =>
 af .geq t64 (N .i64 2) fun t65 =>
 ay t65 (
 af .sub (aa xs_1 0) (N .i64 1) fun t67 =>
 aU (fun next_51 xs_52 M_53 =>
 af .geq (aa xs_52 0) (N .i64 1) fun t69 =>
 ay t69 (
 au a0 (aa xs_52 0) 5 fun t75 =>
 aB M_53 t75 5 fun t76 =>
 af .sub (aa xs_52 0) (N .i64 1) fun t79 =>
 au a0 t79 5 fun t80 =>
 aB M_53 t80 5 fun t81 =>
 bN cv a3 [t76,t81] M_53 fun t82 M_54 =>
 af .lss t82 (N .i64 0) fun t83 =>
 dD t83 fun t84 =>
 ay t84 (
 J_50 [] M_54) (
 af .sub (aa xs_52 0) (N .i64 1) fun t89 =>
 af .sub (aa xs_52 0) (N .i64 1) fun t92 =>
 au a0 t92 5 fun t93 =>
 aB M_54 t93 5 fun t94 =>
 au a0 (aa xs_52 0) 5 fun t97 =>
 aB M_54 t97 5 fun t98 =>
 au a0 (aa xs_52 0) 5 fun t99 =>
 aD M_54 t99 t94 5 fun M_55 =>
 au a0 t89 5 fun t100 =>
 aD M_55 t100 t98 5 fun M_56 =>
 af .sub (aa xs_52 0) (N .i64 1) fun t71 =>
 next_51 [t71] M_56)) (
 J_50 [] M_53)) [t67] M_49) (
 J_50 [] M_49)) (fun xs_57 M_58 =>
 af .sub a2 (aa xs_1 0) fun t103 =>
 af .geq t103 (N .i64 2) fun t104 =>
 ay t104 (
 af .add (aa xs_1 0) (N .i64 1) fun t106 =>
 aU (fun next_59 xs_60 M_61 =>
 af .lss (aa xs_60 0) a2 fun t109 =>
 ay t109 (
 au a0 (aa xs_60 0) 5 fun t115 =>
 aB M_61 t115 5 fun t116 =>
 af .sub (aa xs_60 0) (N .i64 1) fun t119 =>
 au a0 t119 5 fun t120 =>
 aB M_61 t120 5 fun t121 =>
 bN cv a3 [t116,t121] M_61 fun t122 M_62 =>
 af .lss t122 (N .i64 0) fun t123 =>
 dD t123 fun t124 =>
 ay t124 (
 J [(aa xs_1 0)] M_62) (
 af .sub (aa xs_60 0) (N .i64 1) fun t129 =>
 af .sub (aa xs_60 0) (N .i64 1) fun t132 =>
 au a0 t132 5 fun t133 =>
 aB M_62 t133 5 fun t134 =>
 au a0 (aa xs_60 0) 5 fun t137 =>
 aB M_62 t137 5 fun t138 =>
 au a0 (aa xs_60 0) 5 fun t139 =>
 aD M_62 t139 t134 5 fun M_63 =>
 au a0 t129 5 fun t140 =>
 aD M_63 t140 t138 5 fun M_64 =>
 af .add (aa xs_60 0) (N .i64 1) fun t111 =>
 next_59 [t111] M_64)) (
 J [(aa xs_1 0)] M_61)) [t106] M_58) (
 J [(aa xs_1 0)] M_58)))))) [(aa xs 0)] M) (fun xs_65 M_66 =>
 af .add (aa xs 1) (N .i64 1) fun t18 =>
 next [(aa xs_65 0),t18] M_66)) (
 Q (Bo false) M)) [t14,(N .i64 0)] M0
def iw (cv:(FuncId→aj)) (a0 a1 a2 a3 a4:AV) (M0:RM) (Q:ah) : Prop :=
 au a0 a3 5 fun t19 =>
 aB M0 t19 5 fun t20 =>
 au a0 a1 5 fun t23 =>
 aB M0 t23 5 fun t24 =>
 au a0 a1 5 fun t25 =>
 aD M0 t25 t20 5 fun M =>
 au a0 a3 5 fun t26 =>
 aD M t26 t24 5 fun M_0 =>
 af .add a1 (N .i64 1) fun t28 =>
 af .sub a2 (N .i64 1) fun t30 =>
 aU (fun next xs M_1 =>
 aU (fun next_2 xs_3 M_4 =>
 af .leq (aa xs_3 0) (aa xs 1) fun t33 =>
 ae t33 true (fun k=>k a4 M_4 none) (fun k=>k .undef M_4 none) fun t35 M_5 b =>
 ae t33 true (fun k_6=>k_6 a0 M_5 none) (fun k=>k .undef M_5 none) fun t36 M_7 b_8 =>
 ae t33 true (fun k_9=>k_9 a1 M_7 none) (fun k=>k .undef M_7 none) fun t37 M_10 b_11 =>
 ae t33 true (fun k_12=>au t36 t37 5 fun t38 =>
 k_12 t38 M_10 none) (fun k=>k .undef M_10 none) fun t38_13 M_14 b_15 =>
 ae t33 true (fun k_16=>aB M_14 t38_13 5 fun t39 =>
 k_16 t39 M_14 none) (fun k=>k .undef M_14 none) fun t39_17 M_18 b_19 =>
 ae t33 true (fun k_20=>k_20 a0 M_18 none) (fun k=>k .undef M_18 none) fun t40 M_21 b_22 =>
 ae t33 true (fun k_23=>k_23 (aa xs_3 0) M_21 none) (fun k=>k .undef M_21 none) fun t41 M_24 b_25 =>
 ae t33 true (fun k_26=>au t40 t41 5 fun t42 =>
 k_26 t42 M_24 none) (fun k=>k .undef M_24 none) fun t42_27 M_28 b_29 =>
 ae t33 true (fun k_30=>aB M_28 t42_27 5 fun t43 =>
 k_30 t43 M_28 none) (fun k=>k .undef M_28 none) fun t43_31 M_32 b_33 =>
 ai t33 true (fun k_34=>bN cv t35 [t39_17,t43_31] M_32 fun t44 M_35 =>
 k_34 t44 M_35) (fun k=>k .undef M_32) fun t44_36 M_37 =>
 ae t33 true (fun k_38=>af .lss t44_36 (N .i64 0) fun t45 =>
 k_38 t45 M_37 none) (fun k=>k .undef M_37 none) fun t45_39 M_40 b_41 =>
 ae t33 true (fun k_42=>dD t45_39 fun t46 =>
 k_42 t46 M_40 none) (fun k=>k .undef M_40 none) fun t46_43 M_44 b_45 =>
 aM t33 t46_43 (Bo false) fun t47 =>
 ay t47 (
 af .add (aa xs_3 0) (N .i64 1) fun t49 =>
 next_2 [t49] M_44) (
 aU (fun next_46 xs_47 M_48 =>
 af .leq (aa xs_3 0) (aa xs_47 0) fun t52 =>
 ae t52 true (fun k_49=>k_49 a4 M_48 none) (fun k=>k .undef M_48 none) fun t54 M_50 b_51 =>
 ae t52 true (fun k_52=>k_52 a0 M_50 none) (fun k=>k .undef M_50 none) fun t55 M_53 b_54 =>
 ae t52 true (fun k_55=>k_55 a1 M_53 none) (fun k=>k .undef M_53 none) fun t56 M_56 b_57 =>
 ae t52 true (fun k_58=>au t55 t56 5 fun t57 =>
 k_58 t57 M_56 none) (fun k=>k .undef M_56 none) fun t57_59 M_60 b_61 =>
 ae t52 true (fun k_62=>aB M_60 t57_59 5 fun t58 =>
 k_62 t58 M_60 none) (fun k=>k .undef M_60 none) fun t58_63 M_64 b_65 =>
 ae t52 true (fun k_66=>k_66 a0 M_64 none) (fun k=>k .undef M_64 none) fun t59 M_67 b_68 =>
 ae t52 true (fun k_69=>k_69 (aa xs_47 0) M_67 none) (fun k=>k .undef M_67 none) fun t60 M_70 b_71 =>
 ae t52 true (fun k_72=>au t59 t60 5 fun t61 =>
 k_72 t61 M_70 none) (fun k=>k .undef M_70 none) fun t61_73 M_74 b_75 =>
 ae t52 true (fun k_76=>aB M_74 t61_73 5 fun t62 =>
 k_76 t62 M_74 none) (fun k=>k .undef M_74 none) fun t62_77 M_78 b_79 =>
 ai t52 true (fun k_80=>bN cv t54 [t58_63,t62_77] M_78 fun t63 M_81 =>
 k_80 t63 M_81) (fun k=>k .undef M_78) fun t63_82 M_83 =>
 ae t52 true (fun k_84=>af .lss t63_82 (N .i64 0) fun t64 =>
 k_84 t64 M_83 none) (fun k=>k .undef M_83 none) fun t64_85 M_86 b_87 =>
 aM t52 t64_85 (Bo false) fun t65 =>
 ay t65 (
 af .sub (aa xs_47 0) (N .i64 1) fun t67 =>
 next_46 [t67] M_86) (
 af .gtr (aa xs_3 0) (aa xs_47 0) fun t70 =>
 ay t70 (
 Q (aa xs_3 0) M_86) (
 au a0 (aa xs_47 0) 5 fun t77 =>
 aB M_86 t77 5 fun t78 =>
 au a0 (aa xs_3 0) 5 fun t81 =>
 aB M_86 t81 5 fun t82 =>
 au a0 (aa xs_3 0) 5 fun t83 =>
 aD M_86 t83 t78 5 fun M_88 =>
 au a0 (aa xs_47 0) 5 fun t84 =>
 aD M_88 t84 t82 5 fun M_89 =>
 af .add (aa xs_3 0) (N .i64 1) fun t86 =>
 af .sub (aa xs_47 0) (N .i64 1) fun t88 =>
 next [t86,t88] M_89))) [(aa xs 1)] M_44)) [(aa xs 0)] M_1) [t28,t30] M_0
def jQ (cv:(FuncId→aj)) (a0 a1 a2 a3 a4:AV) (M0:RM) (Q:ah) : Prop :=
 au a0 a3 5 fun t20 =>
 aB M0 t20 5 fun t21 =>
 au a0 a1 5 fun t24 =>
 aB M0 t24 5 fun t25 =>
 au a0 a1 5 fun t26 =>
 aD M0 t26 t21 5 fun M =>
 au a0 a3 5 fun t27 =>
 aD M t27 t25 5 fun M_0 =>
 af .add a1 (N .i64 1) fun t29 =>
 af .sub a2 (N .i64 1) fun t31 =>
 aU (fun next xs M_1 =>
 af .leq (aa xs 0) t31 fun t34 =>
 ae t34 true (fun k=>k a4 M_1 none) (fun k=>k .undef M_1 none) fun t36 M_2 b =>
 ae t34 true (fun k_3=>k_3 a0 M_2 none) (fun k=>k .undef M_2 none) fun t37 M_4 b_5 =>
 ae t34 true (fun k_6=>k_6 (aa xs 0) M_4 none) (fun k=>k .undef M_4 none) fun t38 M_7 b_8 =>
 ae t34 true (fun k_9=>au t37 t38 5 fun t39 =>
 k_9 t39 M_7 none) (fun k=>k .undef M_7 none) fun t39_10 M_11 b_12 =>
 ae t34 true (fun k_13=>aB M_11 t39_10 5 fun t40 =>
 k_13 t40 M_11 none) (fun k=>k .undef M_11 none) fun t40_14 M_15 b_16 =>
 ae t34 true (fun k_17=>k_17 a0 M_15 none) (fun k=>k .undef M_15 none) fun t41 M_18 b_19 =>
 ae t34 true (fun k_20=>k_20 a1 M_18 none) (fun k=>k .undef M_18 none) fun t42 M_21 b_22 =>
 ae t34 true (fun k_23=>au t41 t42 5 fun t43 =>
 k_23 t43 M_21 none) (fun k=>k .undef M_21 none) fun t43_24 M_25 b_26 =>
 ae t34 true (fun k_27=>aB M_25 t43_24 5 fun t44 =>
 k_27 t44 M_25 none) (fun k=>k .undef M_25 none) fun t44_28 M_29 b_30 =>
 ai t34 true (fun k_31=>bN cv t36 [t40_14,t44_28] M_29 fun t45 M_32 =>
 k_31 t45 M_32) (fun k=>k .undef M_29) fun t45_33 M_34 =>
 ae t34 true (fun k_35=>af .lss t45_33 (N .i64 0) fun t46 =>
 k_35 t46 M_34 none) (fun k=>k .undef M_34 none) fun t46_36 M_37 b_38 =>
 aM t34 t46_36 (Bo false) fun t47 =>
 ay t47 (
 af .add (aa xs 0) (N .i64 1) fun t49 =>
 next [t49] M_37) (
 aU (fun next_39 xs_40 M_41 =>
 af .leq (aa xs 0) (aa xs_40 0) fun t52 =>
 ae t52 true (fun k_42=>k_42 a4 M_41 none) (fun k=>k .undef M_41 none) fun t54 M_43 b_44 =>
 ae t52 true (fun k_45=>k_45 a0 M_43 none) (fun k=>k .undef M_43 none) fun t55 M_46 b_47 =>
 ae t52 true (fun k_48=>k_48 (aa xs_40 0) M_46 none) (fun k=>k .undef M_46 none) fun t56 M_49 b_50 =>
 ae t52 true (fun k_51=>au t55 t56 5 fun t57 =>
 k_51 t57 M_49 none) (fun k=>k .undef M_49 none) fun t57_52 M_53 b_54 =>
 ae t52 true (fun k_55=>aB M_53 t57_52 5 fun t58 =>
 k_55 t58 M_53 none) (fun k=>k .undef M_53 none) fun t58_56 M_57 b_58 =>
 ae t52 true (fun k_59=>k_59 a0 M_57 none) (fun k=>k .undef M_57 none) fun t59 M_60 b_61 =>
 ae t52 true (fun k_62=>k_62 a1 M_60 none) (fun k=>k .undef M_60 none) fun t60 M_63 b_64 =>
 ae t52 true (fun k_65=>au t59 t60 5 fun t61 =>
 k_65 t61 M_63 none) (fun k=>k .undef M_63 none) fun t61_66 M_67 b_68 =>
 ae t52 true (fun k_69=>aB M_67 t61_66 5 fun t62 =>
 k_69 t62 M_67 none) (fun k=>k .undef M_67 none) fun t62_70 M_71 b_72 =>
 ai t52 true (fun k_73=>bN cv t54 [t58_56,t62_70] M_71 fun t63 M_74 =>
 k_73 t63 M_74) (fun k=>k .undef M_71) fun t63_75 M_76 =>
 ae t52 true (fun k_77=>af .lss t63_75 (N .i64 0) fun t64 =>
 k_77 t64 M_76 none) (fun k=>k .undef M_76 none) fun t64_78 M_79 b_80 =>
 ae t52 true (fun k_81=>dD t64_78 fun t65 =>
 k_81 t65 M_79 none) (fun k=>k .undef M_79 none) fun t65_82 M_83 b_84 =>
 aM t52 t65_82 (Bo false) fun t66 =>
 ay t66 (
 af .sub (aa xs_40 0) (N .i64 1) fun t68 =>
 next_39 [t68] M_83) (
 af .gtr (aa xs 0) (aa xs_40 0) fun t71 =>
 ay t71 (
 au a0 a1 5 fun t78 =>
 aB M_83 t78 5 fun t79 =>
 au a0 (aa xs_40 0) 5 fun t82 =>
 aB M_83 t82 5 fun t83 =>
 au a0 (aa xs_40 0) 5 fun t84 =>
 aD M_83 t84 t79 5 fun M_85 =>
 au a0 a1 5 fun t85 =>
 aD M_85 t85 t83 5 fun M_86 =>
 Q (.tup [(aa xs_40 0),(Bo true)]) M_86) (
 au a0 (aa xs_40 0) 5 fun t93 =>
 aB M_83 t93 5 fun t94 =>
 au a0 (aa xs 0) 5 fun t97 =>
 aB M_83 t97 5 fun t98 =>
 au a0 (aa xs 0) 5 fun t99 =>
 aD M_83 t99 t94 5 fun M_87 =>
 au a0 (aa xs_40 0) 5 fun t100 =>
 aD M_87 t100 t98 5 fun M_88 =>
 af .add (aa xs 0) (N .i64 1) fun t102 =>
 af .sub (aa xs_40 0) (N .i64 1) fun t104 =>
 aU (fun next_89 xs_90 M_91 =>
 aU (fun next_92 xs_93 M_94 =>
 af .leq (aa xs_93 0) (aa xs_90 1) fun t107 =>
 ae t107 true (fun k_95=>k_95 a4 M_94 none) (fun k=>k .undef M_94 none) fun t109 M_96 b_97 =>
 ae t107 true (fun k_98=>k_98 a0 M_96 none) (fun k=>k .undef M_96 none) fun t110 M_99 b_100 =>
 ae t107 true (fun k_101=>k_101 (aa xs_93 0) M_99 none) (fun k=>k .undef M_99 none) fun t111 M_102 b_103 =>
 ae t107 true (fun k_104=>au t110 t111 5 fun t112 =>
 k_104 t112 M_102 none) (fun k=>k .undef M_102 none) fun t112_105 M_106 b_107 =>
 ae t107 true (fun k_108=>aB M_106 t112_105 5 fun t113 =>
 k_108 t113 M_106 none) (fun k=>k .undef M_106 none) fun t113_109 M_110 b_111 =>
 ae t107 true (fun k_112=>k_112 a0 M_110 none) (fun k=>k .undef M_110 none) fun t114 M_113 b_114 =>
 ae t107 true (fun k_115=>k_115 a1 M_113 none) (fun k=>k .undef M_113 none) fun t115 M_116 b_117 =>
 ae t107 true (fun k_118=>au t114 t115 5 fun t116 =>
 k_118 t116 M_116 none) (fun k=>k .undef M_116 none) fun t116_119 M_120 b_121 =>
 ae t107 true (fun k_122=>aB M_120 t116_119 5 fun t117 =>
 k_122 t117 M_120 none) (fun k=>k .undef M_120 none) fun t117_123 M_124 b_125 =>
 ai t107 true (fun k_126=>bN cv t109 [t113_109,t117_123] M_124 fun t118 M_127 =>
 k_126 t118 M_127) (fun k=>k .undef M_124) fun t118_128 M_129 =>
 ae t107 true (fun k_130=>af .lss t118_128 (N .i64 0) fun t119 =>
 k_130 t119 M_129 none) (fun k=>k .undef M_129 none) fun t119_131 M_132 b_133 =>
 aM t107 t119_131 (Bo false) fun t120 =>
 ay t120 (
 af .add (aa xs_93 0) (N .i64 1) fun t122 =>
 next_92 [t122] M_132) (
 aU (fun next_134 xs_135 M_136 =>
 af .leq (aa xs_93 0) (aa xs_135 0) fun t125 =>
 ae t125 true (fun k_137=>k_137 a4 M_136 none) (fun k=>k .undef M_136 none) fun t127 M_138 b_139 =>
 ae t125 true (fun k_140=>k_140 a0 M_138 none) (fun k=>k .undef M_138 none) fun t128 M_141 b_142 =>
 ae t125 true (fun k_143=>k_143 (aa xs_135 0) M_141 none) (fun k=>k .undef M_141 none) fun t129 M_144 b_145 =>
 ae t125 true (fun k_146=>au t128 t129 5 fun t130 =>
 k_146 t130 M_144 none) (fun k=>k .undef M_144 none) fun t130_147 M_148 b_149 =>
 ae t125 true (fun k_150=>aB M_148 t130_147 5 fun t131 =>
 k_150 t131 M_148 none) (fun k=>k .undef M_148 none) fun t131_151 M_152 b_153 =>
 ae t125 true (fun k_154=>k_154 a0 M_152 none) (fun k=>k .undef M_152 none) fun t132 M_155 b_156 =>
 ae t125 true (fun k_157=>k_157 a1 M_155 none) (fun k=>k .undef M_155 none) fun t133 M_158 b_159 =>
 ae t125 true (fun k_160=>au t132 t133 5 fun t134 =>
 k_160 t134 M_158 none) (fun k=>k .undef M_158 none) fun t134_161 M_162 b_163 =>
 ae t125 true (fun k_164=>aB M_162 t134_161 5 fun t135 =>
 k_164 t135 M_162 none) (fun k=>k .undef M_162 none) fun t135_165 M_166 b_167 =>
 ai t125 true (fun k_168=>bN cv t127 [t131_151,t135_165] M_166 fun t136 M_169 =>
 k_168 t136 M_169) (fun k=>k .undef M_166) fun t136_170 M_171 =>
 ae t125 true (fun k_172=>af .lss t136_170 (N .i64 0) fun t137 =>
 k_172 t137 M_171 none) (fun k=>k .undef M_171 none) fun t137_173 M_174 b_175 =>
 ae t125 true (fun k_176=>dD t137_173 fun t138 =>
 k_176 t138 M_174 none) (fun k=>k .undef M_174 none) fun t138_177 M_178 b_179 =>
 aM t125 t138_177 (Bo false) fun t139 =>
 ay t139 (
 af .sub (aa xs_135 0) (N .i64 1) fun t141 =>
 next_134 [t141] M_178) (
 af .gtr (aa xs_93 0) (aa xs_135 0) fun t144 =>
 ay t144 (
 au a0 a1 5 fun t169 =>
 aB M_178 t169 5 fun t170 =>
 au a0 (aa xs_135 0) 5 fun t173 =>
 aB M_178 t173 5 fun t174 =>
 au a0 (aa xs_135 0) 5 fun t175 =>
 aD M_178 t175 t170 5 fun M_180 =>
 au a0 a1 5 fun t176 =>
 aD M_180 t176 t174 5 fun M_181 =>
 Q (.tup [(aa xs_135 0),(Bo false)]) M_181) (
 au a0 (aa xs_135 0) 5 fun t151 =>
 aB M_178 t151 5 fun t152 =>
 au a0 (aa xs_93 0) 5 fun t155 =>
 aB M_178 t155 5 fun t156 =>
 au a0 (aa xs_93 0) 5 fun t157 =>
 aD M_178 t157 t152 5 fun M_182 =>
 au a0 (aa xs_135 0) 5 fun t158 =>
 aD M_182 t158 t156 5 fun M_183 =>
 af .add (aa xs_93 0) (N .i64 1) fun t160 =>
 af .sub (aa xs_135 0) (N .i64 1) fun t162 =>
 next_89 [t160,t162] M_183))) [(aa xs_90 1)] M_132)) [(aa xs_90 0)] M_91) [t102,t104] M_88))) [t31] M_37)) [t29] M_0
def sK (a0:AV) (M0:RM) (Q:ah) : Prop :=
 iO .neq a0 a0 fun t5 =>
 Q t5 M0
def eX (cv:(FuncId→aj)) (a0 a1 a2 a3:AV) (M0:RM) (Q:ah) : Prop :=
 af .add a1 (N .i64 1) fun bW =>
 aU (fun next xs M =>
 af .lss (aa xs 0) a2 fun t14 =>
 ay t14 (
 aU (fun next_0 xs_1 M_2 =>
 af .gtr (aa xs_1 0) a1 fun t20 =>
 ae t20 true (fun k=>k a3 M_2 none) (fun k=>k .undef M_2 none) fun t22 M_3 b =>
 ae t20 true (fun k_4=>k_4 a0 M_3 none) (fun k=>k .undef M_3 none) fun t23 M_5 b_6 =>
 ae t20 true (fun k_7=>k_7 (aa xs_1 0) M_5 none) (fun k=>k .undef M_5 none) fun t24 M_8 b_9 =>
 ae t20 true (fun k_10=>au t23 t24 2 fun t25 =>
 k_10 t25 M_8 none) (fun k=>k .undef M_8 none) fun t25_11 M_12 b_13 =>
 ae t20 true (fun k_14=>aB M_12 t25_11 2 fun t26 =>
 k_14 t26 M_12 none) (fun k=>k .undef M_12 none) fun t26_15 M_16 b_17 =>
 ae t20 true (fun k_18=>k_18 a0 M_16 none) (fun k=>k .undef M_16 none) fun t27 M_19 b_20 =>
 ae t20 true (fun k_21=>k_21 (aa xs_1 0) M_19 none) (fun k=>k .undef M_19 none) fun t28 M_22 b_23 =>
 ae t20 true (fun k_24=>af .sub t28 (N .i64 1) fun t29 =>
 k_24 t29 M_22 none) (fun k=>k .undef M_22 none) fun t29_25 M_26 b_27 =>
 ae t20 true (fun k_28=>au t27 t29_25 2 fun t30 =>
 k_28 t30 M_26 none) (fun k=>k .undef M_26 none) fun t30_29 M_30 b_31 =>
 ae t20 true (fun k_32=>aB M_30 t30_29 2 fun t31 =>
 k_32 t31 M_30 none) (fun k=>k .undef M_30 none) fun t31_33 M_34 b_35 =>
 ai t20 true (fun k_36=>bN cv t22 [t26_15,t31_33] M_34 fun t32 M_37 =>
 k_36 t32 M_37) (fun k=>k .undef M_34) fun t32_38 M_39 =>
 ae t20 true (fun k_40=>af .lss t32_38 (N .i64 0) fun t33 =>
 k_40 t33 M_39 none) (fun k=>k .undef M_39 none) fun t33_41 M_42 b_43 =>
 aM t20 t33_41 (Bo false) fun t34 =>
 ay t34 (
 af .sub (aa xs_1 0) (N .i64 1) fun t41 =>
 af .sub (aa xs_1 0) (N .i64 1) fun t44 =>
 au a0 t44 2 fun t45 =>
 aB M_42 t45 2 fun t46 =>
 au a0 (aa xs_1 0) 2 fun t49 =>
 aB M_42 t49 2 fun t50 =>
 au a0 (aa xs_1 0) 2 fun t51 =>
 aD M_42 t51 t46 2 fun M_44 =>
 au a0 t41 2 fun t52 =>
 aD M_44 t52 t50 2 fun M_45 =>
 af .sub (aa xs_1 0) (N .i64 1) fun t36 =>
 next_0 [t36] M_45) (
 af .add (aa xs 0) (N .i64 1) fun t16 =>
 next [t16] M_42)) [(aa xs 0)] M) (
 Q (.tup []) M)) [bW] M0
def lU (p1:aj) (a0 a1 a2 a3:AV) (M0:RM) (Q:ah) : Prop :=
 af .sub a2 a1 fun t16 =>
 af .sub t16 (N .i64 1) fun t18 =>
 af .quo t18 (N .i64 2) fun t19 =>
 aU (fun next xs M =>
 af .geq (aa xs 0) (N .i64 0) fun t21 =>
 ay t21 (
 p1 [a0,(aa xs 0),t16,a1,a3] M fun t29 M_0 =>
 af .sub (aa xs 0) (N .i64 1) fun t23 =>
 next [t23] M_0) (
 af .sub t16 (N .i64 1) fun t31 =>
 aU (fun next_1 xs_2 M_3 =>
 af .geq (aa xs_2 0) (N .i64 0) fun t33 =>
 ay t33 (
 af .add a1 (aa xs_2 0) fun t41 =>
 af .add a1 (aa xs_2 0) fun t45 =>
 au a0 t45 2 fun t46 =>
 aB M_3 t46 2 fun t47 =>
 au a0 a1 2 fun t50 =>
 aB M_3 t50 2 fun t51 =>
 au a0 a1 2 fun t52 =>
 aD M_3 t52 t47 2 fun M_4 =>
 au a0 t41 2 fun t53 =>
 aD M_4 t53 t51 2 fun M_5 =>
 p1 [a0,(N .i64 0),(aa xs_2 0),a1,a3] M_5 fun t59 M_6 =>
 af .sub (aa xs_2 0) (N .i64 1) fun t35 =>
 next_1 [t35] M_6) (
 Q (.tup []) M_3)) [t31] M)) [t19] M0
def jq (p1:Nat) (p2 p3:aj) (a0 a1 a2 a3:AV) (M0:RM) (Q:ah) : Prop :=
 af .sub a2 a1 fun t15 =>
 af .geq t15 (N .i64 8) fun t17 =>
 ay t17 (
 kD .u64 t15 fun t19 =>
 bZ (.row [(N .u64 0)] false p1 0) (fun b=>.ptr b 0) M0 fun t9 M =>
 aD M t9 t19 1 fun M_0 =>
 p2 [t15] M_0 fun t21 M_1 =>
 af .quo t15 (N .i64 4) fun t24 =>
 af .mul t24 (N .i64 2) fun t25 =>
 af .add a1 t25 fun t26 =>
 af .sub t26 (N .i64 1) fun t27 =>
 aU (fun next xs M_2 =>
 af .quo t15 (N .i64 4) fun t31 =>
 af .mul t31 (N .i64 2) fun t32 =>
 af .add a1 t32 fun t33 =>
 af .add t33 (N .i64 1) fun t34 =>
 af .leq (aa xs 0) t34 fun t35 =>
 ay t35 (
 bX (fun J =>
 p3 [t9] M_2 fun t38 M_3 =>
 af .sub t21 (N .u64 1) fun t40 =>
 af .and t38 t40 fun t41 =>
 kD .i64 t41 fun t42 =>
 bX (fun J_4 =>
 af .geq t42 t15 fun t45 =>
 ay t45 (
 af .sub t42 t15 fun t48 =>
 J_4 [t48] M_3) (
 J_4 [t42] M_3)) (fun xs_5 M_6 =>
 af .add a1 (aa xs_5 0) fun t54 =>
 af .add a1 (aa xs_5 0) fun t58 =>
 au a0 t58 2 fun t59 =>
 aB M_6 t59 2 fun t60 =>
 au a0 (aa xs 0) 2 fun t63 =>
 aB M_6 t63 2 fun t64 =>
 au a0 (aa xs 0) 2 fun t65 =>
 aD M_6 t65 t60 2 fun M_7 =>
 au a0 t54 2 fun t66 =>
 aD M_7 t66 t64 2 fun M_8 =>
 J [] M_8)) (fun xs_9 M_10 =>
 af .add (aa xs 0) (N .i64 1) fun t37 =>
 next [t37] M_10)) (
 Q (.tup []) M_2)) [t27] M_1) (
 Q (.tup []) M0)
def jZ (p1:Nat) (p2 p3:aj) (a0 a1 a2 a3:AV) (M0:RM) (Q:ah) : Prop :=
 af .sub a2 a1 fun t17 =>
 bZ (.row [(N .i64 0)] false p1 0) (fun b=>.ptr b 0) M0 fun bW M =>
 af .quo t17 (N .i64 4) fun t20 =>
 af .mul t20 (N .i64 1) fun t21 =>
 af .add a1 t21 fun t22 =>
 af .quo t17 (N .i64 4) fun t25 =>
 af .mul t25 (N .i64 2) fun t26 =>
 af .add a1 t26 fun t27 =>
 af .quo t17 (N .i64 4) fun t30 =>
 af .mul t30 (N .i64 3) fun t31 =>
 af .add a1 t31 fun t32 =>
 bX (fun J =>
 af .geq t17 (N .i64 8) fun t34 =>
 ay t34 (
 bX (fun J_0 =>
 af .geq t17 (N .i64 50) fun t36 =>
 ay t36 (
 p2 [a0,t22,bW,a3] M fun t40 M_1 =>
 p2 [a0,t27,bW,a3] M_1 fun t44 M_2 =>
 p2 [a0,t32,bW,a3] M_2 fun t48 M_3 =>
 J_0 [t40,t44,t48] M_3) (
 J_0 [t22,t27,t32] M)) (fun xs M_4 =>
 p3 [a0,(aa xs 0),(aa xs 1),(aa xs 2),bW,a3] M_4 fun t54 M_5 =>
 J [t54] M_5)) (
 J [t27] M)) (fun xs_6 M_7 =>
 ax M_7 bW fun t55 =>
 af .eql t55 (N .i64 0) fun t58 =>
 ay t58 (
 Q (.tup [(aa xs_6 0),(N .i64 1)]) M_7) (
 af .eql t55 (N .i64 12) fun t61 =>
 ay t61 (
 Q (.tup [(aa xs_6 0),(N .i64 2)]) M_7) (
 Q (.tup [(aa xs_6 0),(N .i64 0)]) M_7)))
def jJ (a0 a1 a2 a3:AV) (M0:RM) (Q:ah) : Prop :=
 af .sub a2 (N .i64 1) fun t12 =>
 aU (fun next xs M =>
 af .lss (aa xs 0) (aa xs 1) fun t15 =>
 ay t15 (
 au a0 (aa xs 1) 2 fun t22 =>
 aB M t22 2 fun t23 =>
 au a0 (aa xs 0) 2 fun t26 =>
 aB M t26 2 fun t27 =>
 au a0 (aa xs 0) 2 fun t28 =>
 aD M t28 t23 2 fun M_0 =>
 au a0 (aa xs 1) 2 fun t29 =>
 aD M_0 t29 t27 2 fun M_1 =>
 af .add (aa xs 0) (N .i64 1) fun t31 =>
 af .sub (aa xs 1) (N .i64 1) fun t33 =>
 next [t31,t33] M_1) (
 Q (.tup []) M)) [a1,t12] M0
def fV (cv:(FuncId→aj)) (a0 a1 a2 a3:AV) (M0:RM) (Q:ah) : Prop :=
 af .add a1 (N .i64 1) fun t14 =>
 aU (fun next xs M =>
 af .lss (aa xs 1) (N .i64 5) fun t16 =>
 ay t16 (
 bX (fun J =>
 aU (fun next_0 xs_1 M_2 =>
 af .lss (aa xs_1 0) a2 fun t21 =>
 ae t21 true (fun k=>k a3 M_2 none) (fun k=>k .undef M_2 none) fun t23 M_3 b =>
 ae t21 true (fun k_4=>k_4 a0 M_3 none) (fun k=>k .undef M_3 none) fun t24 M_5 b_6 =>
 ae t21 true (fun k_7=>k_7 (aa xs_1 0) M_5 none) (fun k=>k .undef M_5 none) fun t25 M_8 b_9 =>
 ae t21 true (fun k_10=>au t24 t25 2 fun t26 =>
 k_10 t26 M_8 none) (fun k=>k .undef M_8 none) fun t26_11 M_12 b_13 =>
 ae t21 true (fun k_14=>aB M_12 t26_11 2 fun t27 =>
 k_14 t27 M_12 none) (fun k=>k .undef M_12 none) fun t27_15 M_16 b_17 =>
 ae t21 true (fun k_18=>k_18 a0 M_16 none) (fun k=>k .undef M_16 none) fun t28 M_19 b_20 =>
 ae t21 true (fun k_21=>k_21 (aa xs_1 0) M_19 none) (fun k=>k .undef M_19 none) fun t29 M_22 b_23 =>
 ae t21 true (fun k_24=>af .sub t29 (N .i64 1) fun t30 =>
 k_24 t30 M_22 none) (fun k=>k .undef M_22 none) fun t30_25 M_26 b_27 =>
 ae t21 true (fun k_28=>au t28 t30_25 2 fun t31 =>
 k_28 t31 M_26 none) (fun k=>k .undef M_26 none) fun t31_29 M_30 b_31 =>
 ae t21 true (fun k_32=>aB M_30 t31_29 2 fun t32 =>
 k_32 t32 M_30 none) (fun k=>k .undef M_30 none) fun t32_33 M_34 b_35 =>
 ai t21 true (fun k_36=>bN cv t23 [t27_15,t32_33] M_34 fun t33 M_37 =>
 k_36 t33 M_37) (fun k=>k .undef M_34) fun t33_38 M_39 =>
 ae t21 true (fun k_40=>af .lss t33_38 (N .i64 0) fun t34 =>
 k_40 t34 M_39 none) (fun k=>k .undef M_39 none) fun t34_41 M_42 b_43 =>
 ae t21 true (fun k_44=>dD t34_41 fun t35 =>
 k_44 t35 M_42 none) (fun k=>k .undef M_42 none) fun t35_45 M_46 b_47 =>
 aM t21 t35_45 (Bo false) fun t36 =>
 ay t36 (
 af .add (aa xs_1 0) (N .i64 1) fun t38 =>
 next_0 [t38] M_46) (
 af .eql (aa xs_1 0) a2 fun t41 =>
 ay t41 (
 Q (Bo true) M_46) (
 af .sub a2 a1 fun t44 =>
 af .lss t44 (N .i64 50) fun t45 =>
 ay t45 (
 Q (Bo false) M_46) (
 af .sub (aa xs_1 0) (N .i64 1) fun t50 =>
 af .sub (aa xs_1 0) (N .i64 1) fun t53 =>
 au a0 t53 2 fun t54 =>
 aB M_46 t54 2 fun t55 =>
 au a0 (aa xs_1 0) 2 fun t58 =>
 aB M_46 t58 2 fun t59 =>
 au a0 (aa xs_1 0) 2 fun t60 =>
 aD M_46 t60 t55 2 fun M_48 =>
 au a0 t50 2 fun t61 =>
 aD M_48 t61 t59 2 fun M_49 =>
 bX (fun J_50 =>
 af .sub (aa xs_1 0) a1 fun t64 =>
 af .geq t64 (N .i64 2) fun t65 =>
 ay t65 (
 af .sub (aa xs_1 0) (N .i64 1) fun t67 =>
 aU (fun next_51 xs_52 M_53 =>
 af .geq (aa xs_52 0) (N .i64 1) fun t69 =>
 ay t69 (
 au a0 (aa xs_52 0) 2 fun t75 =>
 aB M_53 t75 2 fun t76 =>
 af .sub (aa xs_52 0) (N .i64 1) fun t79 =>
 au a0 t79 2 fun t80 =>
 aB M_53 t80 2 fun t81 =>
 bN cv a3 [t76,t81] M_53 fun t82 M_54 =>
 af .lss t82 (N .i64 0) fun t83 =>
 dD t83 fun t84 =>
 ay t84 (
 J_50 [] M_54) (
 af .sub (aa xs_52 0) (N .i64 1) fun t89 =>
 af .sub (aa xs_52 0) (N .i64 1) fun t92 =>
 au a0 t92 2 fun t93 =>
 aB M_54 t93 2 fun t94 =>
 au a0 (aa xs_52 0) 2 fun t97 =>
 aB M_54 t97 2 fun t98 =>
 au a0 (aa xs_52 0) 2 fun t99 =>
 aD M_54 t99 t94 2 fun M_55 =>
 au a0 t89 2 fun t100 =>
 aD M_55 t100 t98 2 fun M_56 =>
 af .sub (aa xs_52 0) (N .i64 1) fun t71 =>
 next_51 [t71] M_56)) (
 J_50 [] M_53)) [t67] M_49) (
 J_50 [] M_49)) (fun xs_57 M_58 =>
 af .sub a2 (aa xs_1 0) fun t103 =>
 af .geq t103 (N .i64 2) fun t104 =>
 ay t104 (
 af .add (aa xs_1 0) (N .i64 1) fun t106 =>
 aU (fun next_59 xs_60 M_61 =>
 af .lss (aa xs_60 0) a2 fun t109 =>
 ay t109 (
 au a0 (aa xs_60 0) 2 fun t115 =>
 aB M_61 t115 2 fun t116 =>
 af .sub (aa xs_60 0) (N .i64 1) fun t119 =>
 au a0 t119 2 fun t120 =>
 aB M_61 t120 2 fun t121 =>
 bN cv a3 [t116,t121] M_61 fun t122 M_62 =>
 af .lss t122 (N .i64 0) fun t123 =>
 dD t123 fun t124 =>
 ay t124 (
 J [(aa xs_1 0)] M_62) (
 af .sub (aa xs_60 0) (N .i64 1) fun t129 =>
 af .sub (aa xs_60 0) (N .i64 1) fun t132 =>
 au a0 t132 2 fun t133 =>
 aB M_62 t133 2 fun t134 =>
 au a0 (aa xs_60 0) 2 fun t137 =>
 aB M_62 t137 2 fun t138 =>
 au a0 (aa xs_60 0) 2 fun t139 =>
 aD M_62 t139 t134 2 fun M_63 =>
 au a0 t129 2 fun t140 =>
 aD M_63 t140 t138 2 fun M_64 =>
 af .add (aa xs_60 0) (N .i64 1) fun t111 =>
 next_59 [t111] M_64)) (
 J [(aa xs_1 0)] M_61)) [t106] M_58) (
 J [(aa xs_1 0)] M_58)))))) [(aa xs 0)] M) (fun xs_65 M_66 =>
 af .add (aa xs 1) (N .i64 1) fun t18 =>
 next [(aa xs_65 0),t18] M_66)) (
 Q (Bo false) M)) [t14,(N .i64 0)] M0
def iT (cv:(FuncId→aj)) (a0 a1 a2 a3 a4:AV) (M0:RM) (Q:ah) : Prop :=
 au a0 a3 2 fun t19 =>
 aB M0 t19 2 fun t20 =>
 au a0 a1 2 fun t23 =>
 aB M0 t23 2 fun t24 =>
 au a0 a1 2 fun t25 =>
 aD M0 t25 t20 2 fun M =>
 au a0 a3 2 fun t26 =>
 aD M t26 t24 2 fun M_0 =>
 af .add a1 (N .i64 1) fun t28 =>
 af .sub a2 (N .i64 1) fun t30 =>
 aU (fun next xs M_1 =>
 aU (fun next_2 xs_3 M_4 =>
 af .leq (aa xs_3 0) (aa xs 1) fun t33 =>
 ae t33 true (fun k=>k a4 M_4 none) (fun k=>k .undef M_4 none) fun t35 M_5 b =>
 ae t33 true (fun k_6=>k_6 a0 M_5 none) (fun k=>k .undef M_5 none) fun t36 M_7 b_8 =>
 ae t33 true (fun k_9=>k_9 a1 M_7 none) (fun k=>k .undef M_7 none) fun t37 M_10 b_11 =>
 ae t33 true (fun k_12=>au t36 t37 2 fun t38 =>
 k_12 t38 M_10 none) (fun k=>k .undef M_10 none) fun t38_13 M_14 b_15 =>
 ae t33 true (fun k_16=>aB M_14 t38_13 2 fun t39 =>
 k_16 t39 M_14 none) (fun k=>k .undef M_14 none) fun t39_17 M_18 b_19 =>
 ae t33 true (fun k_20=>k_20 a0 M_18 none) (fun k=>k .undef M_18 none) fun t40 M_21 b_22 =>
 ae t33 true (fun k_23=>k_23 (aa xs_3 0) M_21 none) (fun k=>k .undef M_21 none) fun t41 M_24 b_25 =>
 ae t33 true (fun k_26=>au t40 t41 2 fun t42 =>
 k_26 t42 M_24 none) (fun k=>k .undef M_24 none) fun t42_27 M_28 b_29 =>
 ae t33 true (fun k_30=>aB M_28 t42_27 2 fun t43 =>
 k_30 t43 M_28 none) (fun k=>k .undef M_28 none) fun t43_31 M_32 b_33 =>
 ai t33 true (fun k_34=>bN cv t35 [t39_17,t43_31] M_32 fun t44 M_35 =>
 k_34 t44 M_35) (fun k=>k .undef M_32) fun t44_36 M_37 =>
 ae t33 true (fun k_38=>af .lss t44_36 (N .i64 0) fun t45 =>
 k_38 t45 M_37 none) (fun k=>k .undef M_37 none) fun t45_39 M_40 b_41 =>
 ae t33 true (fun k_42=>dD t45_39 fun t46 =>
 k_42 t46 M_40 none) (fun k=>k .undef M_40 none) fun t46_43 M_44 b_45 =>
 aM t33 t46_43 (Bo false) fun t47 =>
 ay t47 (
 af .add (aa xs_3 0) (N .i64 1) fun t49 =>
 next_2 [t49] M_44) (
 aU (fun next_46 xs_47 M_48 =>
 af .leq (aa xs_3 0) (aa xs_47 0) fun t52 =>
 ae t52 true (fun k_49=>k_49 a4 M_48 none) (fun k=>k .undef M_48 none) fun t54 M_50 b_51 =>
 ae t52 true (fun k_52=>k_52 a0 M_50 none) (fun k=>k .undef M_50 none) fun t55 M_53 b_54 =>
 ae t52 true (fun k_55=>k_55 a1 M_53 none) (fun k=>k .undef M_53 none) fun t56 M_56 b_57 =>
 ae t52 true (fun k_58=>au t55 t56 2 fun t57 =>
 k_58 t57 M_56 none) (fun k=>k .undef M_56 none) fun t57_59 M_60 b_61 =>
 ae t52 true (fun k_62=>aB M_60 t57_59 2 fun t58 =>
 k_62 t58 M_60 none) (fun k=>k .undef M_60 none) fun t58_63 M_64 b_65 =>
 ae t52 true (fun k_66=>k_66 a0 M_64 none) (fun k=>k .undef M_64 none) fun t59 M_67 b_68 =>
 ae t52 true (fun k_69=>k_69 (aa xs_47 0) M_67 none) (fun k=>k .undef M_67 none) fun t60 M_70 b_71 =>
 ae t52 true (fun k_72=>au t59 t60 2 fun t61 =>
 k_72 t61 M_70 none) (fun k=>k .undef M_70 none) fun t61_73 M_74 b_75 =>
 ae t52 true (fun k_76=>aB M_74 t61_73 2 fun t62 =>
 k_76 t62 M_74 none) (fun k=>k .undef M_74 none) fun t62_77 M_78 b_79 =>
 ai t52 true (fun k_80=>bN cv t54 [t58_63,t62_77] M_78 fun t63 M_81 =>
 k_80 t63 M_81) (fun k=>k .undef M_78) fun t63_82 M_83 =>
 ae t52 true (fun k_84=>af .lss t63_82 (N .i64 0) fun t64 =>
 k_84 t64 M_83 none) (fun k=>k .undef M_83 none) fun t64_85 M_86 b_87 =>
 aM t52 t64_85 (Bo false) fun t65 =>
 ay t65 (
 af .sub (aa xs_47 0) (N .i64 1) fun t67 =>
 next_46 [t67] M_86) (
 af .gtr (aa xs_3 0) (aa xs_47 0) fun t70 =>
 ay t70 (
 Q (aa xs_3 0) M_86) (
 au a0 (aa xs_47 0) 2 fun t77 =>
 aB M_86 t77 2 fun t78 =>
 au a0 (aa xs_3 0) 2 fun t81 =>
 aB M_86 t81 2 fun t82 =>
 au a0 (aa xs_3 0) 2 fun t83 =>
 aD M_86 t83 t78 2 fun M_88 =>
 au a0 (aa xs_47 0) 2 fun t84 =>
 aD M_88 t84 t82 2 fun M_89 =>
 af .add (aa xs_3 0) (N .i64 1) fun t86 =>
 af .sub (aa xs_47 0) (N .i64 1) fun t88 =>
 next [t86,t88] M_89))) [(aa xs 1)] M_44)) [(aa xs 0)] M_1) [t28,t30] M_0
def lg (cv:(FuncId→aj)) (a0 a1 a2 a3 a4:AV) (M0:RM) (Q:ah) : Prop :=
 au a0 a3 2 fun t20 =>
 aB M0 t20 2 fun t21 =>
 au a0 a1 2 fun t24 =>
 aB M0 t24 2 fun t25 =>
 au a0 a1 2 fun t26 =>
 aD M0 t26 t21 2 fun M =>
 au a0 a3 2 fun t27 =>
 aD M t27 t25 2 fun M_0 =>
 af .add a1 (N .i64 1) fun t29 =>
 af .sub a2 (N .i64 1) fun t31 =>
 aU (fun next xs M_1 =>
 af .leq (aa xs 0) t31 fun t34 =>
 ae t34 true (fun k=>k a4 M_1 none) (fun k=>k .undef M_1 none) fun t36 M_2 b =>
 ae t34 true (fun k_3=>k_3 a0 M_2 none) (fun k=>k .undef M_2 none) fun t37 M_4 b_5 =>
 ae t34 true (fun k_6=>k_6 (aa xs 0) M_4 none) (fun k=>k .undef M_4 none) fun t38 M_7 b_8 =>
 ae t34 true (fun k_9=>au t37 t38 2 fun t39 =>
 k_9 t39 M_7 none) (fun k=>k .undef M_7 none) fun t39_10 M_11 b_12 =>
 ae t34 true (fun k_13=>aB M_11 t39_10 2 fun t40 =>
 k_13 t40 M_11 none) (fun k=>k .undef M_11 none) fun t40_14 M_15 b_16 =>
 ae t34 true (fun k_17=>k_17 a0 M_15 none) (fun k=>k .undef M_15 none) fun t41 M_18 b_19 =>
 ae t34 true (fun k_20=>k_20 a1 M_18 none) (fun k=>k .undef M_18 none) fun t42 M_21 b_22 =>
 ae t34 true (fun k_23=>au t41 t42 2 fun t43 =>
 k_23 t43 M_21 none) (fun k=>k .undef M_21 none) fun t43_24 M_25 b_26 =>
 ae t34 true (fun k_27=>aB M_25 t43_24 2 fun t44 =>
 k_27 t44 M_25 none) (fun k=>k .undef M_25 none) fun t44_28 M_29 b_30 =>
 ai t34 true (fun k_31=>bN cv t36 [t40_14,t44_28] M_29 fun t45 M_32 =>
 k_31 t45 M_32) (fun k=>k .undef M_29) fun t45_33 M_34 =>
 ae t34 true (fun k_35=>af .lss t45_33 (N .i64 0) fun t46 =>
 k_35 t46 M_34 none) (fun k=>k .undef M_34 none) fun t46_36 M_37 b_38 =>
 aM t34 t46_36 (Bo false) fun t47 =>
 ay t47 (
 af .add (aa xs 0) (N .i64 1) fun t49 =>
 next [t49] M_37) (
 aU (fun next_39 xs_40 M_41 =>
 af .leq (aa xs 0) (aa xs_40 0) fun t52 =>
 ae t52 true (fun k_42=>k_42 a4 M_41 none) (fun k=>k .undef M_41 none) fun t54 M_43 b_44 =>
 ae t52 true (fun k_45=>k_45 a0 M_43 none) (fun k=>k .undef M_43 none) fun t55 M_46 b_47 =>
 ae t52 true (fun k_48=>k_48 (aa xs_40 0) M_46 none) (fun k=>k .undef M_46 none) fun t56 M_49 b_50 =>
 ae t52 true (fun k_51=>au t55 t56 2 fun t57 =>
 k_51 t57 M_49 none) (fun k=>k .undef M_49 none) fun t57_52 M_53 b_54 =>
 ae t52 true (fun k_55=>aB M_53 t57_52 2 fun t58 =>
 k_55 t58 M_53 none) (fun k=>k .undef M_53 none) fun t58_56 M_57 b_58 =>
 ae t52 true (fun k_59=>k_59 a0 M_57 none) (fun k=>k .undef M_57 none) fun t59 M_60 b_61 =>
 ae t52 true (fun k_62=>k_62 a1 M_60 none) (fun k=>k .undef M_60 none) fun t60 M_63 b_64 =>
 ae t52 true (fun k_65=>au t59 t60 2 fun t61 =>
 k_65 t61 M_63 none) (fun k=>k .undef M_63 none) fun t61_66 M_67 b_68 =>
 ae t52 true (fun k_69=>aB M_67 t61_66 2 fun t62 =>
 k_69 t62 M_67 none) (fun k=>k .undef M_67 none) fun t62_70 M_71 b_72 =>
 ai t52 true (fun k_73=>bN cv t54 [t58_56,t62_70] M_71 fun t63 M_74 =>
 k_73 t63 M_74) (fun k=>k .undef M_71) fun t63_75 M_76 =>
 ae t52 true (fun k_77=>af .lss t63_75 (N .i64 0) fun t64 =>
 k_77 t64 M_76 none) (fun k=>k .undef M_76 none) fun t64_78 M_79 b_80 =>
 ae t52 true (fun k_81=>dD t64_78 fun t65 =>
 k_81 t65 M_79 none) (fun k=>k .undef M_79 none) fun t65_82 M_83 b_84 =>
 aM t52 t65_82 (Bo false) fun t66 =>
 ay t66 (
 af .sub (aa xs_40 0) (N .i64 1) fun t68 =>
 next_39 [t68] M_83) (
 af .gtr (aa xs 0) (aa xs_40 0) fun t71 =>
 ay t71 (
 au a0 a1 2 fun t78 =>
 aB M_83 t78 2 fun t79 =>
 au a0 (aa xs_40 0) 2 fun t82 =>
 aB M_83 t82 2 fun t83 =>
 au a0 (aa xs_40 0) 2 fun t84 =>
 aD M_83 t84 t79 2 fun M_85 =>
 au a0 a1 2 fun t85 =>
 aD M_85 t85 t83 2 fun M_86 =>
 Q (.tup [(aa xs_40 0),(Bo true)]) M_86) (
 au a0 (aa xs_40 0) 2 fun t93 =>
 aB M_83 t93 2 fun t94 =>
 au a0 (aa xs 0) 2 fun t97 =>
 aB M_83 t97 2 fun t98 =>
 au a0 (aa xs 0) 2 fun t99 =>
 aD M_83 t99 t94 2 fun M_87 =>
 au a0 (aa xs_40 0) 2 fun t100 =>
 aD M_87 t100 t98 2 fun M_88 =>
 af .add (aa xs 0) (N .i64 1) fun t102 =>
 af .sub (aa xs_40 0) (N .i64 1) fun t104 =>
 aU (fun next_89 xs_90 M_91 =>
 aU (fun next_92 xs_93 M_94 =>
 af .leq (aa xs_93 0) (aa xs_90 1) fun t107 =>
 ae t107 true (fun k_95=>k_95 a4 M_94 none) (fun k=>k .undef M_94 none) fun t109 M_96 b_97 =>
 ae t107 true (fun k_98=>k_98 a0 M_96 none) (fun k=>k .undef M_96 none) fun t110 M_99 b_100 =>
 ae t107 true (fun k_101=>k_101 (aa xs_93 0) M_99 none) (fun k=>k .undef M_99 none) fun t111 M_102 b_103 =>
 ae t107 true (fun k_104=>au t110 t111 2 fun t112 =>
 k_104 t112 M_102 none) (fun k=>k .undef M_102 none) fun t112_105 M_106 b_107 =>
 ae t107 true (fun k_108=>aB M_106 t112_105 2 fun t113 =>
 k_108 t113 M_106 none) (fun k=>k .undef M_106 none) fun t113_109 M_110 b_111 =>
 ae t107 true (fun k_112=>k_112 a0 M_110 none) (fun k=>k .undef M_110 none) fun t114 M_113 b_114 =>
 ae t107 true (fun k_115=>k_115 a1 M_113 none) (fun k=>k .undef M_113 none) fun t115 M_116 b_117 =>
 ae t107 true (fun k_118=>au t114 t115 2 fun t116 =>
 k_118 t116 M_116 none) (fun k=>k .undef M_116 none) fun t116_119 M_120 b_121 =>
 ae t107 true (fun k_122=>aB M_120 t116_119 2 fun t117 =>
 k_122 t117 M_120 none) (fun k=>k .undef M_120 none) fun t117_123 M_124 b_125 =>
 ai t107 true (fun k_126=>bN cv t109 [t113_109,t117_123] M_124 fun t118 M_127 =>
 k_126 t118 M_127) (fun k=>k .undef M_124) fun t118_128 M_129 =>
 ae t107 true (fun k_130=>af .lss t118_128 (N .i64 0) fun t119 =>
 k_130 t119 M_129 none) (fun k=>k .undef M_129 none) fun t119_131 M_132 b_133 =>
 aM t107 t119_131 (Bo false) fun t120 =>
 ay t120 (
 af .add (aa xs_93 0) (N .i64 1) fun t122 =>
 next_92 [t122] M_132) (
 aU (fun next_134 xs_135 M_136 =>
 af .leq (aa xs_93 0) (aa xs_135 0) fun t125 =>
 ae t125 true (fun k_137=>k_137 a4 M_136 none) (fun k=>k .undef M_136 none) fun t127 M_138 b_139 =>
 ae t125 true (fun k_140=>k_140 a0 M_138 none) (fun k=>k .undef M_138 none) fun t128 M_141 b_142 =>
 ae t125 true (fun k_143=>k_143 (aa xs_135 0) M_141 none) (fun k=>k .undef M_141 none) fun t129 M_144 b_145 =>
 ae t125 true (fun k_146=>au t128 t129 2 fun t130 =>
 k_146 t130 M_144 none) (fun k=>k .undef M_144 none) fun t130_147 M_148 b_149 =>
 ae t125 true (fun k_150=>aB M_148 t130_147 2 fun t131 =>
 k_150 t131 M_148 none) (fun k=>k .undef M_148 none) fun t131_151 M_152 b_153 =>
 ae t125 true (fun k_154=>k_154 a0 M_152 none) (fun k=>k .undef M_152 none) fun t132 M_155 b_156 =>
 ae t125 true (fun k_157=>k_157 a1 M_155 none) (fun k=>k .undef M_155 none) fun t133 M_158 b_159 =>
 ae t125 true (fun k_160=>au t132 t133 2 fun t134 =>
 k_160 t134 M_158 none) (fun k=>k .undef M_158 none) fun t134_161 M_162 b_163 =>
 ae t125 true (fun k_164=>aB M_162 t134_161 2 fun t135 =>
 k_164 t135 M_162 none) (fun k=>k .undef M_162 none) fun t135_165 M_166 b_167 =>
 ai t125 true (fun k_168=>bN cv t127 [t131_151,t135_165] M_166 fun t136 M_169 =>
 k_168 t136 M_169) (fun k=>k .undef M_166) fun t136_170 M_171 =>
 ae t125 true (fun k_172=>af .lss t136_170 (N .i64 0) fun t137 =>
 k_172 t137 M_171 none) (fun k=>k .undef M_171 none) fun t137_173 M_174 b_175 =>
 ae t125 true (fun k_176=>dD t137_173 fun t138 =>
 k_176 t138 M_174 none) (fun k=>k .undef M_174 none) fun t138_177 M_178 b_179 =>
 aM t125 t138_177 (Bo false) fun t139 =>
 ay t139 (
 af .sub (aa xs_135 0) (N .i64 1) fun t141 =>
 next_134 [t141] M_178) (
 af .gtr (aa xs_93 0) (aa xs_135 0) fun t144 =>
 ay t144 (
 au a0 a1 2 fun t169 =>
 aB M_178 t169 2 fun t170 =>
 au a0 (aa xs_135 0) 2 fun t173 =>
 aB M_178 t173 2 fun t174 =>
 au a0 (aa xs_135 0) 2 fun t175 =>
 aD M_178 t175 t170 2 fun M_180 =>
 au a0 a1 2 fun t176 =>
 aD M_180 t176 t174 2 fun M_181 =>
 Q (.tup [(aa xs_135 0),(Bo false)]) M_181) (
 au a0 (aa xs_135 0) 2 fun t151 =>
 aB M_178 t151 2 fun t152 =>
 au a0 (aa xs_93 0) 2 fun t155 =>
 aB M_178 t155 2 fun t156 =>
 au a0 (aa xs_93 0) 2 fun t157 =>
 aD M_178 t157 t152 2 fun M_182 =>
 au a0 (aa xs_135 0) 2 fun t158 =>
 aD M_182 t158 t156 2 fun M_183 =>
 af .add (aa xs_93 0) (N .i64 1) fun t160 =>
 af .sub (aa xs_135 0) (N .i64 1) fun t162 =>
 next_89 [t160,t162] M_183))) [(aa xs_90 1)] M_132)) [(aa xs_90 0)] M_91) [t102,t104] M_88))) [t31] M_37)) [t29] M_0
def xX (a0:AV) (M0:RM) (Q:ah) : Prop :=
 af .neq a0 a0 fun t5 =>
 Q t5 M0
def kC (cv:(FuncId→aj)) (a0 a1 a2 a3 a4:AV) (M0:RM) (Q:ah) : Prop :=
 aU (fun next xs M =>
 af .mul (N .i64 2) (aa xs 0) fun t14 =>
 af .add t14 (N .i64 1) fun t15 =>
 af .geq t15 a2 fun t18 =>
 ay t18 (
 Q (.tup []) M) (
 bX (fun J =>
 af .add t15 (N .i64 1) fun t20 =>
 af .lss t20 a2 fun t22 =>
 ae t22 true (fun k=>k a4 M none) (fun k=>k .undef M none) fun t24 M_0 b =>
 ae t22 true (fun k_1=>k_1 a0 M_0 none) (fun k=>k .undef M_0 none) fun t25 M_2 b_3 =>
 ae t22 true (fun k_4=>k_4 a3 M_2 none) (fun k=>k .undef M_2 none) fun t26 M_5 b_6 =>
 ae t22 true (fun k_7=>k_7 t15 M_5 none) (fun k=>k .undef M_5 none) fun t27 M_8 b_9 =>
 ae t22 true (fun k_10=>af .add t26 t27 fun t28 =>
 k_10 t28 M_8 none) (fun k=>k .undef M_8 none) fun t28_11 M_12 b_13 =>
 ae t22 true (fun k_14=>au t25 t28_11 5 fun t29 =>
 k_14 t29 M_12 none) (fun k=>k .undef M_12 none) fun t29_15 M_16 b_17 =>
 ae t22 true (fun k_18=>aB M_16 t29_15 5 fun t30 =>
 k_18 t30 M_16 none) (fun k=>k .undef M_16 none) fun t30_19 M_20 b_21 =>
 ae t22 true (fun k_22=>k_22 a0 M_20 none) (fun k=>k .undef M_20 none) fun t31 M_23 b_24 =>
 ae t22 true (fun k_25=>k_25 a3 M_23 none) (fun k=>k .undef M_23 none) fun t32 M_26 b_27 =>
 ae t22 true (fun k_28=>k_28 t15 M_26 none) (fun k=>k .undef M_26 none) fun t33 M_29 b_30 =>
 ae t22 true (fun k_31=>af .add t32 t33 fun t34 =>
 k_31 t34 M_29 none) (fun k=>k .undef M_29 none) fun t34_32 M_33 b_34 =>
 ae t22 true (fun k_35=>af .add t34_32 (N .i64 1) fun t35 =>
 k_35 t35 M_33 none) (fun k=>k .undef M_33 none) fun t35_36 M_37 b_38 =>
 ae t22 true (fun k_39=>au t31 t35_36 5 fun t36 =>
 k_39 t36 M_37 none) (fun k=>k .undef M_37 none) fun t36_40 M_41 b_42 =>
 ae t22 true (fun k_43=>aB M_41 t36_40 5 fun t37 =>
 k_43 t37 M_41 none) (fun k=>k .undef M_41 none) fun t37_44 M_45 b_46 =>
 ai t22 true (fun k_47=>bN cv t24 [t30_19,t37_44] M_45 fun t38 M_48 =>
 k_47 t38 M_48) (fun k=>k .undef M_45) fun t38_49 M_50 =>
 ae t22 true (fun k_51=>af .lss t38_49 (N .i64 0) fun t39 =>
 k_51 t39 M_50 none) (fun k=>k .undef M_50 none) fun t39_52 M_53 b_54 =>
 aM t22 t39_52 (Bo false) fun t40 =>
 ay t40 (
 af .add t15 (N .i64 1) fun t42 =>
 J [t42] M_53) (
 J [t15] M_53)) (fun xs_55 M_56 =>
 af .add a3 (aa xs 0) fun t47 =>
 au a0 t47 5 fun t48 =>
 aB M_56 t48 5 fun t49 =>
 af .add a3 (aa xs_55 0) fun t53 =>
 au a0 t53 5 fun t54 =>
 aB M_56 t54 5 fun t55 =>
 bN cv a4 [t49,t55] M_56 fun t56 M_57 =>
 af .lss t56 (N .i64 0) fun t57 =>
 dD t57 fun t58 =>
 ay t58 (
 Q (.tup []) M_57) (
 af .add a3 (aa xs 0) fun t62 =>
 af .add a3 (aa xs_55 0) fun t66 =>
 af .add a3 (aa xs_55 0) fun t70 =>
 au a0 t70 5 fun t71 =>
 aB M_57 t71 5 fun t72 =>
 af .add a3 (aa xs 0) fun t76 =>
 au a0 t76 5 fun t77 =>
 aB M_57 t77 5 fun t78 =>
 au a0 t62 5 fun t79 =>
 aD M_57 t79 t72 5 fun M_58 =>
 au a0 t66 5 fun t80 =>
 aD M_58 t80 t78 5 fun M_59 =>
 next [(aa xs_55 0)] M_59)))) [a1] M0
def iy (p1:aj) (a0 a1 a2 a3:AV) (M0:RM) (Q:ah) : Prop :=
 af .sub a1 (N .i64 1) fun bW =>
 af .add a1 (N .i64 1) fun t14 =>
 p1 [a0,bW,a1,t14,a2,a3] M0 fun t17 M =>
 Q t17 M
def l6 (p1:aj) (a0 a1 a2 a3 a4 a5:AV) (M0:RM) (Q:ah) : Prop :=
 p1 [a0,a1,a2,a4,a5] M0 fun t19 M =>
 dJ t19 0 fun t20 =>
 dJ t19 1 fun t21 =>
 p1 [a0,t21,a3,a4,a5] M fun t28 M_0 =>
 dJ t28 0 fun t29 =>
 dJ t28 1 fun t30 =>
 p1 [a0,t20,t29,a4,a5] M_0 fun t37 M_1 =>
 dJ t37 0 fun t38 =>
 dJ t37 1 fun t39 =>
 Q t39 M_1
def lK (cv:(FuncId→aj)) (a0 a1 a2 a3 a4:AV) (M0:RM) (Q:ah) : Prop :=
 aU (fun next xs M =>
 af .mul (N .i64 2) (aa xs 0) fun t14 =>
 af .add t14 (N .i64 1) fun t15 =>
 af .geq t15 a2 fun t18 =>
 ay t18 (
 Q (.tup []) M) (
 bX (fun J =>
 af .add t15 (N .i64 1) fun t20 =>
 af .lss t20 a2 fun t22 =>
 ae t22 true (fun k=>k a4 M none) (fun k=>k .undef M none) fun t24 M_0 b =>
 ae t22 true (fun k_1=>k_1 a0 M_0 none) (fun k=>k .undef M_0 none) fun t25 M_2 b_3 =>
 ae t22 true (fun k_4=>k_4 a3 M_2 none) (fun k=>k .undef M_2 none) fun t26 M_5 b_6 =>
 ae t22 true (fun k_7=>k_7 t15 M_5 none) (fun k=>k .undef M_5 none) fun t27 M_8 b_9 =>
 ae t22 true (fun k_10=>af .add t26 t27 fun t28 =>
 k_10 t28 M_8 none) (fun k=>k .undef M_8 none) fun t28_11 M_12 b_13 =>
 ae t22 true (fun k_14=>au t25 t28_11 2 fun t29 =>
 k_14 t29 M_12 none) (fun k=>k .undef M_12 none) fun t29_15 M_16 b_17 =>
 ae t22 true (fun k_18=>aB M_16 t29_15 2 fun t30 =>
 k_18 t30 M_16 none) (fun k=>k .undef M_16 none) fun t30_19 M_20 b_21 =>
 ae t22 true (fun k_22=>k_22 a0 M_20 none) (fun k=>k .undef M_20 none) fun t31 M_23 b_24 =>
 ae t22 true (fun k_25=>k_25 a3 M_23 none) (fun k=>k .undef M_23 none) fun t32 M_26 b_27 =>
 ae t22 true (fun k_28=>k_28 t15 M_26 none) (fun k=>k .undef M_26 none) fun t33 M_29 b_30 =>
 ae t22 true (fun k_31=>af .add t32 t33 fun t34 =>
 k_31 t34 M_29 none) (fun k=>k .undef M_29 none) fun t34_32 M_33 b_34 =>
 ae t22 true (fun k_35=>af .add t34_32 (N .i64 1) fun t35 =>
 k_35 t35 M_33 none) (fun k=>k .undef M_33 none) fun t35_36 M_37 b_38 =>
 ae t22 true (fun k_39=>au t31 t35_36 2 fun t36 =>
 k_39 t36 M_37 none) (fun k=>k .undef M_37 none) fun t36_40 M_41 b_42 =>
 ae t22 true (fun k_43=>aB M_41 t36_40 2 fun t37 =>
 k_43 t37 M_41 none) (fun k=>k .undef M_41 none) fun t37_44 M_45 b_46 =>
 ai t22 true (fun k_47=>bN cv t24 [t30_19,t37_44] M_45 fun t38 M_48 =>
 k_47 t38 M_48) (fun k=>k .undef M_45) fun t38_49 M_50 =>
 ae t22 true (fun k_51=>af .lss t38_49 (N .i64 0) fun t39 =>
 k_51 t39 M_50 none) (fun k=>k .undef M_50 none) fun t39_52 M_53 b_54 =>
 aM t22 t39_52 (Bo false) fun t40 =>
 ay t40 (
 af .add t15 (N .i64 1) fun t42 =>
 J [t42] M_53) (
 J [t15] M_53)) (fun xs_55 M_56 =>
 af .add a3 (aa xs 0) fun t47 =>
 au a0 t47 2 fun t48 =>
 aB M_56 t48 2 fun t49 =>
 af .add a3 (aa xs_55 0) fun t53 =>
 au a0 t53 2 fun t54 =>
 aB M_56 t54 2 fun t55 =>
 bN cv a4 [t49,t55] M_56 fun t56 M_57 =>
 af .lss t56 (N .i64 0) fun t57 =>
 dD t57 fun t58 =>
 ay t58 (
 Q (.tup []) M_57) (
 af .add a3 (aa xs 0) fun t62 =>
 af .add a3 (aa xs_55 0) fun t66 =>
 af .add a3 (aa xs_55 0) fun t70 =>
 au a0 t70 2 fun t71 =>
 aB M_57 t71 2 fun t72 =>
 af .add a3 (aa xs 0) fun t76 =>
 au a0 t76 2 fun t77 =>
 aB M_57 t77 2 fun t78 =>
 au a0 t62 2 fun t79 =>
 aD M_57 t79 t72 2 fun M_58 =>
 au a0 t66 2 fun t80 =>
 aD M_58 t80 t78 2 fun M_59 =>
 next [(aa xs_55 0)] M_59)))) [a1] M0
def jc (p1:aj) (a0 a1 a2 a3:AV) (M0:RM) (Q:ah) : Prop :=
 af .sub a1 (N .i64 1) fun bW =>
 af .add a1 (N .i64 1) fun t14 =>
 p1 [a0,bW,a1,t14,a2,a3] M0 fun t17 M =>
 Q t17 M
def mQ (p1:aj) (a0 a1 a2 a3 a4 a5:AV) (M0:RM) (Q:ah) : Prop :=
 p1 [a0,a1,a2,a4,a5] M0 fun t19 M =>
 dJ t19 0 fun t20 =>
 dJ t19 1 fun t21 =>
 p1 [a0,t21,a3,a4,a5] M fun t28 M_0 =>
 dJ t28 0 fun t29 =>
 dJ t28 1 fun t30 =>
 p1 [a0,t20,t29,a4,a5] M_0 fun t37 M_1 =>
 dJ t37 0 fun t38 =>
 dJ t37 1 fun t39 =>
 Q t39 M_1
def lX (cv:(FuncId→aj)) (a0 a1 a2 a3 a4:AV) (M0:RM) (Q:ah) : Prop :=
 au a0 a2 5 fun t15 =>
 aB M0 t15 5 fun t16 =>
 au a0 a1 5 fun t19 =>
 aB M0 t19 5 fun t20 =>
 bN cv a4 [t16,t20] M0 fun t21 M =>
 af .lss t21 (N .i64 0) fun t22 =>
 ay t22 (
 bQ a3 fun t24 =>
 ax M t24 fun t25 =>
 af .add t25 (N .i64 1) fun t26 =>
 bQ a3 fun t27 =>
 aD M t27 t26 1 fun M_0 =>
 Q (.tup [a2,a1]) M_0) (
 Q (.tup [a1,a2]) M)
def mO (cv:(FuncId→aj)) (a0 a1 a2 a3 a4:AV) (M0:RM) (Q:ah) : Prop :=
 au a0 a2 2 fun t15 =>
 aB M0 t15 2 fun t16 =>
 au a0 a1 2 fun t19 =>
 aB M0 t19 2 fun t20 =>
 bN cv a4 [t16,t20] M0 fun t21 M =>
 af .lss t21 (N .i64 0) fun t22 =>
 ay t22 (
 bQ a3 fun t24 =>
 ax M t24 fun t25 =>
 af .add t25 (N .i64 1) fun t26 =>
 bQ a3 fun t27 =>
 aD M t27 t26 1 fun M_0 =>
 Q (.tup [a2,a1]) M_0) (
 Q (.tup [a1,a2]) M)
end Go.Ab.Crw
set_option maxRecDepth 100000
set_option linter.unusedVariables false
set_option linter.unusedSimpArgs false
namespace Go.Ab.ak
open Go Go.Ab
def Ht (p1:Nat) (M0:RM) (Q:ah) : Prop :=
 jA [(N .u64 0),(.sc (.slice none 0 0)),(N .u64 0),(.sc (.slice none 0 0)),(N .u64 0),(.sc (.slice none 0 0)),(N .u64 0),(.sc (.slice none 0 0)),(N .u64 0),(.sc (.slice none 0 0)),(N .u64 0),(.sc (.slice none 0 0)),(N .u64 0),(.sc (.slice none 0 0)),(N .u64 0),(.sc (.slice none 0 0)),(N .u64 0),(.sc (.slice none 0 0)),(N .u64 0),(.sc (.slice none 0 0)),(N .u64 0),(.sc (.slice none 0 0)),(N .u64 0),(.sc (.slice none 0 0)),(N .u64 0),(.sc (.slice none 0 0)),(N .u64 0),(.sc (.slice none 0 0)),(N .u64 0),(.sc (.slice none 0 0)),(N .u64 0),(.sc (.slice none 0 0))] [] fun t1 =>
 gz p1 t1 fun r f =>
 bZ r f M0 fun t2 M =>
 Q t2 M
def BU (p1:Nat) (p2 p3:aj) (a0 a1:AV) (M0:RM) (Q:ah) : Prop :=
 gz p1 a1 fun r f =>
 bZ r f M0 fun t3 M =>
 aB M t3 2 fun t6 =>
 p2 [t6] M fun t7 M_0 =>
 dD t7 fun t8 =>
 ay t8 (
 Q (N .i64 1) M_0) (
 aI t3 0 fun bW =>
 ax M_0 bW fun t12 =>
 bQ a0 fun bO =>
 aI bO 0 fun t14 =>
 Ca t14 t12 16 2 fun t15 =>
 aI t3 1 fun t16 =>
 ax M_0 t16 fun t17 =>
 p3 [t15,t17] M_0 fun t18 M_1 =>
 dD t18 fun t19 =>
 ay t19 (
 Q (N .i64 2) M_1) (
 Q (N .i64 0) M_1))
def EO (p1:Nat) (a0:AV) (M0:RM) (Q:ah) : Prop :=
 gz p1 a0 fun r f =>
 bZ r f M0 fun t1 M =>
 aI t1 0 fun t3 =>
 ax M t3 fun t4 =>
 af .geq t4 (N .i64 0) fun t5 =>
 ai t5 true (fun k=>aI t1 0 fun t7 =>
 k t7 M) (fun k=>k .undef M) fun t7_0 M_1 =>
 ai t5 true (fun k_2=>ax M_1 t7_0 fun t8 =>
 k_2 t8 M_1) (fun k=>k .undef M_1) fun t8_3 M_4 =>
 ai t5 true (fun k_5=>af .lss t8_3 (N .i64 16) fun t9 =>
 k_5 t9 M_4) (fun k=>k .undef M_4) fun t9_6 M_7 =>
 aM t5 t9_6 (Bo false) fun bV =>
 ai bV true (fun k_8=>aI t1 1 fun t12 =>
 k_8 t12 M_7) (fun k=>k .undef M_7) fun t12_9 M_10 =>
 ai bV true (fun k_11=>ax M_10 t12_9 fun bO =>
 k_11 bO M_10) (fun k=>k .undef M_10) fun t13_12 M_13 =>
 ai bV true (fun k_14=>af .geq t13_12 (N .u64 1) fun t14 =>
 k_14 t14 M_13) (fun k=>k .undef M_13) fun t14_15 M_16 =>
 aM bV t14_15 (Bo false) fun t15 =>
 ai t15 true (fun k_17=>aI t1 1 fun t17 =>
 k_17 t17 M_16) (fun k=>k .undef M_16) fun t17_18 M_19 =>
 ai t15 true (fun k_20=>ax M_19 t17_18 fun t18 =>
 k_20 t18 M_19) (fun k=>k .undef M_19) fun t18_21 M_22 =>
 ai t15 true (fun k_23=>af .leq t18_21 (N .u64 1099511627776) fun t19 =>
 k_23 t19 M_22) (fun k=>k .undef M_22) fun t19_24 M_25 =>
 aM t15 t19_24 (Bo false) fun t20 =>
 Q t20 M_25
def Fp (p1:Nat) (a0:AV) (M0:RM) (Q:ah) : Prop :=
 gz p1 a0 fun r f =>
 bZ r f M0 fun t1 M =>
 aI t1 0 fun t3 =>
 ax M t3 fun t4 =>
 af .geq t4 (N .i64 0) fun t5 =>
 ai t5 true (fun k=>aI t1 0 fun t7 =>
 k t7 M) (fun k=>k .undef M) fun t7_0 M_1 =>
 ai t5 true (fun k_2=>ax M_1 t7_0 fun t8 =>
 k_2 t8 M_1) (fun k=>k .undef M_1) fun t8_3 M_4 =>
 ai t5 true (fun k_5=>af .lss t8_3 (N .i64 16) fun t9 =>
 k_5 t9 M_4) (fun k=>k .undef M_4) fun t9_6 M_7 =>
 aM t5 t9_6 (Bo false) fun bV =>
 ai bV true (fun k_8=>aI t1 1 fun t12 =>
 k_8 t12 M_7) (fun k=>k .undef M_7) fun t12_9 M_10 =>
 ai bV true (fun k_11=>ax M_10 t12_9 fun bO =>
 k_11 bO M_10) (fun k=>k .undef M_10) fun t13_12 M_13 =>
 ai bV true (fun k_14=>af .geq t13_12 (N .u64 1) fun t14 =>
 k_14 t14 M_13) (fun k=>k .undef M_13) fun t14_15 M_16 =>
 aM bV t14_15 (Bo false) fun t15 =>
 ai t15 true (fun k_17=>aI t1 1 fun t17 =>
 k_17 t17 M_16) (fun k=>k .undef M_16) fun t17_18 M_19 =>
 ai t15 true (fun k_20=>ax M_19 t17_18 fun t18 =>
 k_20 t18 M_19) (fun k=>k .undef M_19) fun t18_21 M_22 =>
 ai t15 true (fun k_23=>af .leq t18_21 (N .u64 1099511627776) fun t19 =>
 k_23 t19 M_22) (fun k=>k .undef M_22) fun t19_24 M_25 =>
 aM t15 t19_24 (Bo false) fun t20 =>
 Q t20 M_25
def zq (p1 p2:aj) (a0:AV) (M0:RM) (Q:ah) : Prop :=
 p1 [] M0 fun t4 M =>
 p2 [t4,a0] M fun t7 M_0 =>
 Q t4 M_0
def Cr (p1:Nat) (p2 p3:aj) (a0 a1:AV) (M0:RM) (Q:ah) : Prop :=
 gz p1 a1 fun r f =>
 bZ r f M0 fun t3 M =>
 aB M t3 2 fun t5 =>
 p2 [t5] M fun t6 M_0 =>
 ae t6 true (fun k=>k a0 M_0 none) (fun k=>k .undef M_0 none) fun t8 M_1 b =>
 ae t6 true (fun k_2=>aI t3 0 fun t9 =>
 k_2 t9 M_1 none) (fun k=>k .undef M_1 none) fun t9_3 M_4 b_5 =>
 ae t6 true (fun k_6=>ax M_4 t9_3 fun bV =>
 k_6 bV M_4 none) (fun k=>k .undef M_4 none) fun t10_7 M_8 b_9 =>
 ae t6 true (fun k_10=>bQ t8 fun bW =>
 k_10 bW M_8 none) (fun k=>k .undef M_8 none) fun t11_11 M_12 b_13 =>
 ae t6 true (fun k_14=>aI t11_11 0 fun t12 =>
 k_14 t12 M_12 none) (fun k=>k .undef M_12 none) fun t12_15 M_16 b_17 =>
 ae t6 true (fun k_18=>Ca t12_15 t10_7 16 2 fun bO =>
 k_18 bO M_16 none) (fun k=>k .undef M_16 none) fun t13_19 M_20 b_21 =>
 ae t6 true (fun k_22=>aI t3 1 fun t14 =>
 k_22 t14 M_20 none) (fun k=>k .undef M_20 none) fun t14_23 M_24 b_25 =>
 ae t6 true (fun k_26=>ax M_24 t14_23 fun t15 =>
 k_26 t15 M_24 none) (fun k=>k .undef M_24 none) fun t15_27 M_28 b_29 =>
 ai t6 true (fun k_30=>p3 [t13_19,t15_27] M_28 fun t16 M_31 =>
 k_30 t16 M_31) (fun k=>k .undef M_28) fun t16_32 M_33 =>
 aM t6 t16_32 (Bo false) fun t17 =>
 Q t17 M_33
def z8 (p1 p2:Nat) (p3 p4 p5 p6:aj) (a0 a1:AV) (M0:RM) (Q:ah) : Prop :=
 aU (fun next xs M =>
 af .lss (aa xs 0) (N .i64 16) fun t8 =>
 ay t8 (
 bQ a0 fun t12 =>
 aI t12 0 fun bO =>
 Ca bO (aa xs 0) 16 2 fun t14 =>
 bQ a1 fun t17 =>
 aI t17 0 fun t18 =>
 Ca t18 (aa xs 0) 16 2 fun t19 =>
 aB M t19 2 fun t20 =>
 xM (.row [(N .u64 0),(.sc (.slice none 0 0))] false p1 0) (fun b=>.ptr b 0) M fun t6 M_0 b =>
 aD M_0 t6 t20 2 fun M_1 =>
 bQ t14 fun t23 =>
 aI t23 0 fun t24 =>
 ax M_1 t24 fun t25 =>
 aI t6 0 fun t26 =>
 ax M_1 t26 fun t27 =>
 Hm true t25 t27 fun t28 =>
 bQ t14 fun t29 =>
 aI t29 0 fun t30 =>
 aD M_1 t30 t28 1 fun M_2 =>
 bQ t14 fun t33 =>
 aI t33 1 fun t34 =>
 ax M_2 t34 fun t35 =>
 aI t6 1 fun t36 =>
 ax M_2 t36 fun t37 =>
 fO p2 2 [(.sc (.slice none 0 0))] [(0,1,t35),(1,1,t37)] fun r f =>
 xM r f M_2 fun t38 M_3 b_4 =>
 p3 [t38] M_3 fun t39 M_5 =>
 bQ t14 fun t40 =>
 aI t40 1 fun t41 =>
 aD M_5 t41 t39 1 fun M_6 =>
 bQ t14 fun t43 =>
 aI t43 1 fun t44 =>
 ax M_6 t44 fun t45 =>
 p4 [t45] M_6 fun t46 M_7 =>
 bQ t14 fun t49 =>
 aI t49 1 fun t50 =>
 ax M_7 t50 fun t51 =>
 p5 [t51] M_7 fun t52 M_8 =>
 bQ t14 fun t53 =>
 aI t53 1 fun t54 =>
 aD M_8 t54 t52 1 fun M_9 =>
 p6 [t14] M_9 fun t56 M_10 =>
 af .add (aa xs 0) (N .i64 1) fun t57 =>
 next [t57] M_10) (
 Q (.tup []) M)) [(N .i64 0)] M0
def wM (p1:Nat) (p2:aj) (a0 a1:AV) (M0:RM) (Q:ah) : Prop :=
 bQ a0 fun bW =>
 aI bW 0 fun t12 =>
 aB M0 t12 32 fun bO =>
 aU (fun next xs M =>
 af .lss (aa xs 0) (N .i64 16) fun t15 =>
 ay t15 (
 Kj bO (aa xs 0) 16 2 fun t17 =>
 bZ (.row [(N .u64 0),(.sc (.slice none 0 0))] false p1 0) (fun b=>.ptr b 0) M fun t6 M_0 =>
 aD M_0 t6 t17 2 fun M_1 =>
 bQ a1 fun t20 =>
 aI t20 0 fun t21 =>
 Ca t21 (aa xs 0) 16 2 fun t22 =>
 aI t6 0 fun t23 =>
 ax M_1 t23 fun t24 =>
 bQ t22 fun t26 =>
 aI t26 0 fun t27 =>
 ax M_1 t27 fun t28 =>
 af .gtr t24 t28 fun t29 =>
 ay t29 (
 Q (Bo false) M_1) (
 aI t6 1 fun t30 =>
 ax M_1 t30 fun t31 =>
 cK t31 fun t32 =>
 aU (fun next_2 xs_3 M_4 =>
 af .lss (aa xs_3 0) t32 fun t34 =>
 ay t34 (
 au t31 (aa xs_3 0) 1 fun t35 =>
 ax M_4 t35 fun t36 =>
 p2 [t22,t36] M_4 fun t39 M_5 =>
 dD t39 fun t40 =>
 ay t40 (
 Q (Bo false) M_5) (
 af .add (aa xs_3 0) (N .i64 1) fun t41 =>
 next_2 [t41] M_5)) (
 af .add (aa xs 0) (N .i64 1) fun t42 =>
 next [t42] M_4)) [(N .i64 0)] M_1)) (
 Q (Bo true) M)) [(N .i64 0)] M0
def KA (p1:Nat) (a0 a1:AV) (M0:RM) (Q:ah) : Prop :=
 gz p1 a0 fun r f =>
 bZ r f M0 fun t2 M =>
 gz p1 a1 fun r_0 f_1 =>
 bZ r_0 f_1 M fun t3 M_2 =>
 aI t2 1 fun t5 =>
 ax M_2 t5 fun t6 =>
 aI t3 1 fun t7 =>
 ax M_2 t7 fun t8 =>
 af .lss t6 t8 fun t9 =>
 ai t9 false (fun k=>aI t2 1 fun bW =>
 k bW M_2) (fun k=>k .undef M_2) fun t11_3 M_4 =>
 ai t9 false (fun k_5=>ax M_4 t11_3 fun t12 =>
 k_5 t12 M_4) (fun k=>k .undef M_4) fun t12_6 M_7 =>
 ai t9 false (fun k_8=>aI t3 1 fun bO =>
 k_8 bO M_7) (fun k=>k .undef M_7) fun t13_9 M_10 =>
 ai t9 false (fun k_11=>ax M_10 t13_9 fun t14 =>
 k_11 t14 M_10) (fun k=>k .undef M_10) fun t14_12 M_13 =>
 ai t9 false (fun k_14=>af .eql t12_6 t14_12 fun t15 =>
 k_14 t15 M_13) (fun k=>k .undef M_13) fun t15_15 M_16 =>
 ai t9 false (fun k_17=>k_17 t15_15 M_16) (fun k=>k .undef M_16) fun t16 M_18 =>
 ai t16 true (fun k_19=>aI t2 0 fun t17 =>
 k_19 t17 M_18) (fun k=>k .undef M_18) fun t17_20 M_21 =>
 ai t16 true (fun k_22=>ax M_21 t17_20 fun t18 =>
 k_22 t18 M_21) (fun k=>k .undef M_21) fun t18_23 M_24 =>
 ai t16 true (fun k_25=>aI t3 0 fun t19 =>
 k_25 t19 M_24) (fun k=>k .undef M_24) fun t19_26 M_27 =>
 ai t16 true (fun k_28=>ax M_27 t19_26 fun t20 =>
 k_28 t20 M_27) (fun k=>k .undef M_27) fun t20_29 M_30 =>
 ai t16 true (fun k_31=>af .lss t18_23 t20_29 fun t21 =>
 k_31 t21 M_30) (fun k=>k .undef M_30) fun t21_32 M_33 =>
 ai t9 false (fun k_34=>aM t16 t21_32 (Bo false) fun t22 =>
 k_34 t22 M_33) (fun k=>k .undef M_33) fun t22_35 M_36 =>
 aM t9 (Bo true) t22_35 fun t23 =>
 Q t23 M_36
def EB (p1:Nat) (a0 a1:AV) (M0:RM) (Q:ah) : Prop :=
 gz p1 a0 fun r f =>
 bZ r f M0 fun t2 M =>
 gz p1 a1 fun r_0 f_1 =>
 bZ r_0 f_1 M fun t3 M_2 =>
 aI t2 1 fun t5 =>
 ax M_2 t5 fun t6 =>
 aI t3 1 fun t7 =>
 ax M_2 t7 fun t8 =>
 af .lss t6 t8 fun t9 =>
 ai t9 false (fun k=>aI t2 1 fun bW =>
 k bW M_2) (fun k=>k .undef M_2) fun t11_3 M_4 =>
 ai t9 false (fun k_5=>ax M_4 t11_3 fun t12 =>
 k_5 t12 M_4) (fun k=>k .undef M_4) fun t12_6 M_7 =>
 ai t9 false (fun k_8=>aI t3 1 fun bO =>
 k_8 bO M_7) (fun k=>k .undef M_7) fun t13_9 M_10 =>
 ai t9 false (fun k_11=>ax M_10 t13_9 fun t14 =>
 k_11 t14 M_10) (fun k=>k .undef M_10) fun t14_12 M_13 =>
 ai t9 false (fun k_14=>af .eql t12_6 t14_12 fun t15 =>
 k_14 t15 M_13) (fun k=>k .undef M_13) fun t15_15 M_16 =>
 ai t9 false (fun k_17=>k_17 t15_15 M_16) (fun k=>k .undef M_16) fun t16 M_18 =>
 ai t16 true (fun k_19=>aI t2 0 fun t17 =>
 k_19 t17 M_18) (fun k=>k .undef M_18) fun t17_20 M_21 =>
 ai t16 true (fun k_22=>ax M_21 t17_20 fun t18 =>
 k_22 t18 M_21) (fun k=>k .undef M_21) fun t18_23 M_24 =>
 ai t16 true (fun k_25=>aI t3 0 fun t19 =>
 k_25 t19 M_24) (fun k=>k .undef M_24) fun t19_26 M_27 =>
 ai t16 true (fun k_28=>ax M_27 t19_26 fun t20 =>
 k_28 t20 M_27) (fun k=>k .undef M_27) fun t20_29 M_30 =>
 ai t16 true (fun k_31=>af .lss t18_23 t20_29 fun t21 =>
 k_31 t21 M_30) (fun k=>k .undef M_30) fun t21_32 M_33 =>
 ai t9 false (fun k_34=>aM t16 t21_32 (Bo false) fun t22 =>
 k_34 t22 M_33) (fun k=>k .undef M_33) fun t22_35 M_36 =>
 aM t9 (Bo true) t22_35 fun t23 =>
 Q t23 M_36
def Ad (p1:aj) (p2 p3:Nat) (p4 p5 p6:aj) (a0 a1:AV) (M0:RM) (Q:ah) : Prop :=
 bQ a0 fun bV =>
 aI bV 1 fun bW =>
 ax M0 bW fun t12 =>
 p1 [t12,a1] M0 fun t14 M =>
 dJ t14 0 fun t15 =>
 dJ t14 1 fun t16 =>
 ai t16 false (fun k=>k a1 M) (fun k=>k .undef M) fun t19 M_0 =>
 ai t16 false (fun k_1=>k_1 a0 M_0) (fun k=>k .undef M_0) fun t20 M_2 =>
 ai t16 false (fun k_3=>bQ t20 fun t21 =>
 k_3 t21 M_2) (fun k=>k .undef M_2) fun t21_4 M_5 =>
 ai t16 false (fun k_6=>aI t21_4 0 fun t22 =>
 k_6 t22 M_5) (fun k=>k .undef M_5) fun t22_7 M_8 =>
 ai t16 false (fun k_9=>ax M_8 t22_7 fun t23 =>
 k_9 t23 M_8) (fun k=>k .undef M_8) fun t23_10 M_11 =>
 ai t16 false (fun k_12=>af .leq t19 t23_10 fun t24 =>
 k_12 t24 M_11) (fun k=>k .undef M_11) fun t24_13 M_14 =>
 aM t16 (Bo true) t24_13 fun t25 =>
 ay t25 (
 Q (Bo true) M_14) (
 bQ a0 fun t27 =>
 aI t27 0 fun t28 =>
 ax M_14 t28 fun t29 =>
 bQ a0 fun t31 =>
 aI t31 1 fun t32 =>
 ax M_14 t32 fun t33 =>
 fO p2 1 [(N .u64 0)] [(0,1,a1)] fun r f =>
 xM r f M_14 fun t37 M_15 b =>
 xM (.row [(N .u64 0),(.sc (.slice none 0 0))] false p3 0) (fun b=>.ptr b 0) M_15 fun t7 M_16 b_17 =>
 p4 [t33] M_16 fun t34 M_18 =>
 ax M_18 t28 fun t29_26 =>
 (t29_26=t29∧fO p2 1 [(N .u64 0)] [(0,1,a1)] fun r_24 f_25 =>
 (CZ b M_18 r_24 f_25 t37∧(CZ b_17 M_18 (.row [(N .u64 0),(.sc (.slice none 0 0))] false p3 0) (fun b=>.ptr b 0) t7∧p5 [t34,t15,t37] M_18 fun t38 M_19 =>
 ax M_19 t28 fun t29_23 =>
 (t29_23=t29∧(CZ b_17 M_19 (.row [(N .u64 0),(.sc (.slice none 0 0))] false p3 0) (fun b=>.ptr b 0) t7∧jA [(N .u64 0),(.sc (.slice none 0 0))] [(0,1,t29),(1,1,t38)] fun t39 =>
 aD M_19 t7 t39 2 fun M_20 =>
 p6 [t7] M_20 fun t40 M_21 =>
 aI t7 1 fun t41 =>
 ax M_21 t41 fun t42 =>
 cK t42 fun t43 =>
 af .gtr t43 (N .i64 4096) fun t44 =>
 ay t44 (
 Q (Bo false) M_21) (
 aB M_21 t7 2 fun t46 =>
 bQ a0 fun t47 =>
 aD M_21 t47 t46 2 fun M_22 =>
 Q (Bo true) M_22)))))))
def G6 (p1:Nat) (a0:AV) (M0:RM) (Q:ah) : Prop :=
 jC false 2 a0 (.sc (.slice none 0 0)) fun t4 =>
 ay t4 (
 Q (.sc (.slice none 0 0)) M0) (
 fO p1 0 [(N .u64 0)] [] fun r f =>
 bZ r f M0 fun t5 M =>
 appW p1 1 8 [(N .u64 0)] false t5 a0 M fun t7 M_0 =>
 Q t7 M_0)
def zn (p1:aj) (a0 a1:AV) (M0:RM) (Q:ah) : Prop :=
 bQ a0 fun t9 =>
 aI t9 1 fun bV =>
 ax M0 bV fun bW =>
 p1 [bW,a1] M0 fun bO M =>
 dJ bO 0 fun t14 =>
 dJ bO 1 fun t15 =>
 af .geq a1 (N .u64 1) fun t17 =>
 ai t17 true (fun k=>k a1 M) (fun k=>k .undef M) fun t19 M_0 =>
 ai t17 true (fun k_1=>k_1 a0 M_0) (fun k=>k .undef M_0) fun t20 M_2 =>
 ai t17 true (fun k_3=>bQ t20 fun t21 =>
 k_3 t21 M_2) (fun k=>k .undef M_2) fun t21_4 M_5 =>
 ai t17 true (fun k_6=>aI t21_4 0 fun t22 =>
 k_6 t22 M_5) (fun k=>k .undef M_5) fun t22_7 M_8 =>
 ai t17 true (fun k_9=>ax M_8 t22_7 fun t23 =>
 k_9 t23 M_8) (fun k=>k .undef M_8) fun t23_10 M_11 =>
 ai t17 true (fun k_12=>af .leq t19 t23_10 fun t24 =>
 k_12 t24 M_11) (fun k=>k .undef M_11) fun t24_13 M_14 =>
 aM t17 t24_13 (Bo false) fun t25 =>
 ai t25 false (fun k_15=>k_15 t15 M_14) (fun k=>k .undef M_14) fun t27 M_16 =>
 aM t25 (Bo true) t27 fun t28 =>
 Q t28 M_16
def q9 (p1:Nat) (p2:aj) (p3:Nat) (a0:AV) (M0:RM) (Q:ah) : Prop :=
 cK a0 fun bV =>
 aU (fun next xs M =>
 af .lss (aa xs 1) bV fun t12 =>
 ay t12 (
 bX (fun J =>
 au a0 (aa xs 1) 1 fun bO =>
 ax M bO fun t14 =>
 cK t14 fun t17 =>
 af .add (aa xs 0) t17 fun t18 =>
 af .lss t18 (N .i64 0) fun t20 =>
 ay t20 (
 False) (
 J [t18] M)) (fun xs_0 M_1 =>
 af .add (aa xs 1) (N .i64 1) fun t22 =>
 next [(aa xs_0 0),t22] M_1)) (
 p2 [(.sc (.slice none 0 0)),(aa xs 0)] M fun t24 M_2 =>
 cK a0 fun t26 =>
 aU (fun next_3 xs_4 M_5 =>
 af .lss (aa xs_4 1) t26 fun t28 =>
 ay t28 (
 au a0 (aa xs_4 1) 1 fun t29 =>
 ax M_5 t29 fun t30 =>
 appW p3 1 8 [(N .u64 0)] false (aa xs_4 0) t30 M_5 fun t33 M_6 =>
 af .add (aa xs_4 1) (N .i64 1) fun t34 =>
 next_3 [t33,t34] M_6) (
 Q (aa xs_4 0) M_5)) [t24,(N .i64 0)] M_2)) [(N .i64 0),(N .i64 0)] M0
def uE (p1 p2:aj) (a0:AV) (M0:RM) (Q:ah) : Prop :=
 cK a0 fun t4 =>
 kD .u64 t4 fun t8 =>
 p1 [t8] M0 fun t9 M =>
 p2 [a0,(N .i64 0),t4,t9] M fun bV M_0 =>
 Q (.tup []) M_0
def pV (a0:AV) (M0:RM) (Q:ah) : Prop :=
 cK a0 fun t7 =>
 af .lss t7 (N .i64 2) fun t8 =>
 ay t8 (
 Q a0 M0) (
 aU (fun next xs M =>
 cK a0 fun t12 =>
 af .lss (aa xs 0) t12 fun bO =>
 ay bO (
 au a0 (aa xs 0) 1 fun t18 =>
 ax M t18 fun t19 =>
 af .sub (aa xs 0) (N .i64 1) fun t22 =>
 au a0 t22 1 fun t23 =>
 ax M t23 fun t24 =>
 af .eql t19 t24 fun t25 =>
 ay t25 (
 iX (dh 1 a0 (some (aa xs 0)) none none) fun t28 =>
 aU (fun next_0 xs_1 M_2 =>
 cK t28 fun t31 =>
 af .lss (aa xs_1 1) t31 fun t32 =>
 ay t32 (
 bX (fun J =>
 au t28 (aa xs_1 1) 1 fun t37 =>
 ax M_2 t37 fun t38 =>
 af .sub (aa xs_1 1) (N .i64 1) fun t41 =>
 au t28 t41 1 fun t42 =>
 ax M_2 t42 fun t43 =>
 af .neq t38 t43 fun t44 =>
 ay t44 (
 au t28 (aa xs_1 1) 1 fun t49 =>
 ax M_2 t49 fun t50 =>
 au a0 (aa xs_1 0) 1 fun t51 =>
 aD M_2 t51 t50 1 fun M_3 =>
 af .add (aa xs_1 0) (N .i64 1) fun t53 =>
 J [t53] M_3) (
 J [(aa xs_1 0)] M_2)) (fun xs_4 M_5 =>
 af .add (aa xs_1 1) (N .i64 1) fun t34 =>
 next_0 [(aa xs_4 0),t34] M_5)) (
 iX (dh 1 a0 (some (aa xs_1 0)) none none) fun t56 =>
 Gn [(N .u64 0)] t56 M_2 fun u M_6 =>
 iX (dh 1 a0 none (some (aa xs_1 0)) none) fun t59 =>
 Q t59 M_6)) [(aa xs 0),(N .i64 1)] M) (
 af .add (aa xs 0) (N .i64 1) fun t15 =>
 next [t15] M)) (
 Q a0 M)) [(N .i64 1)] M0)
def tH (a0:AV) (M0:RM) (Q:ah) : Prop :=
 aU (fun next xs M =>
 bQ a0 fun t5 =>
 aI t5 1 fun t6 =>
 ax M t6 fun t7 =>
 cK t7 fun t8 =>
 af .lss (aa xs 0) t8 fun t9 =>
 ae t9 true (fun k=>k a0 M none) (fun k=>k .undef M none) fun bW M_0 b =>
 ae t9 true (fun k_1=>bQ bW fun t12 =>
 k_1 t12 M_0 none) (fun k=>k .undef M_0 none) fun t12_2 M_3 b_4 =>
 ae t9 true (fun k_5=>aI t12_2 1 fun bO =>
 k_5 bO M_3 none) (fun k=>k .undef M_3 none) fun t13_6 M_7 b_8 =>
 ae t9 true (fun k_9=>ax M_7 t13_6 fun t14 =>
 k_9 t14 M_7 none) (fun k=>k .undef M_7 none) fun t14_10 M_11 b_12 =>
 ae t9 true (fun k_13=>k_13 (aa xs 0) M_11 none) (fun k=>k .undef M_11 none) fun t15 M_14 b_15 =>
 ae t9 true (fun k_16=>au t14_10 t15 1 fun t16 =>
 k_16 t16 M_14 none) (fun k=>k .undef M_14 none) fun t16_17 M_18 b_19 =>
 ae t9 true (fun k_20=>ax M_18 t16_17 fun t17 =>
 k_20 t17 M_18 none) (fun k=>k .undef M_18 none) fun t17_21 M_22 b_23 =>
 ae t9 true (fun k_24=>k_24 a0 M_22 none) (fun k=>k .undef M_22 none) fun t18 M_25 b_26 =>
 ae t9 true (fun k_27=>bQ t18 fun t19 =>
 k_27 t19 M_25 none) (fun k=>k .undef M_25 none) fun t19_28 M_29 b_30 =>
 ae t9 true (fun k_31=>aI t19_28 0 fun t20 =>
 k_31 t20 M_29 none) (fun k=>k .undef M_29 none) fun t20_32 M_33 b_34 =>
 ae t9 true (fun k_35=>ax M_33 t20_32 fun t21 =>
 k_35 t21 M_33 none) (fun k=>k .undef M_33 none) fun t21_36 M_37 b_38 =>
 ae t9 true (fun k_39=>af .add t21_36 (N .u64 1) fun t22 =>
 k_39 t22 M_37 none) (fun k=>k .undef M_37 none) fun t22_40 M_41 b_42 =>
 ae t9 true (fun k_43=>af .leq t17_21 t22_40 fun t23 =>
 k_43 t23 M_41 none) (fun k=>k .undef M_41 none) fun t23_44 M_45 b_46 =>
 aM t9 t23_44 (Bo false) fun t24 =>
 ay t24 (
 bQ a0 fun t27 =>
 aI t27 0 fun t28 =>
 ax M_45 t28 fun t29 =>
 bQ a0 fun t31 =>
 aI t31 1 fun t32 =>
 ax M_45 t32 fun t33 =>
 au t33 (aa xs 0) 1 fun t35 =>
 ax M_45 t35 fun t36 =>
 Hm true t29 t36 fun t37 =>
 bQ a0 fun t38 =>
 aI t38 0 fun t39 =>
 aD M_45 t39 t37 1 fun M_47 =>
 af .add (aa xs 0) (N .i64 1) fun t41 =>
 next [t41] M_47) (
 bQ a0 fun t44 =>
 aI t44 1 fun t45 =>
 ax M_45 t45 fun t46 =>
 iX (dh 1 t46 (some (aa xs 0)) none none) fun t48 =>
 bQ a0 fun t49 =>
 aI t49 1 fun t50 =>
 aD M_45 t50 t48 1 fun M_48 =>
 Q (.tup []) M_48)) [(N .i64 0)] M0
def lZ (p1 p2:aj) (a0 a1:AV) (M0:RM) (Q:ah) : Prop :=
 cK a0 fun bW =>
 aU (fun next xs M =>
 af .lss (aa xs 0) (aa xs 1) fun t15 =>
 ay t15 (
 af .add (aa xs 0) (aa xs 1) fun t18 =>
 kD .u64 t18 fun t19 =>
 xe .shr t19 (N .u64 1) fun t20 =>
 kD .i64 t20 fun t21 =>
 au a0 t21 1 fun t24 =>
 ax M t24 fun t25 =>
 p1 [t25,a1] M fun t27 M_0 =>
 ay t27 (
 af .add t21 (N .i64 1) fun t29 =>
 next [t29,(aa xs 1)] M_0) (
 next [(aa xs 0),t21] M_0)) (
 af .lss (aa xs 0) bW fun t34 =>
 ai t34 true (fun k=>k a0 M) (fun k=>k .undef M) fun t36 M_1 =>
 ai t34 true (fun k_2=>k_2 (aa xs 0) M_1) (fun k=>k .undef M_1) fun t37 M_3 =>
 ai t34 true (fun k_4=>au t36 t37 1 fun t38 =>
 k_4 t38 M_3) (fun k=>k .undef M_3) fun t38_5 M_6 =>
 ai t34 true (fun k_7=>ax M_6 t38_5 fun t39 =>
 k_7 t39 M_6) (fun k=>k .undef M_6) fun t39_8 M_9 =>
 ai t34 true (fun k_10=>k_10 a1 M_9) (fun k=>k .undef M_9) fun t40 M_11 =>
 ai t34 true (fun k_12=>af .eql t39_8 t40 fun t41 =>
 k_12 t41 M_11) (fun k=>k .undef M_11) fun t41_13 M_14 =>
 ai t34 true (fun k_15=>k_15 t41_13 M_14) (fun k=>k .undef M_14) fun t42 M_16 =>
 ai t42 false (fun k_17=>k_17 a0 M_16) (fun k=>k .undef M_16) fun t43 M_18 =>
 ai t42 false (fun k_19=>k_19 (aa xs 0) M_18) (fun k=>k .undef M_18) fun t44 M_20 =>
 ai t42 false (fun k_21=>au t43 t44 1 fun t45 =>
 k_21 t45 M_20) (fun k=>k .undef M_20) fun t45_22 M_23 =>
 ai t42 false (fun k_24=>ax M_23 t45_22 fun t46 =>
 k_24 t46 M_23) (fun k=>k .undef M_23) fun t46_25 M_26 =>
 ai t42 false (fun k_27=>p2 [t46_25] M_26 fun t47 M_28 =>
 k_27 t47 M_28) (fun k=>k .undef M_26) fun t47_29 M_30 =>
 ai t42 false (fun k_31=>k_31 t47_29 M_30) (fun k=>k .undef M_30) fun t48 M_32 =>
 ai t48 true (fun k_33=>k_33 a1 M_32) (fun k=>k .undef M_32) fun t49 M_34 =>
 ai t48 true (fun k_35=>p2 [t49] M_34 fun t50 M_36 =>
 k_35 t50 M_36) (fun k=>k .undef M_34) fun t50_37 M_38 =>
 ai t42 false (fun k_39=>aM t48 t50_37 (Bo false) fun t51 =>
 k_39 t51 M_38) (fun k=>k .undef M_38) fun t51_40 M_41 =>
 ai t34 true (fun k_42=>aM t42 (Bo true) t51_40 fun t52 =>
 k_42 t52 M_41) (fun k=>k .undef M_41) fun t52_43 M_44 =>
 aM t34 t52_43 (Bo false) fun t53 =>
 Q (.tup [(aa xs 0),t53]) M_44)) [(N .i64 0),bW] M0
def kV (p1:Nat) (p2 p3:aj) (a0 a1 a2:AV) (M0:RM) (Q:ah) : Prop :=
 iX (dh 1 a0 (some a1) none none) fun t12 =>
 cK a2 fun t14 =>
 af .eql t14 (N .i64 0) fun t16 =>
 ay t16 (
 Q a0 M0) (
 cK a0 fun t19 =>
 af .eql a1 t19 fun t22 =>
 ay t22 (
 appW p1 1 8 [(N .u64 0)] false a0 a2 M0 fun t25 M =>
 Q t25 M) (
 af .add t19 t14 fun t28 =>
 yc a0 fun t30 =>
 af .gtr t28 t30 fun t31 =>
 ay t31 (
 iX (dh 1 a0 none (some a1) none) fun t34 =>
 af .add t19 t14 fun t37 =>
 af .sub t37 a1 fun t39 =>
 appW p1 1 8 [(N .u64 0)] true t34 t39 M0 fun t40 M_0 =>
 iX (dh 1 t40 (some a1) none none) fun t43 =>
 xm 1 t43 a2 M_0 fun t45 M_1 =>
 af .add a1 t14 fun t49 =>
 iX (dh 1 t40 (some t49) none none) fun t50 =>
 iX (dh 1 a0 (some a1) none none) fun t53 =>
 xm 1 t50 t53 M_1 fun t54 M_2 =>
 Q t40 M_2) (
 af .add t19 t14 fun t59 =>
 iX (dh 1 a0 none (some t59) none) fun t60 =>
 af .add a1 t14 fun t65 =>
 iX (dh 1 t60 (some t65) none none) fun t66 =>
 p2 [a2,t66] M0 fun t67 M_3 =>
 dD t67 fun t68 =>
 ay t68 (
 af .add a1 t14 fun t72 =>
 iX (dh 1 t60 (some t72) none none) fun t73 =>
 iX (dh 1 t60 (some a1) none none) fun t76 =>
 xm 1 t73 t76 M_3 fun t77 M_4 =>
 iX (dh 1 t60 (some a1) none none) fun t80 =>
 xm 1 t80 a2 M_4 fun t82 M_5 =>
 Q t60 M_5) (
 iX (dh 1 t60 (some t19) none none) fun t86 =>
 xm 1 t86 a2 M_3 fun t88 M_6 =>
 iX (dh 1 t60 (some a1) none none) fun t91 =>
 p3 [t91,t14] M_6 fun t93 M_7 =>
 Q t60 M_7))))
def uL (p1 p2:Nat) (a0 a1:AV) (M0:RM) (Q:ah) : Prop :=
 bX (fun J =>
 af .lss a1 (N .i64 0) fun t6 =>
 ay t6 (
 False) (
 J [] M0)) (fun xs M =>
 bX (fun J_0 =>
 yc a0 fun bV =>
 cK a0 fun t12 =>
 af .sub bV t12 fun bO =>
 af .sub a1 bO fun t14 =>
 af .gtr t14 (N .i64 0) fun t16 =>
 ay t16 (
 yc a0 fun t19 =>
 iX (dh 1 a0 none (some t19) none) fun t20 =>
 appW p2 1 8 [(N .u64 0)] true t20 t14 M fun t22 M_1 =>
 cK a0 fun t24 =>
 iX (dh 1 t22 none (some t24) none) fun t25 =>
 J_0 [t25] M_1) (
 J_0 [a0] M)) (fun xs_2 M_3 =>
 Q (aa xs_2 0) M_3))
def fI (p1 p2 p3 p4 p5 p6 p7 p8 p9 p10:aj) (a0 a1 a2 a3:AV) (M0:RM) (Q:ah) : Prop :=
 aU (fun next xs M =>
 af .sub (aa xs 1) (aa xs 0) fun t21 =>
 af .leq t21 (N .i64 12) fun t23 =>
 ay t23 (
 p1 [a0,(aa xs 0),(aa xs 1)] M fun t27 M_0 =>
 Q (.tup []) M_0) (
 af .eql (aa xs 2) (N .i64 0) fun t29 =>
 ay t29 (
 p2 [a0,(aa xs 0),(aa xs 1)] M fun t33 M_1 =>
 Q (.tup []) M_1) (
 bX (fun J =>
 dD (aa xs 3) fun t35 =>
 ay t35 (
 p3 [a0,(aa xs 0),(aa xs 1)] M fun t39 M_2 =>
 af .sub (aa xs 2) (N .i64 1) fun t41 =>
 J [t41] M_2) (
 J [(aa xs 2)] M)) (fun xs_3 M_4 =>
 p4 [a0,(aa xs 0),(aa xs 1)] M_4 fun t46 M_5 =>
 dJ t46 0 fun t47 =>
 dJ t46 1 fun t48 =>
 bX (fun J_6 =>
 af .eql t48 (N .i64 2) fun t50 =>
 ay t50 (
 p5 [a0,(aa xs 0),(aa xs 1)] M_5 fun t54 M_7 =>
 af .sub (aa xs 1) (N .i64 1) fun t56 =>
 af .sub t47 (aa xs 0) fun t59 =>
 af .sub t56 t59 fun t60 =>
 J_6 [t60,(N .i64 1)] M_7) (
 J_6 [t47,t48] M_5)) (fun xs_8 M_9 =>
 bX (fun J_10 =>
 ai (aa xs 3) true (fun k=>k (aa xs 4) M_9) (fun k=>k .undef M_9) fun t63 M_11 =>
 aM (aa xs 3) t63 (Bo false) fun t64 =>
 ai t64 true (fun k_12=>k_12 (aa xs_8 1) M_11) (fun k=>k .undef M_11) fun t66 M_13 =>
 ai t64 true (fun k_14=>af .eql t66 (N .i64 1) fun t67 =>
 k_14 t67 M_13) (fun k=>k .undef M_13) fun t67_15 M_16 =>
 aM t64 t67_15 (Bo false) fun t68 =>
 ay t68 (
 p6 [a0,(aa xs 0),(aa xs 1)] M_16 fun t72 M_17 =>
 ay t72 (
 Q (.tup []) M_17) (
 J_10 [] M_17)) (
 J_10 [] M_16)) (fun xs_18 M_19 =>
 af .gtr (aa xs 0) (N .i64 0) fun t74 =>
 ae t74 true (fun k_20=>k_20 a0 M_19 none) (fun k=>k .undef M_19 none) fun t76 M_21 b =>
 ae t74 true (fun k_22=>k_22 (aa xs 0) M_21 none) (fun k=>k .undef M_21 none) fun t77 M_23 b_24 =>
 ae t74 true (fun k_25=>af .sub t77 (N .i64 1) fun t78 =>
 k_25 t78 M_23 none) (fun k=>k .undef M_23 none) fun t78_26 M_27 b_28 =>
 ae t74 true (fun k_29=>au t76 t78_26 1 fun t79 =>
 k_29 t79 M_27 none) (fun k=>k .undef M_27 none) fun t79_30 M_31 b_32 =>
 ae t74 true (fun k_33=>ax M_31 t79_30 fun t80 =>
 k_33 t80 M_31 none) (fun k=>k .undef M_31 none) fun t80_34 M_35 b_36 =>
 ae t74 true (fun k_37=>k_37 a0 M_35 none) (fun k=>k .undef M_35 none) fun t81 M_38 b_39 =>
 ae t74 true (fun k_40=>k_40 (aa xs_8 0) M_38 none) (fun k=>k .undef M_38 none) fun t82 M_41 b_42 =>
 ae t74 true (fun k_43=>au t81 t82 1 fun t83 =>
 k_43 t83 M_41 none) (fun k=>k .undef M_41 none) fun t83_44 M_45 b_46 =>
 ae t74 true (fun k_47=>ax M_45 t83_44 fun t84 =>
 k_47 t84 M_45 none) (fun k=>k .undef M_45 none) fun t84_48 M_49 b_50 =>
 ai t74 true (fun k_51=>p7 [t80_34,t84_48] M_49 fun t85 M_52 =>
 k_51 t85 M_52) (fun k=>k .undef M_49) fun t85_53 M_54 =>
 ae t74 true (fun k_55=>dD t85_53 fun t86 =>
 k_55 t86 M_54 none) (fun k=>k .undef M_54 none) fun t86_56 M_57 b_58 =>
 aM t74 t86_56 (Bo false) fun t87 =>
 ay t87 (
 p8 [a0,(aa xs 0),(aa xs 1),(aa xs_8 0)] M_57 fun t92 M_59 =>
 next [t92,(aa xs 1),(aa xs_3 0),(aa xs 3),(aa xs 4)] M_59) (
 p9 [a0,(aa xs 0),(aa xs 1),(aa xs_8 0)] M_57 fun t99 M_60 =>
 dJ t99 0 fun t100 =>
 dJ t99 1 fun t101 =>
 af .sub t100 (aa xs 0) fun t105 =>
 af .sub (aa xs 1) t100 fun t108 =>
 af .quo t21 (N .i64 8) fun t110 =>
 af .lss t105 t108 fun t113 =>
 ay t113 (
 af .geq t105 t110 fun t116 =>
 p10 [a0,(aa xs 0),t100,(aa xs_3 0)] M_60 fun t121 M_61 =>
 af .add t100 (N .i64 1) fun t123 =>
 next [t123,(aa xs 1),(aa xs_3 0),t116,t101] M_61) (
 af .geq t108 t110 fun t126 =>
 af .add t100 (N .i64 1) fun t129 =>
 p10 [a0,t129,(aa xs 1),(aa xs_3 0)] M_60 fun t132 M_62 =>
 next [(aa xs 0),t100,(aa xs_3 0),t126,t101] M_62)))))))) [a1,a2,a3,(Bo true),(Bo true)] M0
def qW (p1 p2:aj) (a0:AV) (M0:RM) (Q:ah) : Prop :=
 ay (Bo false) (
 kD .u32 a0 fun t4 =>
 p1 [t4] M0 fun t5 M =>
 Q t5 M) (
 p2 [a0] M0 fun t7 M_0 =>
 Q t7 M_0)
def uF (p1:aj) (a0 a1:AV) (M0:RM) (Q:ah) : Prop :=
 p1 [a0] M0 fun t6 M =>
 ai t6 true (fun k=>k a1 M) (fun k=>k .undef M) fun t8 M_0 =>
 ai t6 true (fun k_1=>p1 [t8] M_0 fun t9 M_2 =>
 k_1 t9 M_2) (fun k=>k .undef M_0) fun t9_3 M_4 =>
 ai t6 true (fun k_5=>dD t9_3 fun bV =>
 k_5 bV M_4) (fun k=>k .undef M_4) fun t10_6 M_7 =>
 aM t6 t10_6 (Bo false) fun bW =>
 ai bW false (fun k_8=>k_8 a0 M_7) (fun k=>k .undef M_7) fun bO M_9 =>
 ai bW false (fun k_10=>k_10 a1 M_9) (fun k=>k .undef M_9) fun t14 M_11 =>
 ai bW false (fun k_12=>af .lss bO t14 fun t15 =>
 k_12 t15 M_11) (fun k=>k .undef M_11) fun t15_13 M_14 =>
 aM bW (Bo true) t15_13 fun t16 =>
 Q t16 M_14
def pE (a0:AV) (M0:RM) (Q:ah) : Prop :=
 af .neq a0 a0 fun t5 =>
 Q t5 M0
def eu (p1:aj) (a0 a1 a2:AV) (M0:RM) (Q:ah) : Prop :=
 af .add a1 (N .i64 1) fun t9 =>
 aU (fun next xs M =>
 af .lss (aa xs 0) a2 fun t12 =>
 ay t12 (
 aU (fun next_0 xs_1 M_2 =>
 af .gtr (aa xs_1 0) a1 fun t18 =>
 ae t18 true (fun k=>k a0 M_2 none) (fun k=>k .undef M_2 none) fun t20 M_3 b =>
 ae t18 true (fun k_4=>k_4 (aa xs_1 0) M_3 none) (fun k=>k .undef M_3 none) fun t21 M_5 b_6 =>
 ae t18 true (fun k_7=>au t20 t21 1 fun t22 =>
 k_7 t22 M_5 none) (fun k=>k .undef M_5 none) fun t22_8 M_9 b_10 =>
 ae t18 true (fun k_11=>ax M_9 t22_8 fun t23 =>
 k_11 t23 M_9 none) (fun k=>k .undef M_9 none) fun t23_12 M_13 b_14 =>
 ae t18 true (fun k_15=>k_15 a0 M_13 none) (fun k=>k .undef M_13 none) fun t24 M_16 b_17 =>
 ae t18 true (fun k_18=>k_18 (aa xs_1 0) M_16 none) (fun k=>k .undef M_16 none) fun t25 M_19 b_20 =>
 ae t18 true (fun k_21=>af .sub t25 (N .i64 1) fun t26 =>
 k_21 t26 M_19 none) (fun k=>k .undef M_19 none) fun t26_22 M_23 b_24 =>
 ae t18 true (fun k_25=>au t24 t26_22 1 fun t27 =>
 k_25 t27 M_23 none) (fun k=>k .undef M_23 none) fun t27_26 M_27 b_28 =>
 ae t18 true (fun k_29=>ax M_27 t27_26 fun t28 =>
 k_29 t28 M_27 none) (fun k=>k .undef M_27 none) fun t28_30 M_31 b_32 =>
 ai t18 true (fun k_33=>p1 [t23_12,t28_30] M_31 fun t29 M_34 =>
 k_33 t29 M_34) (fun k=>k .undef M_31) fun t29_35 M_36 =>
 aM t18 t29_35 (Bo false) fun t30 =>
 ay t30 (
 af .sub (aa xs_1 0) (N .i64 1) fun t37 =>
 af .sub (aa xs_1 0) (N .i64 1) fun t40 =>
 au a0 t40 1 fun t41 =>
 ax M_36 t41 fun t42 =>
 au a0 (aa xs_1 0) 1 fun t45 =>
 ax M_36 t45 fun t46 =>
 au a0 (aa xs_1 0) 1 fun t47 =>
 aD M_36 t47 t42 1 fun M_37 =>
 au a0 t37 1 fun t48 =>
 aD M_37 t48 t46 1 fun M_38 =>
 af .sub (aa xs_1 0) (N .i64 1) fun t32 =>
 next_0 [t32] M_38) (
 af .add (aa xs 0) (N .i64 1) fun t14 =>
 next [t14] M_36)) [(aa xs 0)] M) (
 Q (.tup []) M)) [t9] M0
def jW (p1:aj) (a0 a1 a2:AV) (M0:RM) (Q:ah) : Prop :=
 af .sub a2 a1 fun t14 =>
 af .sub t14 (N .i64 1) fun t16 =>
 af .quo t16 (N .i64 2) fun t17 =>
 aU (fun next xs M =>
 af .geq (aa xs 0) (N .i64 0) fun t19 =>
 ay t19 (
 p1 [a0,(aa xs 0),t14,a1] M fun t26 M_0 =>
 af .sub (aa xs 0) (N .i64 1) fun t21 =>
 next [t21] M_0) (
 af .sub t14 (N .i64 1) fun t28 =>
 aU (fun next_1 xs_2 M_3 =>
 af .geq (aa xs_2 0) (N .i64 0) fun t30 =>
 ay t30 (
 af .add a1 (aa xs_2 0) fun t38 =>
 af .add a1 (aa xs_2 0) fun t42 =>
 au a0 t42 1 fun t43 =>
 ax M_3 t43 fun t44 =>
 au a0 a1 1 fun t47 =>
 ax M_3 t47 fun t48 =>
 au a0 a1 1 fun t49 =>
 aD M_3 t49 t44 1 fun M_4 =>
 au a0 t38 1 fun t50 =>
 aD M_4 t50 t48 1 fun M_5 =>
 p1 [a0,(N .i64 0),(aa xs_2 0),a1] M_5 fun t55 M_6 =>
 af .sub (aa xs_2 0) (N .i64 1) fun t32 =>
 next_1 [t32] M_6) (
 Q (.tup []) M_3)) [t28] M)) [t17] M0
def iq (p1:Nat) (p2 p3:aj) (a0 a1 a2:AV) (M0:RM) (Q:ah) : Prop :=
 af .sub a2 a1 fun bO =>
 af .geq bO (N .i64 8) fun t15 =>
 ay t15 (
 kD .u64 bO fun t17 =>
 bZ (.row [(N .u64 0)] false p1 0) (fun b=>.ptr b 0) M0 fun t7 M =>
 aD M t7 t17 1 fun M_0 =>
 p2 [bO] M_0 fun t19 M_1 =>
 af .quo bO (N .i64 4) fun t22 =>
 af .mul t22 (N .i64 2) fun t23 =>
 af .add a1 t23 fun t24 =>
 af .sub t24 (N .i64 1) fun t25 =>
 aU (fun next xs M_2 =>
 af .quo bO (N .i64 4) fun t29 =>
 af .mul t29 (N .i64 2) fun t30 =>
 af .add a1 t30 fun t31 =>
 af .add t31 (N .i64 1) fun t32 =>
 af .leq (aa xs 0) t32 fun t33 =>
 ay t33 (
 bX (fun J =>
 p3 [t7] M_2 fun t36 M_3 =>
 af .sub t19 (N .u64 1) fun t38 =>
 af .and t36 t38 fun t39 =>
 kD .i64 t39 fun t40 =>
 bX (fun J_4 =>
 af .geq t40 bO fun t43 =>
 ay t43 (
 af .sub t40 bO fun t46 =>
 J_4 [t46] M_3) (
 J_4 [t40] M_3)) (fun xs_5 M_6 =>
 af .add a1 (aa xs_5 0) fun t52 =>
 af .add a1 (aa xs_5 0) fun t56 =>
 au a0 t56 1 fun t57 =>
 ax M_6 t57 fun t58 =>
 au a0 (aa xs 0) 1 fun t61 =>
 ax M_6 t61 fun t62 =>
 au a0 (aa xs 0) 1 fun t63 =>
 aD M_6 t63 t58 1 fun M_7 =>
 au a0 t52 1 fun t64 =>
 aD M_7 t64 t62 1 fun M_8 =>
 J [] M_8)) (fun xs_9 M_10 =>
 af .add (aa xs 0) (N .i64 1) fun t35 =>
 next [t35] M_10)) (
 Q (.tup []) M_2)) [t25] M_1) (
 Q (.tup []) M0)
def iW (p1:Nat) (p2 p3:aj) (a0 a1 a2:AV) (M0:RM) (Q:ah) : Prop :=
 af .sub a2 a1 fun t15 =>
 bZ (.row [(N .i64 0)] false p1 0) (fun b=>.ptr b 0) M0 fun t9 M =>
 af .quo t15 (N .i64 4) fun t18 =>
 af .mul t18 (N .i64 1) fun t19 =>
 af .add a1 t19 fun t20 =>
 af .quo t15 (N .i64 4) fun t23 =>
 af .mul t23 (N .i64 2) fun t24 =>
 af .add a1 t24 fun t25 =>
 af .quo t15 (N .i64 4) fun t28 =>
 af .mul t28 (N .i64 3) fun t29 =>
 af .add a1 t29 fun t30 =>
 bX (fun J =>
 af .geq t15 (N .i64 8) fun t32 =>
 ay t32 (
 bX (fun J_0 =>
 af .geq t15 (N .i64 50) fun t34 =>
 ay t34 (
 p2 [a0,t20,t9] M fun t37 M_1 =>
 p2 [a0,t25,t9] M_1 fun t40 M_2 =>
 p2 [a0,t30,t9] M_2 fun t43 M_3 =>
 J_0 [t37,t40,t43] M_3) (
 J_0 [t20,t25,t30] M)) (fun xs M_4 =>
 p3 [a0,(aa xs 0),(aa xs 1),(aa xs 2),t9] M_4 fun t48 M_5 =>
 J [t48] M_5)) (
 J [t25] M)) (fun xs_6 M_7 =>
 ax M_7 t9 fun t49 =>
 af .eql t49 (N .i64 0) fun t52 =>
 ay t52 (
 Q (.tup [(aa xs_6 0),(N .i64 1)]) M_7) (
 af .eql t49 (N .i64 12) fun t55 =>
 ay t55 (
 Q (.tup [(aa xs_6 0),(N .i64 2)]) M_7) (
 Q (.tup [(aa xs_6 0),(N .i64 0)]) M_7)))
def iH (a0 a1 a2:AV) (M0:RM) (Q:ah) : Prop :=
 af .sub a2 (N .i64 1) fun bV =>
 aU (fun next xs M =>
 af .lss (aa xs 0) (aa xs 1) fun bO =>
 ay bO (
 au a0 (aa xs 1) 1 fun t20 =>
 ax M t20 fun t21 =>
 au a0 (aa xs 0) 1 fun t24 =>
 ax M t24 fun t25 =>
 au a0 (aa xs 0) 1 fun t26 =>
 aD M t26 t21 1 fun M_0 =>
 au a0 (aa xs 1) 1 fun t27 =>
 aD M_0 t27 t25 1 fun M_1 =>
 af .add (aa xs 0) (N .i64 1) fun t29 =>
 af .sub (aa xs 1) (N .i64 1) fun t31 =>
 next [t29,t31] M_1) (
 Q (.tup []) M)) [a1,bV] M0
def fA (p1:aj) (a0 a1 a2:AV) (M0:RM) (Q:ah) : Prop :=
 af .add a1 (N .i64 1) fun t12 =>
 aU (fun next xs M =>
 af .lss (aa xs 1) (N .i64 5) fun t14 =>
 ay t14 (
 bX (fun J =>
 aU (fun next_0 xs_1 M_2 =>
 af .lss (aa xs_1 0) a2 fun t19 =>
 ae t19 true (fun k=>k a0 M_2 none) (fun k=>k .undef M_2 none) fun t21 M_3 b =>
 ae t19 true (fun k_4=>k_4 (aa xs_1 0) M_3 none) (fun k=>k .undef M_3 none) fun t22 M_5 b_6 =>
 ae t19 true (fun k_7=>au t21 t22 1 fun t23 =>
 k_7 t23 M_5 none) (fun k=>k .undef M_5 none) fun t23_8 M_9 b_10 =>
 ae t19 true (fun k_11=>ax M_9 t23_8 fun t24 =>
 k_11 t24 M_9 none) (fun k=>k .undef M_9 none) fun t24_12 M_13 b_14 =>
 ae t19 true (fun k_15=>k_15 a0 M_13 none) (fun k=>k .undef M_13 none) fun t25 M_16 b_17 =>
 ae t19 true (fun k_18=>k_18 (aa xs_1 0) M_16 none) (fun k=>k .undef M_16 none) fun t26 M_19 b_20 =>
 ae t19 true (fun k_21=>af .sub t26 (N .i64 1) fun t27 =>
 k_21 t27 M_19 none) (fun k=>k .undef M_19 none) fun t27_22 M_23 b_24 =>
 ae t19 true (fun k_25=>au t25 t27_22 1 fun t28 =>
 k_25 t28 M_23 none) (fun k=>k .undef M_23 none) fun t28_26 M_27 b_28 =>
 ae t19 true (fun k_29=>ax M_27 t28_26 fun t29 =>
 k_29 t29 M_27 none) (fun k=>k .undef M_27 none) fun t29_30 M_31 b_32 =>
 ai t19 true (fun k_33=>p1 [t24_12,t29_30] M_31 fun t30 M_34 =>
 k_33 t30 M_34) (fun k=>k .undef M_31) fun t30_35 M_36 =>
 ae t19 true (fun k_37=>dD t30_35 fun t31 =>
 k_37 t31 M_36 none) (fun k=>k .undef M_36 none) fun t31_38 M_39 b_40 =>
 aM t19 t31_38 (Bo false) fun t32 =>
 ay t32 (
 af .add (aa xs_1 0) (N .i64 1) fun t34 =>
 next_0 [t34] M_39) (
 af .eql (aa xs_1 0) a2 fun t37 =>
 ay t37 (
 Q (Bo true) M_39) (
 af .sub a2 a1 fun t40 =>
 af .lss t40 (N .i64 50) fun t41 =>
 ay t41 (
 Q (Bo false) M_39) (
 af .sub (aa xs_1 0) (N .i64 1) fun t46 =>
 af .sub (aa xs_1 0) (N .i64 1) fun t49 =>
 au a0 t49 1 fun t50 =>
 ax M_39 t50 fun t51 =>
 au a0 (aa xs_1 0) 1 fun t54 =>
 ax M_39 t54 fun t55 =>
 au a0 (aa xs_1 0) 1 fun t56 =>
 aD M_39 t56 t51 1 fun M_41 =>
 au a0 t46 1 fun t57 =>
 aD M_41 t57 t55 1 fun M_42 =>
 bX (fun J_43 =>
 af .sub (aa xs_1 0) a1 fun t60 =>
 af .geq t60 (N .i64 2) fun t61 =>
 ay t61 (
 af .sub (aa xs_1 0) (N .i64 1) fun t63 =>
 aU (fun next_44 xs_45 M_46 =>
 af .geq (aa xs_45 0) (N .i64 1) fun t65 =>
 ay t65 (
 au a0 (aa xs_45 0) 1 fun t70 =>
 ax M_46 t70 fun t71 =>
 af .sub (aa xs_45 0) (N .i64 1) fun t74 =>
 au a0 t74 1 fun t75 =>
 ax M_46 t75 fun t76 =>
 p1 [t71,t76] M_46 fun t77 M_47 =>
 dD t77 fun t78 =>
 ay t78 (
 J_43 [] M_47) (
 af .sub (aa xs_45 0) (N .i64 1) fun t83 =>
 af .sub (aa xs_45 0) (N .i64 1) fun t86 =>
 au a0 t86 1 fun t87 =>
 ax M_47 t87 fun t88 =>
 au a0 (aa xs_45 0) 1 fun t91 =>
 ax M_47 t91 fun t92 =>
 au a0 (aa xs_45 0) 1 fun t93 =>
 aD M_47 t93 t88 1 fun M_48 =>
 au a0 t83 1 fun t94 =>
 aD M_48 t94 t92 1 fun M_49 =>
 af .sub (aa xs_45 0) (N .i64 1) fun t67 =>
 next_44 [t67] M_49)) (
 J_43 [] M_46)) [t63] M_42) (
 J_43 [] M_42)) (fun xs_50 M_51 =>
 af .sub a2 (aa xs_1 0) fun t97 =>
 af .geq t97 (N .i64 2) fun t98 =>
 ay t98 (
 af .add (aa xs_1 0) (N .i64 1) fun t100 =>
 aU (fun next_52 xs_53 M_54 =>
 af .lss (aa xs_53 0) a2 fun t103 =>
 ay t103 (
 au a0 (aa xs_53 0) 1 fun t108 =>
 ax M_54 t108 fun t109 =>
 af .sub (aa xs_53 0) (N .i64 1) fun t112 =>
 au a0 t112 1 fun t113 =>
 ax M_54 t113 fun t114 =>
 p1 [t109,t114] M_54 fun t115 M_55 =>
 dD t115 fun t116 =>
 ay t116 (
 J [(aa xs_1 0)] M_55) (
 af .sub (aa xs_53 0) (N .i64 1) fun t121 =>
 af .sub (aa xs_53 0) (N .i64 1) fun t124 =>
 au a0 t124 1 fun t125 =>
 ax M_55 t125 fun t126 =>
 au a0 (aa xs_53 0) 1 fun t129 =>
 ax M_55 t129 fun t130 =>
 au a0 (aa xs_53 0) 1 fun t131 =>
 aD M_55 t131 t126 1 fun M_56 =>
 au a0 t121 1 fun t132 =>
 aD M_56 t132 t130 1 fun M_57 =>
 af .add (aa xs_53 0) (N .i64 1) fun t105 =>
 next_52 [t105] M_57)) (
 J [(aa xs_1 0)] M_54)) [t100] M_51) (
 J [(aa xs_1 0)] M_51)))))) [(aa xs 0)] M) (fun xs_58 M_59 =>
 af .add (aa xs 1) (N .i64 1) fun t16 =>
 next [(aa xs_58 0),t16] M_59)) (
 Q (Bo false) M)) [t12,(N .i64 0)] M0
def ig (p1:aj) (a0 a1 a2 a3:AV) (M0:RM) (Q:ah) : Prop :=
 au a0 a3 1 fun t17 =>
 ax M0 t17 fun t18 =>
 au a0 a1 1 fun t21 =>
 ax M0 t21 fun t22 =>
 au a0 a1 1 fun t23 =>
 aD M0 t23 t18 1 fun M =>
 au a0 a3 1 fun t24 =>
 aD M t24 t22 1 fun M_0 =>
 af .add a1 (N .i64 1) fun t26 =>
 af .sub a2 (N .i64 1) fun t28 =>
 aU (fun next xs M_1 =>
 aU (fun next_2 xs_3 M_4 =>
 af .leq (aa xs_3 0) (aa xs 1) fun t31 =>
 ae t31 true (fun k=>k a0 M_4 none) (fun k=>k .undef M_4 none) fun t33 M_5 b =>
 ae t31 true (fun k_6=>k_6 a1 M_5 none) (fun k=>k .undef M_5 none) fun t34 M_7 b_8 =>
 ae t31 true (fun k_9=>au t33 t34 1 fun t35 =>
 k_9 t35 M_7 none) (fun k=>k .undef M_7 none) fun t35_10 M_11 b_12 =>
 ae t31 true (fun k_13=>ax M_11 t35_10 fun t36 =>
 k_13 t36 M_11 none) (fun k=>k .undef M_11 none) fun t36_14 M_15 b_16 =>
 ae t31 true (fun k_17=>k_17 a0 M_15 none) (fun k=>k .undef M_15 none) fun t37 M_18 b_19 =>
 ae t31 true (fun k_20=>k_20 (aa xs_3 0) M_18 none) (fun k=>k .undef M_18 none) fun t38 M_21 b_22 =>
 ae t31 true (fun k_23=>au t37 t38 1 fun t39 =>
 k_23 t39 M_21 none) (fun k=>k .undef M_21 none) fun t39_24 M_25 b_26 =>
 ae t31 true (fun k_27=>ax M_25 t39_24 fun t40 =>
 k_27 t40 M_25 none) (fun k=>k .undef M_25 none) fun t40_28 M_29 b_30 =>
 ai t31 true (fun k_31=>p1 [t36_14,t40_28] M_29 fun t41 M_32 =>
 k_31 t41 M_32) (fun k=>k .undef M_29) fun t41_33 M_34 =>
 ae t31 true (fun k_35=>dD t41_33 fun t42 =>
 k_35 t42 M_34 none) (fun k=>k .undef M_34 none) fun t42_36 M_37 b_38 =>
 aM t31 t42_36 (Bo false) fun t43 =>
 ay t43 (
 af .add (aa xs_3 0) (N .i64 1) fun t45 =>
 next_2 [t45] M_37) (
 aU (fun next_39 xs_40 M_41 =>
 af .leq (aa xs_3 0) (aa xs_40 0) fun t48 =>
 ae t48 true (fun k_42=>k_42 a0 M_41 none) (fun k=>k .undef M_41 none) fun t50 M_43 b_44 =>
 ae t48 true (fun k_45=>k_45 a1 M_43 none) (fun k=>k .undef M_43 none) fun t51 M_46 b_47 =>
 ae t48 true (fun k_48=>au t50 t51 1 fun t52 =>
 k_48 t52 M_46 none) (fun k=>k .undef M_46 none) fun t52_49 M_50 b_51 =>
 ae t48 true (fun k_52=>ax M_50 t52_49 fun t53 =>
 k_52 t53 M_50 none) (fun k=>k .undef M_50 none) fun t53_53 M_54 b_55 =>
 ae t48 true (fun k_56=>k_56 a0 M_54 none) (fun k=>k .undef M_54 none) fun t54 M_57 b_58 =>
 ae t48 true (fun k_59=>k_59 (aa xs_40 0) M_57 none) (fun k=>k .undef M_57 none) fun t55 M_60 b_61 =>
 ae t48 true (fun k_62=>au t54 t55 1 fun t56 =>
 k_62 t56 M_60 none) (fun k=>k .undef M_60 none) fun t56_63 M_64 b_65 =>
 ae t48 true (fun k_66=>ax M_64 t56_63 fun t57 =>
 k_66 t57 M_64 none) (fun k=>k .undef M_64 none) fun t57_67 M_68 b_69 =>
 ai t48 true (fun k_70=>p1 [t53_53,t57_67] M_68 fun t58 M_71 =>
 k_70 t58 M_71) (fun k=>k .undef M_68) fun t58_72 M_73 =>
 aM t48 t58_72 (Bo false) fun t59 =>
 ay t59 (
 af .sub (aa xs_40 0) (N .i64 1) fun t61 =>
 next_39 [t61] M_73) (
 af .gtr (aa xs_3 0) (aa xs_40 0) fun t64 =>
 ay t64 (
 Q (aa xs_3 0) M_73) (
 au a0 (aa xs_40 0) 1 fun t71 =>
 ax M_73 t71 fun t72 =>
 au a0 (aa xs_3 0) 1 fun t75 =>
 ax M_73 t75 fun t76 =>
 au a0 (aa xs_3 0) 1 fun t77 =>
 aD M_73 t77 t72 1 fun M_74 =>
 au a0 (aa xs_40 0) 1 fun t78 =>
 aD M_74 t78 t76 1 fun M_75 =>
 af .add (aa xs_3 0) (N .i64 1) fun t80 =>
 af .sub (aa xs_40 0) (N .i64 1) fun t82 =>
 next [t80,t82] M_75))) [(aa xs 1)] M_37)) [(aa xs 0)] M_1) [t26,t28] M_0
def jD (p1:aj) (a0 a1 a2 a3:AV) (M0:RM) (Q:ah) : Prop :=
 au a0 a3 1 fun t18 =>
 ax M0 t18 fun t19 =>
 au a0 a1 1 fun t22 =>
 ax M0 t22 fun t23 =>
 au a0 a1 1 fun t24 =>
 aD M0 t24 t19 1 fun M =>
 au a0 a3 1 fun t25 =>
 aD M t25 t23 1 fun M_0 =>
 af .add a1 (N .i64 1) fun t27 =>
 af .sub a2 (N .i64 1) fun t29 =>
 aU (fun next xs M_1 =>
 af .leq (aa xs 0) t29 fun t32 =>
 ae t32 true (fun k=>k a0 M_1 none) (fun k=>k .undef M_1 none) fun t34 M_2 b =>
 ae t32 true (fun k_3=>k_3 (aa xs 0) M_2 none) (fun k=>k .undef M_2 none) fun t35 M_4 b_5 =>
 ae t32 true (fun k_6=>au t34 t35 1 fun t36 =>
 k_6 t36 M_4 none) (fun k=>k .undef M_4 none) fun t36_7 M_8 b_9 =>
 ae t32 true (fun k_10=>ax M_8 t36_7 fun t37 =>
 k_10 t37 M_8 none) (fun k=>k .undef M_8 none) fun t37_11 M_12 b_13 =>
 ae t32 true (fun k_14=>k_14 a0 M_12 none) (fun k=>k .undef M_12 none) fun t38 M_15 b_16 =>
 ae t32 true (fun k_17=>k_17 a1 M_15 none) (fun k=>k .undef M_15 none) fun t39 M_18 b_19 =>
 ae t32 true (fun k_20=>au t38 t39 1 fun t40 =>
 k_20 t40 M_18 none) (fun k=>k .undef M_18 none) fun t40_21 M_22 b_23 =>
 ae t32 true (fun k_24=>ax M_22 t40_21 fun t41 =>
 k_24 t41 M_22 none) (fun k=>k .undef M_22 none) fun t41_25 M_26 b_27 =>
 ai t32 true (fun k_28=>p1 [t37_11,t41_25] M_26 fun t42 M_29 =>
 k_28 t42 M_29) (fun k=>k .undef M_26) fun t42_30 M_31 =>
 aM t32 t42_30 (Bo false) fun t43 =>
 ay t43 (
 af .add (aa xs 0) (N .i64 1) fun t45 =>
 next [t45] M_31) (
 aU (fun next_32 xs_33 M_34 =>
 af .leq (aa xs 0) (aa xs_33 0) fun t48 =>
 ae t48 true (fun k_35=>k_35 a0 M_34 none) (fun k=>k .undef M_34 none) fun t50 M_36 b_37 =>
 ae t48 true (fun k_38=>k_38 (aa xs_33 0) M_36 none) (fun k=>k .undef M_36 none) fun t51 M_39 b_40 =>
 ae t48 true (fun k_41=>au t50 t51 1 fun t52 =>
 k_41 t52 M_39 none) (fun k=>k .undef M_39 none) fun t52_42 M_43 b_44 =>
 ae t48 true (fun k_45=>ax M_43 t52_42 fun t53 =>
 k_45 t53 M_43 none) (fun k=>k .undef M_43 none) fun t53_46 M_47 b_48 =>
 ae t48 true (fun k_49=>k_49 a0 M_47 none) (fun k=>k .undef M_47 none) fun t54 M_50 b_51 =>
 ae t48 true (fun k_52=>k_52 a1 M_50 none) (fun k=>k .undef M_50 none) fun t55 M_53 b_54 =>
 ae t48 true (fun k_55=>au t54 t55 1 fun t56 =>
 k_55 t56 M_53 none) (fun k=>k .undef M_53 none) fun t56_56 M_57 b_58 =>
 ae t48 true (fun k_59=>ax M_57 t56_56 fun t57 =>
 k_59 t57 M_57 none) (fun k=>k .undef M_57 none) fun t57_60 M_61 b_62 =>
 ai t48 true (fun k_63=>p1 [t53_46,t57_60] M_61 fun t58 M_64 =>
 k_63 t58 M_64) (fun k=>k .undef M_61) fun t58_65 M_66 =>
 ae t48 true (fun k_67=>dD t58_65 fun t59 =>
 k_67 t59 M_66 none) (fun k=>k .undef M_66 none) fun t59_68 M_69 b_70 =>
 aM t48 t59_68 (Bo false) fun t60 =>
 ay t60 (
 af .sub (aa xs_33 0) (N .i64 1) fun t62 =>
 next_32 [t62] M_69) (
 af .gtr (aa xs 0) (aa xs_33 0) fun t65 =>
 ay t65 (
 au a0 a1 1 fun t72 =>
 ax M_69 t72 fun t73 =>
 au a0 (aa xs_33 0) 1 fun t76 =>
 ax M_69 t76 fun t77 =>
 au a0 (aa xs_33 0) 1 fun t78 =>
 aD M_69 t78 t73 1 fun M_71 =>
 au a0 a1 1 fun t79 =>
 aD M_71 t79 t77 1 fun M_72 =>
 Q (.tup [(aa xs_33 0),(Bo true)]) M_72) (
 au a0 (aa xs_33 0) 1 fun t87 =>
 ax M_69 t87 fun t88 =>
 au a0 (aa xs 0) 1 fun t91 =>
 ax M_69 t91 fun t92 =>
 au a0 (aa xs 0) 1 fun t93 =>
 aD M_69 t93 t88 1 fun M_73 =>
 au a0 (aa xs_33 0) 1 fun t94 =>
 aD M_73 t94 t92 1 fun M_74 =>
 af .add (aa xs 0) (N .i64 1) fun t96 =>
 af .sub (aa xs_33 0) (N .i64 1) fun t98 =>
 aU (fun next_75 xs_76 M_77 =>
 aU (fun next_78 xs_79 M_80 =>
 af .leq (aa xs_79 0) (aa xs_76 1) fun t101 =>
 ae t101 true (fun k_81=>k_81 a0 M_80 none) (fun k=>k .undef M_80 none) fun t103 M_82 b_83 =>
 ae t101 true (fun k_84=>k_84 (aa xs_79 0) M_82 none) (fun k=>k .undef M_82 none) fun t104 M_85 b_86 =>
 ae t101 true (fun k_87=>au t103 t104 1 fun t105 =>
 k_87 t105 M_85 none) (fun k=>k .undef M_85 none) fun t105_88 M_89 b_90 =>
 ae t101 true (fun k_91=>ax M_89 t105_88 fun t106 =>
 k_91 t106 M_89 none) (fun k=>k .undef M_89 none) fun t106_92 M_93 b_94 =>
 ae t101 true (fun k_95=>k_95 a0 M_93 none) (fun k=>k .undef M_93 none) fun t107 M_96 b_97 =>
 ae t101 true (fun k_98=>k_98 a1 M_96 none) (fun k=>k .undef M_96 none) fun t108 M_99 b_100 =>
 ae t101 true (fun k_101=>au t107 t108 1 fun t109 =>
 k_101 t109 M_99 none) (fun k=>k .undef M_99 none) fun t109_102 M_103 b_104 =>
 ae t101 true (fun k_105=>ax M_103 t109_102 fun t110 =>
 k_105 t110 M_103 none) (fun k=>k .undef M_103 none) fun t110_106 M_107 b_108 =>
 ai t101 true (fun k_109=>p1 [t106_92,t110_106] M_107 fun t111 M_110 =>
 k_109 t111 M_110) (fun k=>k .undef M_107) fun t111_111 M_112 =>
 aM t101 t111_111 (Bo false) fun t112 =>
 ay t112 (
 af .add (aa xs_79 0) (N .i64 1) fun t114 =>
 next_78 [t114] M_112) (
 aU (fun next_113 xs_114 M_115 =>
 af .leq (aa xs_79 0) (aa xs_114 0) fun t117 =>
 ae t117 true (fun k_116=>k_116 a0 M_115 none) (fun k=>k .undef M_115 none) fun t119 M_117 b_118 =>
 ae t117 true (fun k_119=>k_119 (aa xs_114 0) M_117 none) (fun k=>k .undef M_117 none) fun t120 M_120 b_121 =>
 ae t117 true (fun k_122=>au t119 t120 1 fun t121 =>
 k_122 t121 M_120 none) (fun k=>k .undef M_120 none) fun t121_123 M_124 b_125 =>
 ae t117 true (fun k_126=>ax M_124 t121_123 fun t122 =>
 k_126 t122 M_124 none) (fun k=>k .undef M_124 none) fun t122_127 M_128 b_129 =>
 ae t117 true (fun k_130=>k_130 a0 M_128 none) (fun k=>k .undef M_128 none) fun t123 M_131 b_132 =>
 ae t117 true (fun k_133=>k_133 a1 M_131 none) (fun k=>k .undef M_131 none) fun t124 M_134 b_135 =>
 ae t117 true (fun k_136=>au t123 t124 1 fun t125 =>
 k_136 t125 M_134 none) (fun k=>k .undef M_134 none) fun t125_137 M_138 b_139 =>
 ae t117 true (fun k_140=>ax M_138 t125_137 fun t126 =>
 k_140 t126 M_138 none) (fun k=>k .undef M_138 none) fun t126_141 M_142 b_143 =>
 ai t117 true (fun k_144=>p1 [t122_127,t126_141] M_142 fun t127 M_145 =>
 k_144 t127 M_145) (fun k=>k .undef M_142) fun t127_146 M_147 =>
 ae t117 true (fun k_148=>dD t127_146 fun t128 =>
 k_148 t128 M_147 none) (fun k=>k .undef M_147 none) fun t128_149 M_150 b_151 =>
 aM t117 t128_149 (Bo false) fun t129 =>
 ay t129 (
 af .sub (aa xs_114 0) (N .i64 1) fun t131 =>
 next_113 [t131] M_150) (
 af .gtr (aa xs_79 0) (aa xs_114 0) fun t134 =>
 ay t134 (
 au a0 a1 1 fun t159 =>
 ax M_150 t159 fun t160 =>
 au a0 (aa xs_114 0) 1 fun t163 =>
 ax M_150 t163 fun t164 =>
 au a0 (aa xs_114 0) 1 fun t165 =>
 aD M_150 t165 t160 1 fun M_152 =>
 au a0 a1 1 fun t166 =>
 aD M_152 t166 t164 1 fun M_153 =>
 Q (.tup [(aa xs_114 0),(Bo false)]) M_153) (
 au a0 (aa xs_114 0) 1 fun t141 =>
 ax M_150 t141 fun t142 =>
 au a0 (aa xs_79 0) 1 fun t145 =>
 ax M_150 t145 fun t146 =>
 au a0 (aa xs_79 0) 1 fun t147 =>
 aD M_150 t147 t142 1 fun M_154 =>
 au a0 (aa xs_114 0) 1 fun t148 =>
 aD M_154 t148 t146 1 fun M_155 =>
 af .add (aa xs_79 0) (N .i64 1) fun t150 =>
 af .sub (aa xs_114 0) (N .i64 1) fun t152 =>
 next_75 [t150,t152] M_155))) [(aa xs_76 1)] M_112)) [(aa xs_76 0)] M_77) [t96,t98] M_74))) [t29] M_31)) [t27] M_0
def om (a0:AV) (M0:RM) (Q:ah) : Prop :=
 bX (fun J =>
 af .geq a0 (N .u64 4294967296) fun t4 =>
 ay t4 (
 xe .shr a0 (N .u64 32) fun t6 =>
 J [t6,(N .i64 32)] M0) (
 J [a0,(N .i64 0)] M0)) (fun xs M =>
 bX (fun J_0 =>
 af .geq (aa xs 0) (N .u64 65536) fun t8 =>
 ay t8 (
 xe .shr (aa xs 0) (N .u64 16) fun bV =>
 af .add (aa xs 1) (N .i64 16) fun t12 =>
 J_0 [bV,t12] M) (
 J_0 [(aa xs 0),(aa xs 1)] M)) (fun xs_1 M_2 =>
 bX (fun J_3 =>
 af .geq (aa xs_1 0) (N .u64 256) fun t14 =>
 ay t14 (
 xe .shr (aa xs_1 0) (N .u64 8) fun t16 =>
 af .add (aa xs_1 1) (N .i64 8) fun t18 =>
 J_3 [t16,t18] M_2) (
 J_3 [(aa xs_1 0),(aa xs_1 1)] M_2)) (fun xs_4 M_5 =>
 kD .u8 (aa xs_4 0) fun t21 =>
 Lv (St [0,1,2,2,3,3,3,3,4,4,4,4,4,4,4,4,5,5,5,5,5,5,5,5,5,5,5,5,5,5,5,5,6,6,6,6,6,6,6,6,6,6,6,6,6,6,6,6,6,6,6,6,6,6,6,6,6,6,6,6,6,6,6,6,7,7,7,7,7,7,7,7,7,7,7,7,7,7,7,7,7,7,7,7,7,7,7,7,7,7,7,7,7,7,7,7,7,7,7,7,7,7,7,7,7,7,7,7,7,7,7,7,7,7,7,7,7,7,7,7,7,7,7,7,7,7,7,7,8,8,8,8,8,8,8,8,8,8,8,8,8,8,8,8,8,8,8,8,8,8,8,8,8,8,8,8,8,8,8,8,8,8,8,8,8,8,8,8,8,8,8,8,8,8,8,8,8,8,8,8,8,8,8,8,8,8,8,8,8,8,8,8,8,8,8,8,8,8,8,8,8,8,8,8,8,8,8,8,8,8,8,8,8,8,8,8,8,8,8,8,8,8,8,8,8,8,8,8,8,8,8,8,8,8,8,8,8,8,8,8,8,8,8,8,8,8,8,8,8,8,8,8,8,8,8,8]) t21 fun t22 =>
 kD .i64 t22 fun t23 =>
 af .add (aa xs_4 1) t23 fun t24 =>
 Q t24 M_5)))
def nT (a0:AV) (M0:RM) (Q:ah) : Prop :=
 af .neq a0 a0 fun t5 =>
 Q t5 M0
def jP (p1:aj) (a0 a1 a2 a3:AV) (M0:RM) (Q:ah) : Prop :=
 aU (fun next xs M =>
 af .mul (N .i64 2) (aa xs 0) fun t12 =>
 af .add t12 (N .i64 1) fun bO =>
 af .geq bO a2 fun t16 =>
 ay t16 (
 Q (.tup []) M) (
 bX (fun J =>
 af .add bO (N .i64 1) fun t18 =>
 af .lss t18 a2 fun t20 =>
 ae t20 true (fun k=>k a0 M none) (fun k=>k .undef M none) fun t22 M_0 b =>
 ae t20 true (fun k_1=>k_1 a3 M_0 none) (fun k=>k .undef M_0 none) fun t23 M_2 b_3 =>
 ae t20 true (fun k_4=>k_4 bO M_2 none) (fun k=>k .undef M_2 none) fun t24 M_5 b_6 =>
 ae t20 true (fun k_7=>af .add t23 t24 fun t25 =>
 k_7 t25 M_5 none) (fun k=>k .undef M_5 none) fun t25_8 M_9 b_10 =>
 ae t20 true (fun k_11=>au t22 t25_8 1 fun t26 =>
 k_11 t26 M_9 none) (fun k=>k .undef M_9 none) fun t26_12 M_13 b_14 =>
 ae t20 true (fun k_15=>ax M_13 t26_12 fun t27 =>
 k_15 t27 M_13 none) (fun k=>k .undef M_13 none) fun t27_16 M_17 b_18 =>
 ae t20 true (fun k_19=>k_19 a0 M_17 none) (fun k=>k .undef M_17 none) fun t28 M_20 b_21 =>
 ae t20 true (fun k_22=>k_22 a3 M_20 none) (fun k=>k .undef M_20 none) fun t29 M_23 b_24 =>
 ae t20 true (fun k_25=>k_25 bO M_23 none) (fun k=>k .undef M_23 none) fun t30 M_26 b_27 =>
 ae t20 true (fun k_28=>af .add t29 t30 fun t31 =>
 k_28 t31 M_26 none) (fun k=>k .undef M_26 none) fun t31_29 M_30 b_31 =>
 ae t20 true (fun k_32=>af .add t31_29 (N .i64 1) fun t32 =>
 k_32 t32 M_30 none) (fun k=>k .undef M_30 none) fun t32_33 M_34 b_35 =>
 ae t20 true (fun k_36=>au t28 t32_33 1 fun t33 =>
 k_36 t33 M_34 none) (fun k=>k .undef M_34 none) fun t33_37 M_38 b_39 =>
 ae t20 true (fun k_40=>ax M_38 t33_37 fun t34 =>
 k_40 t34 M_38 none) (fun k=>k .undef M_38 none) fun t34_41 M_42 b_43 =>
 ai t20 true (fun k_44=>p1 [t27_16,t34_41] M_42 fun t35 M_45 =>
 k_44 t35 M_45) (fun k=>k .undef M_42) fun t35_46 M_47 =>
 aM t20 t35_46 (Bo false) fun t36 =>
 ay t36 (
 af .add bO (N .i64 1) fun t38 =>
 J [t38] M_47) (
 J [bO] M_47)) (fun xs_48 M_49 =>
 af .add a3 (aa xs 0) fun t42 =>
 au a0 t42 1 fun t43 =>
 ax M_49 t43 fun t44 =>
 af .add a3 (aa xs_48 0) fun t48 =>
 au a0 t48 1 fun t49 =>
 ax M_49 t49 fun t50 =>
 p1 [t44,t50] M_49 fun t51 M_50 =>
 dD t51 fun t52 =>
 ay t52 (
 Q (.tup []) M_50) (
 af .add a3 (aa xs 0) fun t56 =>
 af .add a3 (aa xs_48 0) fun t60 =>
 af .add a3 (aa xs_48 0) fun t64 =>
 au a0 t64 1 fun t65 =>
 ax M_50 t65 fun t66 =>
 af .add a3 (aa xs 0) fun t70 =>
 au a0 t70 1 fun t71 =>
 ax M_50 t71 fun t72 =>
 au a0 t56 1 fun t73 =>
 aD M_50 t73 t66 1 fun M_51 =>
 au a0 t60 1 fun t74 =>
 aD M_51 t74 t72 1 fun M_52 =>
 next [(aa xs_48 0)] M_52)))) [a1] M0
def pQ (p1:aj) (a0:AV) (M0:RM) (Q:ah) : Prop :=
 kD .u64 a0 fun t4 =>
 p1 [t4] M0 fun t5 M =>
 xe .shl (N .u64 1) t5 fun t6 =>
 Q t6 M
def kQ (a0:AV) (M0:RM) (Q:ah) : Prop :=
 bQ a0 fun t4 =>
 ax M0 t4 fun t5 =>
 bQ a0 fun t7 =>
 ax M0 t7 fun t8 =>
 xe .shl t8 (N .u64 13) fun t9 =>
 af .xor t5 t9 fun bV =>
 bQ a0 fun bW =>
 aD M0 bW bV 1 fun M =>
 bQ a0 fun bO =>
 ax M bO fun t14 =>
 bQ a0 fun t16 =>
 ax M t16 fun t17 =>
 xe .shr t17 (N .u64 7) fun t18 =>
 af .xor t14 t18 fun t19 =>
 bQ a0 fun t20 =>
 aD M t20 t19 1 fun M_0 =>
 bQ a0 fun t22 =>
 ax M_0 t22 fun t23 =>
 bQ a0 fun t25 =>
 ax M_0 t25 fun t26 =>
 xe .shl t26 (N .u64 17) fun t27 =>
 af .xor t23 t27 fun t28 =>
 bQ a0 fun t29 =>
 aD M_0 t29 t28 1 fun M_1 =>
 bQ a0 fun t31 =>
 ax M_1 t31 fun t32 =>
 Q t32 M_1
def gY (p1:aj) (a0 a1 a2:AV) (M0:RM) (Q:ah) : Prop :=
 af .sub a1 (N .i64 1) fun t9 =>
 af .add a1 (N .i64 1) fun t12 =>
 p1 [a0,t9,a1,t12,a2] M0 fun t14 M =>
 Q t14 M
def lh (p1:aj) (a0 a1 a2 a3 a4:AV) (M0:RM) (Q:ah) : Prop :=
 p1 [a0,a1,a2,a4] M0 fun t16 M =>
 dJ t16 0 fun t17 =>
 dJ t16 1 fun t18 =>
 p1 [a0,t18,a3,a4] M fun t24 M_0 =>
 dJ t24 0 fun t25 =>
 dJ t24 1 fun t26 =>
 p1 [a0,t17,t25,a4] M_0 fun t32 M_1 =>
 dJ t32 0 fun t33 =>
 dJ t32 1 fun t34 =>
 Q t34 M_1
def ll (p1:aj) (a0 a1 a2 a3:AV) (M0:RM) (Q:ah) : Prop :=
 au a0 a2 1 fun t12 =>
 ax M0 t12 fun bO =>
 au a0 a1 1 fun t16 =>
 ax M0 t16 fun t17 =>
 p1 [bO,t17] M0 fun t18 M =>
 ay t18 (
 bQ a3 fun t20 =>
 ax M t20 fun t21 =>
 af .add t21 (N .i64 1) fun t22 =>
 bQ a3 fun t23 =>
 aD M t23 t22 1 fun M_0 =>
 Q (.tup [a2,a1]) M_0) (
 Q (.tup [a1,a2]) M)
end Go.Ab.ak
set_option linter.unusedVariables false
set_option linter.unusedSimpArgs false
namespace Go.Ab.ak
open Go Go.Ab
theorem JN {T size bytes:Nat} {zs:List AV} {M0:RM} {a0:AV} {cs:List AV} {n:Nat} (h:aN M0 size a0 cs n) (h1:cs.all oneCell=true) (hs:1≤size) (hn:n * bytes≤140737488355328) (hn2:n≤140737488355328) {Q:ah}
  (hQ:∀ v M',Own M' M0.next T size v cs n→ag [] M0 M'→Q v M') :
  jC false 2 a0 bJ fun t4=>ay t4 (Q bJ M0) (fO T 0 zs [] fun r f=>bZ r f M0 fun t5 M=>appW T size bytes zs false t5 a0 M fun t7 M_0=>Q t7 M_0):=by
 rcases h.Da false with ⟨rfl,e⟩ | ⟨hne,e⟩
 ·rw [e]
  cases h
  exact ⟨fun _=>hQ _ _ .nil (ag.refl _ _),fun h=>by simp at h⟩
 ·rw [e]
  refine ⟨fun h=>by simp at h,fun _=>⟨[],rfl, ?_⟩⟩
  have hk:ag [] M0 (M0.push (.row [] false T 0)):=(ag.refl _ _).push _
  refine CW (base:=M0.next) (Own.lit M0 (Nat.le_refl _)) (by simp [RM.push]) hs ((h.keep hk (by simp)).oh _) h.length h1 (by rw [Nat.zero_add]; exact hn) (by omega) ?_
  intro v' M' ho hk' hnx hv
  exact hQ v' M' (by simpa using ho) (hk.dB hk' (by simp [aH]))
def Tg (T size bytes:Nat) (c:aj) : Prop:=∀ {M0:RM} {a0:AV} {cs:List AV} {n:Nat},aN M0 size a0 cs n→cs.all oneCell=true→n * bytes≤140737488355328→n≤140737488355328→∀ {Q:ah},
 (∀ v M',Own M' M0.next T size v cs n→ag [] M0 M'→Q v M')→c [a0] M0 Q
abbrev ML (l:List UInt8) : List AV:=l.map fun b=>N .u8 b.toNat
end Go.Ab.ak
set_option maxRecDepth 10000
set_option linter.unusedVariables false
set_option linter.unusedSimpArgs false
namespace Go.Ab.ak
open Go Go.Ab
def tN (c:aj) : Prop:=∀ {M:RM} {x y:Nat} {Q:ah},Q (Bo (decide (x<y))) M→c [N .u64 (x:Int),N .u64 (y:Int)] M Q
theorem Gu {M:RM} {x:Nat} {Q:ah} (h:Q (Bo false) M) : nT (N .u64 (x:Int)) M Q:=by
 unfold nT
 rw [iJ,bne_self_eq_false]; exact h
theorem Nv {M:RM} {x:Nat} {Q:ah} (h:Q (Bo false) M) : pE (N .u64 (x:Int)) M Q:=by
 unfold pE
 rw [iJ,bne_self_eq_false]; exact h
def PU (c:aj) : Prop:=∀ {M:RM} {x:Nat} {Q:ah},Q (Bo false) M→c [N .u64 (x:Int)] M Q
theorem Te {cn:aj} (hn:PU cn) : tN fun args M Q=>∃ a0 a1,args=[a0,a1]∧uF cn a0 a1 M Q:=by
 intro M x y Q hQ
 refine ⟨_,_,rfl, ?_⟩
 unfold uF
 simp only [iA]
 refine hn ?_
 rw [bL]
 dsimp only
 rw [dz,fM,dF]
 dsimp only
 rw [dz,show decide ((x:Int)<(y:Int))=decide (x<y) by simp]
 exact hQ
def Asc (xs:List Nat) : Prop:=xs.Pairwise (· < ·)
def below (n:Nat) (xs:List Nat) : Nat:=(xs.takeWhile (fun x=>decide (x<n))).length
theorem below_le (n:Nat) (xs:List Nat) : below n xs≤xs.length:=by
 unfold below
 induction xs with
 | nil=>simp
 | cons x xs ih =>
   rw [List.takeWhile_cons]
   split <;> simp <;> omega
theorem Asc.lt {xs:List Nat} (h:Asc xs) {i j:Nat} (hij:i<j) (hj:j<xs.length) : xs[i]'(by omega)<xs[j]:=List.pairwise_iff_getElem.1 h i j (by omega) hj hij
theorem zW {n:Nat} : ∀ {xs:List Nat} {i:Nat},i≤xs.length→(∀ k (hk:k<xs.length),k<i→xs[k]<n)→(∀ (hi:i<xs.length),n≤xs[i])→below n xs=i
 | [],i,h,_,_=>by simp at h; subst h; rfl
 | x :: xs,0,_,_,h2=>by
   have:=h2 (by simp)
   simp at this
   unfold below
   rw [List.takeWhile_cons,if_neg (by simp; omega)]; rfl
 | x :: xs,i + 1,h,h1,h2=>by
   have hx:=h1 0 (by simp) (by omega)
   have:=zW (n:=n) (xs:=xs) (i:=i) (by simpa using h) (fun k hk hki=>by have:=h1 (k + 1) (by simp; omega) (by omega); simpa using this) (fun hi=>by have:=h2 (by simp; omega); simpa using this)
   unfold below at *
   rw [List.takeWhile_cons,if_pos (by simpa using hx),List.length_cons,this]
theorem JC {n:Nat} {xs:List Nat} (ha:Asc xs) : (n∈xs↔∃ h:below n xs<xs.length,xs[below n xs]=n):=by
 constructor
 ·intro hm
  obtain ⟨i,hi,he⟩:=List.getElem_of_mem hm
  have hb:below n xs=i:=zW (by omega) (fun k hk hki=>by have:=ha.lt hki hi; omega) (fun _=>by omega)
  exact ⟨by omega,by simp only [hb]; exact he⟩
 ·rintro ⟨h,he⟩
  rw [← he]; exact List.getElem_mem h
theorem LD {n:Nat} : ∀ {xs:List Nat} {k:Nat} (hk:k<xs.length),k<below n xs→xs[k]<n
 | x :: xs,k,hk,h=>by
   unfold below at h
   rw [List.takeWhile_cons] at h
   split at h
   ·rename_i hx
    cases k with
    | zero=>simpa using hx
    | succ k=>exact LD (xs:=xs) (k:=k) (by simpa using hk) (by unfold below; simpa using h)
   ·simp at h
theorem ME {n:Nat} : ∀ {xs:List Nat} (h:below n xs<xs.length),n≤xs[below n xs]
 | x :: xs,h=>by
   unfold below at *
   rw [List.takeWhile_cons] at h
   simp only [List.takeWhile_cons]
   by_cases hx:x<n
   ·simp only [hx,decide_true,if_true,List.length_cons] at h ⊢
    exact ME (xs:=xs) (by unfold below; omega)
   ·simp only [hx,decide_false,Bool.false_eq_true,if_false,List.length_nil,List.getElem_cons_zero]
    omega
def De (c:aj) : Prop:=∀ {M:RM} {v:AV} {xs:List Nat} {n:Nat} {Q:ah},Sl aX M v xs→xs.length≤1000000→Asc xs→Q (.tup [N .i64 ((below n xs:Nat) : Int),Bo (decide (n∈xs))]) M→c [v,N .u64 (n:Int)] M Q
theorem half (i j:Nat) (h:i + j<9223372036854775808) : N .i64 (IntKind.i64.wrap (Mj .u64 (IntKind.u64.wrap (IntKind.i64.wrap ((i:Int) + (j:Int)))) 1))=N .i64 (((i + j) / 2:Nat) : Int):=by
 rw [show IntKind.i64.wrap ((i:Int) + (j:Int))=((i + j:Nat) : Int) by rw [aW (by omega) (by omega)]; rfl]
 rw [show IntKind.u64.wrap (((i + j:Nat) : Int))=((i + j:Nat) : Int) by unfold IntKind.wrap; simp [IntKind.bits,IntKind.signed]; omega]
 rw [show (1:Int)=((1:Nat) : Int) from rfl,Fe _ _ _ (by decide)]
 rw [show ((i + j:Nat) / 2 ^ 1)=(i + j) / 2 by simp]
 rw [aW (by omega) (by omega)]
theorem Nk {cl cn:aj} (hl:tN cl) (hn:PU cn) : De fun args M Q=>∃ a0 a1,args=[a0,a1]∧lZ cl cn a0 a1 M Q:=by
 intro M v xs n Q hv hxl ha hQ
 refine ⟨_,_,rfl, ?_⟩
 unfold lZ
 simp only [iA]
 rw [aN.len hv]
 refine aG (fun m ys M3=>M3=M∧∃ i j:Nat,m=j - i∧ys=[N .i64 (i:Int),N .i64 (j:Int)]∧i≤j∧j≤xs.length∧(∀ k (hk:k<xs.length),k<i→xs[k]<n)∧(∀ k (hk:k<xs.length),j≤k→n≤xs[k])) _
  ⟨rfl,0,xs.length,rfl,rfl,Nat.zero_le _,Nat.le_refl _,by omega,by omega⟩ ?_
 rintro next m ys M3 hnext ⟨rfl,i,j,rfl,rfl,hij,hj,h1,h2⟩
 dsimp only [aa]
 rw [dF]
 refine aF (fun hlt=>?_) (fun hge=>?_)
 ·have hlt:i<j:=by simpa using hlt
  have hh:(i + j) / 2<j:=by omega
  have hh2:i≤(i + j) / 2:=by omega
  rw [dm,jB,ze]
  refine ⟨by omega, ?_⟩
  rw [jB,half i j (by omega)]
  have hm:(i + j) / 2<xs.length:=by omega
  obtain ⟨b,o,_,_,hidx,hc⟩:=Sl.FU (E:=aX) hv (((i + j) / 2:Nat) : Int) hm
  have hc:=hc _ rfl
  rw [hidx,jL]
  refine ⟨_,hc, ?_⟩
  refine hl ?_
  refine aF (fun h=>?_) (fun h=>?_)
  ·have h:xs[(i + j) / 2]<n:=by simpa using h
   rw [dm,ik (by omega)]
   refine hnext _ _ _ (by omega) ⟨rfl,(i + j) / 2 + 1,j,rfl,rfl,by omega,hj,fun k hk hki=>?_,h2⟩
   rcases Nat.lt_or_ge k ((i + j) / 2) with h3 | h3
   ·have:=ha.lt h3 hm; omega
   ·have:k=(i + j) / 2:=by omega
    subst this; exact h
  ·have h:n≤xs[(i + j) / 2]:=by simp at h; omega
   refine hnext _ _ _ (by omega) ⟨rfl,i,(i + j) / 2,rfl,rfl,by omega,by omega,h1,fun k hk hki=>?_⟩
   rcases Nat.lt_or_ge ((i + j) / 2) k with h3 | h3
   ·have:=ha.lt h3 hk; omega
   ·have:k=(i + j) / 2:=by omega
    subst this; exact h
 ·have hij:i=j:=by simp at hge; omega
  subst hij
  have hb:below n xs=i:=zW hj h1 (fun hi=>h2 i hi (Nat.le_refl _))
  rw [hb] at hQ
  rw [dF]
  by_cases hi:i<xs.length
  ·obtain ⟨b,o,_,_,hidx,hc⟩:=Sl.FU (E:=aX) hv (i:Int) hi
   have hc:=hc _ rfl
   have hm:decide (n∈xs)=(xs[i] == n):=by
    have:=JC (n:=n) ha
    simp only [hb] at this
    by_cases h:xs[i]=n
    ·rw [decide_eq_true (this.2 ⟨hi,h⟩)]; simp [h]
    ·rw [decide_eq_false (fun hm=>h (this.1 hm).2)]; simp [h]
   rw [hm] at hQ
   rw [show decide ((i:Int)<(xs.length:Int))=true by simpa using hi,cz,hidx,jL]
   refine ⟨_,hc, ?_⟩
   rw [df,show (((xs[i] : Nat) : Int) == (n:Int))=(xs[i] == n) by
    by_cases h:xs[i]=n
    ·simp [h]
    ·have:((xs[i] : Int) == (n:Int))=false:=by simp; omega
     rw [this]; simp [h]]
   dsimp only
   cases he:xs[i] == n with
   | true =>
     rw [he] at hQ
     simp only [wG,cz,kR,bL,fM,dO,dz]
     exact hQ
   | false =>
     rw [he] at hQ
     rw [fM,hidx,jL]
     refine ⟨_,hc, ?_⟩
     refine hn ?_
     simp only [wG,cz,kR,bL,fM,dO,dz]
     exact hQ
  ·have hm:decide (n∈xs)=false:=by
    refine decide_eq_false fun h=>?_
    have:=(JC (n:=n) ha).1 h
    simp only [hb] at this
    exact hi this.1
   rw [hm] at hQ
   rw [show decide ((i:Int)<(xs.length:Int))=false by simp; omega]
   simp only [wG,cz,kR,bL,fM,dO,dz]
   exact hQ
end Go.Ab.ak
set_option maxRecDepth 10000
set_option linter.unusedVariables false
set_option linter.unusedSimpArgs false
namespace Go.Ab.ak
open Go Go.Ab
theorem uR {M:RM} {b bx o ox dn sn k e:Nat} {l vs:List AV} {p:Bool} {cap capx:Cap} {K:ah} (hd:M.heap b=some (.row l p e 0)) (hk:Nat.min sn dn=k) (hk0:k≠0) (hl:M.loads bx ox k=some vs) (ho:o + k≤l.length) (hall:vs.all oneCell=true) :
  xm 1 (.slc b o dn cap) (.slc bx ox sn capx) M K=K (N .i64 (k:Int)) (M.put b (.row (l.take o++vs++l.drop (o + k)) p e 0)):=by
 have hvs:=Cv hl
 have hst:M.stores b o vs=some (M.put b (.row (l.take o++vs++l.drop (o + k)) p e 0)):=by
  rw [RM.ul hd,nJ (by omega) (Nat.zero_le _) hall,hvs]; rfl
 have:GI 1 (.slc b o dn cap) (.slc bx ox sn capx) M=some (N .i64 (k:Int),M.put b (.row (l.take o++vs++l.drop (o + k)) p e 0)):=by
  unfold GI
  simp only [yz,hk,if_neg hk0,firstM,Nat.mul_one,hl,hst]
 unfold xm
 rw [this]
 apply propext
 constructor
 ·rintro ⟨v,M',h,hK⟩; cases h; exact hK
 ·intro hK; exact ⟨_,_,rfl,hK⟩
theorem rC {size b o n c at' : Nat} (h:at'≤n) (hc:n≤c) (hne:at'≠c) : dh size (.slc b o n (.ex c)) (some (N .i64 (at' : Int))) none none=some (.slc b (o + at' * size) (n - at') (.ex (c - at'))):=by
 simp only [dh,bnd]
 simp [h,hc,Ne.symm hne]
theorem F7 {size b o n c at' : Nat} (h:at'≤c) (hc:c≠0) : dh size (.slc b o n (.ex c)) none (some (N .i64 (at' : Int))) none=some (.slc b o at' (.ex c)):=by
 simp only [dh,bnd]
 simp [h,hc]
theorem nA {size b o n at' : Nat} (h:at'<n) : dh size (.slc b o n (.op size)) (some (N .i64 (at' : Int))) none none=some (.slc b (o + at' * size) (n - at') (.op size)):=by
 simp only [dh,bnd]
 simp [Nat.le_of_lt h]
 omega
theorem X5 {A B D:List AV} {X:AV} {k m:Nat} (hA:A.length=k) (hB:B.length=m) : (A++X :: B).take (k + 1)++D++(A++X :: B).drop (k + 1 + m)=A++X :: D:=by
 subst hA; subst hB
 have e:A++X :: B=(A++[X])++B:=by simp
 rw [e,List.take_left' (by simp),List.drop_of_length_le (by simp; omega)]
 simp
def ku:AV→Prop
 | .slc _ _ n (.ex c)=>n≤c
 | .slc _ _ _ (.op e)=>e=1
 | _=>True
def fo (k x:Nat) (xs:List Nat) : List Nat:=xs.take k++x :: xs.drop k
theorem zZ {k x:Nat} {xs:List Nat} (h:k≤xs.length) : (fo k x xs).length=xs.length + 1:=by
 simp [fo]; omega
def Vt (c:aj) : Prop:=∀ {M:RM} {ba oa na bb ob nb ea eb:Nat} {ca cb:Cap} {la lb:List AV} {opb:Bool} {Q:ah},ba≠bb→M.heap ba=some (.row la false ea 0)→M.heap bb=some (.row lb opb eb 0)→oa + 1≤la.length→1≤lb.length→Q (Bo false) M→c [.slc ba oa na ca,.slc bb ob nb cb] M Q
theorem qD {i:Nat} (h:i<9223372036854775807) : IntKind.wrap .i64 ((i:Int) + ((1:Nat) : Int))=((i + 1:Nat) : Int):=ik h
theorem nK (k:Nat) : (bK [N .u64 0] k).length=k∧(bK [N .u64 0] k).all oneCell=true:=by
 induction k with
 | zero=>exact ⟨rfl,rfl⟩
 | succ k ih=>exact ⟨by simp [bK,ih.1],by simp [bK,ih.2,Lr]⟩
theorem Rz {M:RM} {b bx T n c k x ex:Nat} {xs:List Nat} {co cr:aj} {Q:ah} (hov:Vt co) (hn:n=xs.length) (hnl:n≤1000000) (hc:n≤c) (hk:k<n)
  (hb:M.heap b=some (.row (aX.row xs++List.replicate (c - n) .top) true T 0)) (hbl:b<M.next) (hx:M.heap bx=some (.row [N .u64 (x:Int)] false ex 0)) (hxl:bx<M.next) (hne:bx≠b)
  (hQ:∀ v' M',Sl aX M' v' (fo k x xs)→ku v'→(∀ c∈aH v',c=b∨M.next≤c)→ag [b] M M'→Q v' M') : kV T co cr (.slc b 0 n (.ex c)) (N .i64 (k:Int)) (.slc bx 0 1 (.ex 1)) M Q:=by
 have hrow:(aX.row xs).length=n:=by rw [Enc.eG,hn]; simp [aX]
 have hlenb:(aX.row xs++List.replicate (c - n) AV.top).length=c:=by simp [hrow]; omega
 unfold kV
 rw [rC (by omega) hc (by omega),dY,lm,df,show ((((1:Nat) : Int)) == 0)=false from rfl,bF,lm,df,
  show (((k:Int)) == (n:Int))=false by simp; omega,bF,dm,qD (by omega),VL,gH]
 have hxo:M.loads bx 0 1=some [N .u64 (x:Int)]:=by rw [RM.dG hx (by simp)]; rfl
 have hold:M.loads b k (n - k)=some ((aX.row xs).drop k):=by
  rw [RM.dG hb (by omega),List.drop_append_of_le_length (by omega),List.take_append_of_le_length (by simp [hrow]),List.take_of_length_le (by simp [hrow])]
 have hall:=aX.qF xs
 have hins:aX.row (fo k x xs)=(aX.row xs).take k++N .u64 (x:Int) :: (aX.row xs).drop k:=by
  have h1:=aX.sj xs k
  have h2:=aX.sO xs k
  simp only [show aX.size=1 from rfl,Nat.mul_one] at h1 h2
  rw [h1,h2,fo,Enc.qP,Enc.j4]; rfl
 have hinl:(fo k x xs).length=n + 1:=by rw [zZ (by omega),hn]
 have htl:((aX.row xs).take k).length=k:=by simp [hrow]; omega
 have hdl:((aX.row xs).drop k).length=n - k:=by simp [hrow]
 refine aF (fun hg=>?_) (fun hg=>?_)
 ·have hcn:c=n:=by simp at hg; omega
  subst hcn
  rw [Nat.sub_self,List.replicate_zero,List.append_nil] at hb
  rw [F7 (by omega) (by omega),dY,dm,qD (by omega),fJ,
   show IntKind.wrap .i64 (((c + 1:Nat) : Int) - (k:Int))=((c + 1 - k:Nat) : Int) by rw [aW (by omega) (by omega)]; omega]
  have hr0:=nK (c + 1 - k)
  refine ⟨c + 1 - k,bK [N .u64 0] (c + 1 - k),by simp [oh],by omega,by omega,.slc M.next 0 (c + 1) (.op 1),M.push (.row ((aX.row xs).take k++bK [N .u64 0] (c + 1 - k)) true T 0), ?_, ?_⟩
  ·have hl0:M.loads b 0 (k * 1)=some ((aX.row xs).take k):=by rw [RM.dG hb (by omega)]; simp
   simp only [pR,if_neg (show ¬ c + 1 - k=0 by omega),if_neg (show ¬ k + (c + 1 - k)≤c by omega),hl0]
   have h1:(((aX.row xs).take k)++bK [N .u64 0] (c + 1 - k)).all oneCell=true:=by
    rw [List.all_append,hr0.2,Bool.and_true,List.all_eq_true]
    exact fun y hy=>List.all_eq_true.1 hall y (List.mem_of_mem_take hy)
   rw [if_pos ⟨by omega,by omega,h1⟩,show k + (c + 1 - k)=c + 1 by omega]
  ·have hnew:(M.push (.row ((aX.row xs).take k++bK [N .u64 0] (c + 1 - k)) true T 0)).heap M.next=some (.row ((aX.row xs).take k++bK [N .u64 0] (c + 1 - k)) true T 0):=RM.aQ _
   have kp:ag [] M (M.push (.row ((aX.row xs).take k++bK [N .u64 0] (c + 1 - k)) true T 0)):=(ag.refl _ _).push _
   have hb1:=kp.aK hb hbl (by simp)
   have hx1:=kp.loads hxl (by simp) (o:=0) (k:=1)
   rw [hxo] at hx1
   have hn1:(M.push (.row ((aX.row xs).take k++bK [N .u64 0] (c + 1 - k)) true T 0)).next=M.next + 1:=rfl
   generalize M.push (.row ((aX.row xs).take k++bK [N .u64 0] (c + 1 - k)) true T 0)=M1 at *
   have hnl1:((aX.row xs).take k++bK [N .u64 0] (c + 1 - k)).length=c + 1:=by rw [List.length_append,htl,hr0.1]; omega
   dsimp only
   rw [nA (by omega),dY,uR (k:=1) hnew (by simp [Nat.min_def]; omega) (by omega) hx1 (by rw [hnl1]; omega) rfl,dm,qD (by omega),
    nA (by omega),dY,dY]
   simp only [Nat.mul_one,Nat.zero_add]
   have hrowx:((aX.row xs).take k++bK [N .u64 0] (c + 1 - k)).take k++[N .u64 (x:Int)]++((aX.row xs).take k++bK [N .u64 0] (c + 1 - k)).drop (k + 1)=(aX.row xs).take k++N .u64 (x:Int) :: bK [N .u64 0] (c - k):=by
    rw [List.take_append_of_le_length (by omega),List.take_of_length_le (by omega),← List.drop_drop,List.drop_left' htl,show c + 1 - k=(c - k) + 1 by omega,bK]
    simp
   rw [hrowx]
   have hnew2:(M1.put M.next (.row ((aX.row xs).take k++N .u64 (x:Int) :: bK [N .u64 0] (c - k)) true T 0)).heap M.next=some (.row ((aX.row xs).take k++N .u64 (x:Int) :: bK [N .u64 0] (c - k)) true T 0):=aP _
   have hb2:=oJ (z:=.row ((aX.row xs).take k++N .u64 (x:Int) :: bK [N .u64 0] (c - k)) true T 0) hb1 (show b≠M.next by omega)
   have kp2:ag [] M (M1.put M.next (.row ((aX.row xs).take k++N .u64 (x:Int) :: bK [N .u64 0] (c - k)) true T 0)):=kp.new _ (Nat.le_refl _)
   have hn2:(M1.put M.next (.row ((aX.row xs).take k++N .u64 (x:Int) :: bK [N .u64 0] (c - k)) true T 0)).next=M.next + 1:=hn1
   generalize M1.put M.next (.row ((aX.row xs).take k++N .u64 (x:Int) :: bK [N .u64 0] (c - k)) true T 0)=M2 at *
   have hr1:=nK (c - k)
   have hold2:M2.loads b k (c - k)=some ((aX.row xs).drop k):=by
    rw [RM.dG hb2 (by omega),List.take_of_length_le (by simp [hrow])]
   have hnl2:((aX.row xs).take k++N .u64 (x:Int) :: bK [N .u64 0] (c - k)).length=c + 1:=by rw [List.length_append,htl,List.length_cons,hr1.1]; omega
   have hdall:((aX.row xs).drop k).all oneCell=true:=by
    rw [List.all_eq_true]; exact fun y hy=>List.all_eq_true.1 hall y (List.mem_of_mem_drop hy)
   rw [uR (k:=c - k) hnew2 (by simp [Nat.min_def]) (by omega) hold2 (by rw [hnl2]; omega) hdall]
   have hrow3:((aX.row xs).take k++N .u64 (x:Int) :: bK [N .u64 0] (c - k)).take (k + 1)++(aX.row xs).drop k++((aX.row xs).take k++N .u64 (x:Int) :: bK [N .u64 0] (c - k)).drop (k + 1 + (c - k))=aX.row (fo k x xs):=by
    rw [X5 htl hr1.1,hins]
   rw [hrow3]
   refine hQ _ _ ?_ rfl (fun d hd=>.inr (by simp [aH] at hd; omega)) ((kp2.new _ (Nat.le_refl _)).mono (by simp))
   have:Rw aX (M2.put M.next (.row (aX.row (fo k x xs)) true T 0)) M.next true T (fo k x xs):=⟨aP _,by rw [iF]; omega⟩
   have h4:=this.sl (cap:=.op 1)
   rw [hinl] at h4
   exact h4
 ·have hcn:n + 1≤c:=by simp at hg; omega
  rw [dm,qD (by omega),F7 (by omega) (by omega),dY,dm,qD (by omega),rC (by omega) (by omega) (by omega),dY]
  simp only [Nat.zero_add,Nat.mul_one]
  refine hov hne hx hb (by simp) (by rw [hlenb]; omega) ?_
  rw [bB,Bool.not_false,dC,dm,qD (by omega),rC (by omega) (by omega) (by omega),dY,rC (by omega) (by omega) (by omega),dY]
  simp only [Nat.zero_add,Nat.mul_one]
  have hdall:((aX.row xs).drop k).all oneCell=true:=by
   rw [List.all_eq_true]; exact fun y hy=>List.all_eq_true.1 hall y (List.mem_of_mem_drop hy)
  rw [uR (k:=n - k) hb (by simp [Nat.min_def]; omega) (by omega) hold (by rw [hlenb]; omega) hdall]
  have hsplit:aX.row xs=(aX.row xs).take k++(aX.row xs).drop k:=(List.take_append_drop _ _).symm
  obtain ⟨y,D,hD⟩ : ∃ y D,(aX.row xs).drop k=y :: D:=by
   cases h:(aX.row xs).drop k with
   | nil=>rw [h] at hdl; simp at hdl; omega
   | cons y D=>exact ⟨y,D,rfl⟩
  obtain ⟨R,hR⟩ : ∃ R,List.replicate (c - n) AV.top=.top :: R∧R.length=c - n - 1:=⟨List.replicate (c - n - 1) AV.top,by rw [show c - n=(c - n - 1) + 1 by omega,List.replicate_succ]; simp,by simp⟩
  generalize hA:(aX.row xs).take k=A at *
  have hDl:D.length + 1=n - k:=by rw [hD] at hdl; simpa using hdl
  have hrow1:(aX.row xs++List.replicate (c - n) AV.top).take (k + 1)++(aX.row xs).drop k++(aX.row xs++List.replicate (c - n) AV.top).drop (k + 1 + (n - k))=A++y :: (y :: D++R):=by
   have hX:aX.row xs=A++y :: D:=by rw [hsplit,hD]
   rw [hD,hX,hR.1]
   have e1:A++y :: D++AV.top :: R=(A++[y])++(D++AV.top :: R):=by simp
   have e2:A++y :: D++AV.top :: R=(A++y :: D++[AV.top])++R:=by simp
   have d1:(A++y :: D++AV.top :: R).drop (k + 1 + (n - k))=R:=by rw [e2,List.drop_left' (by simp; omega)]
   have d2:(A++y :: D++AV.top :: R).take (k + 1)=A++[y]:=by rw [e1,List.take_left' (by simp [htl])]
   rw [d1,d2]
   simp
  rw [hrow1]
  have hb2:(M.put b (.row (A++y :: (y :: D++R)) true T 0)).heap b=some (.row (A++y :: (y :: D++R)) true T 0):=aP _
  have kp:ag [b] M (M.put b (.row (A++y :: (y :: D++R)) true T 0)):=(ag.refl _ _).put _ (.inr (by simp))
  have hx2:=kp.loads hxl (by simp [hne]) (o:=0) (k:=1)
  rw [hxo] at hx2
  have hn2:(M.put b (.row (A++y :: (y :: D++R)) true T 0)).next=M.next:=rfl
  generalize M.put b (.row (A++y :: (y :: D++R)) true T 0)=M2 at *
  have hl2:(A++y :: (y :: D++R)).length=c:=by simp [htl,hR.2]; omega
  rw [dY,uR (k:=1) hb2 (by simp [Nat.min_def]; omega) (by omega) hx2 (by rw [hl2]; omega) rfl]
  have hrow2:(A++y :: (y :: D++R)).take k++[N .u64 (x:Int)]++(A++y :: (y :: D++R)).drop (k + 1)=aX.row (fo k x xs)++R:=by
   rw [hins,hD,List.take_left' htl,show (A++y :: (y :: D++R)).drop (k + 1)=y :: D++R by
    rw [show A++y :: (y :: D++R)=(A++[y])++(y :: D++R) by simp,List.drop_left' (by simp [htl])]]
   simp
  rw [hrow2]
  refine hQ _ _ ?_ (show n + 1≤c from hcn) (fun d hd=>.inl (by simpa [aH] using hd)) (kp.put _ (.inr (by simp)))
  rw [← hinl]
  refine .slc _ _ _ _ _ (by rw [iF,hn2]; exact hbl) ?_
  have hil:(aX.row (fo k x xs)).length=n + 1:=by rw [Enc.eG,hinl]; simp [aX]
  show RM.loads _ b 0 ((fo k x xs).length * 1)=_
  rw [Nat.mul_one,hinl,RM.dG (aP _) (by rw [List.length_append,hil]; omega),List.drop_zero,List.take_append_of_le_length (by omega),List.take_of_length_le (by omega)]
end Go.Ab.ak
set_option maxRecDepth 10000
set_option linter.unusedVariables false
set_option linter.unusedSimpArgs false
namespace Go.Ab.ak
open Go Go.Ab
theorem Own.ku {M:RM} {n el n0:Nat} {v:AV} {cs:List AV} (h:Own M n0 el 1 v cs n) : ku v:=by
 cases h with
 | nil=>trivial
 | ex0=>exact Nat.le_refl _
 | op=>rfl
theorem Vk {M:RM} {v:AV} {xs:List Nat} {k:Nat} (h:Sl aX M v xs) (hc:ku v) (hk:k≤xs.length) :
  ∃ v',dh 1 v (some (N .i64 (k:Int))) none none=some v'∧Sl aX M v' (xs.drop k)∧ku v'∧∀ b∈aH v',b∈aH v:=by
 generalize hcs:aX.row xs=cs at *
 have h' : aN M 1 v cs xs.length:=by rw [← hcs]; exact h
 have hl:cs.length=xs.length:=by rw [← hcs,Enc.eG]; simp [aX]
 have hd:aX.row (xs.drop k)=cs.drop k:=by rw [← hcs,← aX.sO]; simp [aX]
 generalize hn:xs.length=n at *
 cases h' with
 | nil =>
   have:k=0:=by omega
   subst this
   exact ⟨bJ,by simp [dh,bnd],by simp only [Sl]; rw [hd]; simp [hn]; exact .nil,trivial,by simp⟩
 | emp b =>
   have:k=0:=by omega
   subst this
   exact ⟨.emp b,by simp [dh,bnd],by simp only [Sl]; rw [hd]; simp [hn]; exact .emp b,trivial,by simp⟩
 | slc b o n cap cs hb hload =>
   rw [Nat.mul_one] at hload
   have hpart:M.loads b (o + k) (n - k)=some (cs.drop k):=by
    have:=uh hload k (n - k) (by omega)
    rw [List.take_of_length_le (by simp; omega)] at this
    exact this
   cases cap with
   | ex c =>
     have hcn:n≤c:=hc
     by_cases hck:c=k
     ·have hkn:k=n:=by omega
      refine ⟨.slc b o 0 (.ex 0),by simp only [dh,bnd]; simp [hk,hcn,hck]; omega, ?_,Nat.le_refl _,by simp [aH]⟩
      simp only [Sl]
      rw [hd,List.length_drop,hn,hkn,Nat.sub_self,List.drop_of_length_le (by omega)]
      refine .slc b o 0 _ _ hb ?_
      have:=uh hload 0 0 (by omega)
      simpa using this
     ·refine ⟨.slc b (o + k * 1) (n - k) (.ex (c - k)),by simp only [dh,bnd]; simp [hk,hcn,hck], ?_,by simp only [ku]; omega,by simp [aH]⟩
      simp only [Sl]
      rw [hd,List.length_drop,hn]
      refine .slc _ _ _ _ _ hb ?_
      show M.loads b (o + k * 1) ((n - k) * 1)=_
      rw [Nat.mul_one,Nat.mul_one]; exact hpart
   | op e =>
     have he:e=1:=hc
     subst he
     by_cases hkn:n≤k
     ·refine ⟨.emp b,by simp only [dh,bnd]; simp [hk,hkn], ?_,trivial,by simp [aH]⟩
      simp only [Sl]
      rw [hd,List.length_drop,hn,show n - k=0 by omega,List.drop_of_length_le (by omega)]
      exact .emp b
     ·refine ⟨.slc b (o + k * 1) (n - k) (.op 1),by simp only [dh,bnd]; simp [hk,hkn], ?_,rfl,by simp [aH]⟩
      simp only [Sl]
      rw [hd,List.length_drop,hn]
      refine .slc _ _ _ _ _ hb ?_
      show M.loads b (o + k * 1) ((n - k) * 1)=_
      rw [Nat.mul_one,Nat.mul_one]; exact hpart
def dL:Nat→List Nat→Nat × Nat
 | u,[]=>(u,0)
 | u,x :: xs=>if x≤u + 1 then ((dL (max u x) xs).1,(dL (max u x) xs).2 + 1) else (u,0)
def settle (u:Nat) (xs:List Nat) : Nat × List Nat:=((dL u xs).1,xs.drop (dL u xs).2)
theorem K8 {u:Nat} {xs:List Nat} {i u' : Nat} (hi:i<xs.length) (h:dL u xs=((dL u' (xs.drop i)).1,(dL u' (xs.drop i)).2 + i)) (hle:xs[i]≤u' + 1) :
  dL u xs=((dL (max u' xs[i]) (xs.drop (i + 1))).1,(dL (max u' xs[i]) (xs.drop (i + 1))).2 + (i + 1)):=by
 rw [h,List.drop_eq_getElem_cons hi,dL,if_pos hle]
 ext <;> simp; omega
theorem KD {u:Nat} {xs:List Nat} {i u' : Nat} (h:dL u xs=((dL u' (xs.drop i)).1,(dL u' (xs.drop i)).2 + i)) (hs:i=xs.length∨∃ hi:i<xs.length,¬ xs[i]≤u' + 1) : dL u xs=(u',i):=by
 rw [h]
 rcases hs with hs | ⟨hi,hs⟩
 ·rw [List.drop_of_length_le (by omega)]; simp [dL]
 ·rw [List.drop_eq_getElem_cons hi,dL,if_neg hs]; simp
theorem Ll (a b:Nat) : (if (b:Int) > (a:Int) then (b:Int) else (a:Int))=((max a b:Nat) : Int):=by
 split <;> omega
theorem TC {l:List AV} {o:Nat} {x:AV} (h:l[o]?=some x) : l.set o x=l:=by
 apply List.ext_getElem?
 intro j
 rw [List.getElem?_set]
 split
 ·rename_i e; subst e
  obtain ⟨h1,h2⟩:=List.getElem?_eq_some_iff.1 h
  simp [h1,h2]
 ·rfl
def Ak (c:aj) : Prop:=∀ {M:RM} {b o T u:Nat} {l:List AV} {v:AV} {xs:List Nat} {Q:ah},M.heap b=some (.row l false T 0)→l[o]?=some (N .u64 (u:Int))→l[o + 1]?=some v→Sl aX M v xs→b ∉ aH v→ku v →
 xs.length≤1000000→u≤4398046511104→(∀ x∈xs,x≤4398046511104) →
 (∀ v' M',M'.heap b=some (.row ((l.set o (N .u64 (((settle u xs).1:Nat) : Int))).set (o + 1) v') false T 0)→Sl aX M' v' (settle u xs).2→ku v'→(∀ d∈aH v',d∈aH v)→ag [b] M M'→M'.next=M.next→Q (.tup []) M')→c [.ptr b o] M Q
theorem Ku:Ak fun args M Q=>∃ a0,args=[a0]∧tH a0 M Q:=by
 intro M b o T u l v xs Q hb ho hv hs hbv hcap hxl hu hx hQ
 refine ⟨_,rfl, ?_⟩
 unfold tH
 simp only [eD]
 have hol:o<l.length:=(List.getElem?_eq_some_iff.1 ho).1
 have hol1:o + 1<l.length:=(List.getElem?_eq_some_iff.1 hv).1
 refine aG (fun m ys M3=>∃ (i u' : Nat),m=xs.length - i∧ys=[N .i64 (i:Int)]∧i≤xs.length∧u'≤4398046511104∧M3.heap b=some (.row (l.set o (N .u64 (u' : Int))) false T 0)∧ag [b] M M3∧M3.next=M.next ∧
   dL u xs=((dL u' (xs.drop i)).1,(dL u' (xs.drop i)).2 + i)) _
  ⟨0,u,rfl,rfl,Nat.zero_le _,hu, ?_,ag.refl _ _,rfl,by simp⟩ ?_
 ·rw [hb]
  rw [TC ho]
 rintro next m ys M3 hnext ⟨i,u',rfl,rfl,hi,hu',h3,hK,hn3,hset⟩
 dsimp only [aa]
 have g0:(l.set o (N .u64 (u' : Int)))[o]?=some (N .u64 (u' : Int)):=by rw [List.getElem?_set_self hol]
 have g1:(l.set o (N .u64 (u' : Int)))[o + 1]?=some v:=by rw [List.getElem?_set_ne (by omega)]; exact hv
 have hs3:Sl aX M3 v xs:=aN.keep hs hK (fun d hd h=>by simp at h; subst h; exact hbv hd)
 rw [aJ,aY,az h3 g1,aN.len hs3,dF]
 have stop:(i=xs.length∨∃ hi:i<xs.length,¬ xs[i]≤u' + 1)→bQ (.ptr b o) fun t44=>aI t44 1 fun t45=>ax M3 t45 fun t46=>iX (dh 1 t46 (some (N .i64 (i:Int))) none none) fun t48=>bQ (.ptr b o) fun t49=>aI t49 1 fun t50=>aD M3 t50 t48 1 fun M_48=>Q (.tup []) M_48:=fun h=>by
  have he:=KD hset h
  rw [aJ,aY,az h3 g1]
  obtain ⟨v',e1,e2,e3,e4⟩:=Vk hs3 hcap hi
  rw [e1,dY,aJ,aY,eB h3 (by simpa using hol1) (aN.cells e2) (aN.one e2)]
  have kk:ag [b] M3 (M3.put b (.row ((l.set o (N .u64 (u' : Int))).set (o + 1) v') false T 0)):=(ag.refl _ _).put _ (.inr (by simp))
  refine hQ v' _ ?_ ?_ e3 e4 (hK.trans kk) hn3
  ·rw [aP,settle,he]
  ·rw [settle,he]
   exact aN.keep e2 kk (fun d hd h=>by simp at h; subst h; exact hbv (e4 _ hd))
 by_cases hlt:i<xs.length
 ·have hxi:=hx _ (List.getElem_mem hlt)
  obtain ⟨b1,o1,_,_,hidx,hc⟩:=Sl.FU (E:=aX) hs3 (i:Int) hlt
  have hc:=hc _ rfl
  rw [show decide ((i:Int)<(xs.length:Int))=true by simpa using hlt,jN,aJ,aY,az h3 g1,hidx,jL]
  refine ⟨_,hc, ?_⟩
  rw [aJ,aY,Nat.add_zero,az h3 g0,dm,jT]
  rw [show IntKind.u64.wrap ((u' : Int) + 1)=((u' + 1:Nat) : Int) by unfold IntKind.wrap; simp [IntKind.bits,IntKind.signed]; omega]
  dsimp only
  rw [dO]
  refine aF (fun h=>?_) (fun h=>?_)
  ·have hle:xs[i]≤u' + 1:=by
    have h2:((xs[i] : Nat) : Int)≤((u' + 1:Nat) : Int):=of_decide_eq_true h
    omega
   rw [aJ,aY,Nat.add_zero,az h3 g0,aJ,aY,az h3 g1,hidx,jL]
   refine ⟨_,hc, ?_⟩
   rw [SX,if_pos rfl,Ll,aJ,aY,Nat.add_zero,JP (l.set o (N .u64 ((max u' xs[i] : Nat) : Int))) h3 (by simpa using hol) rfl rfl (by rw [List.set_set]),dm,ik (by omega)]
   exact hnext _ _ _ (by omega) ⟨i + 1,max u' xs[i],rfl,rfl,by omega,by omega,aP _,hK.put _ (.inr (by simp)),hn3,K8 hlt hset hle⟩
  ·have hle:¬ xs[i]≤u' + 1:=by
    have h2:¬ ((xs[i] : Nat) : Int)≤((u' + 1:Nat) : Int):=of_decide_eq_false h
    omega
   exact stop (.inr ⟨hlt,hle⟩)
 ·rw [show decide ((i:Int)<(xs.length:Int))=false by simp; omega,ny]
  dsimp only
  rw [dz,bF]
  exact stop (.inl (by omega))
abbrev Pt:=Nat × List Nat
def fq (p:Pt) (n:Nat) : Bool × Pt :=
 if n∈p.2∨n≤p.1 then (true,p)
 else if (settle p.1 (fo (below n p.2) n p.2)).2.length≤4096 then (true,settle p.1 (fo (below n p.2) n p.2)) else (false,p)
def NT (T:Nat) (c:aj) : Prop:=∀ {M:RM} {v:AV} {bx n0 k x ex:Nat} {xs:List Nat} {Q:ah},Ow aX M n0 T v xs→n0≤M.next→xs.length≤100000→k≤xs.length→M.heap bx=some (.row [N .u64 (x:Int)] false ex 0)→bx<M.next→bx ∉ aH v →
 (∀ v' M',Sl aX M' v' (fo k x xs)→ku v'→(∀ c∈aH v',n0≤c)→ag (aH v) M M'→Q v' M')→c [v,N .i64 (k:Int),.slc bx 0 1 (.ex 1)] M Q
theorem uO (u:Nat) (xs:List Nat) : (settle u xs).2.length≤xs.length:=by simp [settle]
theorem zD {k x:Nat} {xs:List Nat} {y:Nat} (h:y∈fo k x xs) : y=x∨y∈xs:=by
 unfold fo at h
 rcases List.mem_append.1 h with h | h
 ·exact .inr (List.mem_of_mem_take h)
 ·rcases List.mem_cons.1 h with h | h
  ·exact .inl h
  ·exact .inr (List.mem_of_mem_drop h)
def Pb (c:aj) : Prop:=∀ {M:RM} {b o T u n:Nat} {l:List AV} {v:AV} {xs:List Nat} {Q:ah},M.heap b=some (.row l false T 0)→b<M.next→l[o]?=some (N .u64 (u:Int))→l[o + 1]?=some v→Sl aX M v xs→b ∉ aH v→ku v →
 Asc xs→xs.length≤10000→u≤4398046511104→(∀ x∈xs,x≤4398046511104)→n≤4398046511104 →
 (∀ M',fq (u,xs) n=((fq (u,xs) n).1,(u,xs))→ag [] M M'→Q (Bo (fq (u,xs) n).1) M') →
 (∀ v' M',M'.heap b=some (.row (l.take o++[N .u64 (((fq (u,xs) n).2.1:Nat) : Int),v']++l.drop (o + 2)) false T 0)→Sl aX M' v' (fq (u,xs) n).2.2→ku v'→(∀ d∈aH v',M.next≤d)→ag [b] M M'→Q (Bo (fq (u,xs) n).1) M') →
 c [.ptr b o,N .u64 (n:Int)] M Q
theorem Ru {TU TP:Nat} {cb cc ci cs:aj} (hsr:De cb) (hcl:Tg TU 1 8 cc) (hin:NT TU ci) (hst:Ak cs) : Pb fun args M Q=>∃ a0 a1,args=[a0,a1]∧Ad cb TU TP cc ci cs a0 a1 M Q:=by
 intro M b o T u n l v xs Q hb hbl ho hv hs hbv hcap hasc hxl hu hx hn hsame hnew
 refine ⟨_,_,rfl, ?_⟩
 unfold Ad
 simp only [iA]
 have hol:o + 1<l.length:=(List.getElem?_eq_some_iff.1 hv).1
 rw [aJ,aY,az hb hv]
 refine hsr hs (by omega) hasc ?_
 rw [ic,il]
 have yes:n∈xs∨n≤u→Q (Bo true) M:=fun h=>by
  have e:fq (u,xs) n=(true,(u,xs)):=by unfold fq; rw [if_pos h]
  have:=hsame M (by rw [e]) (ag.refl _ _)
  rw [e] at this; exact this
 by_cases hm:n∈xs
 ·rw [decide_eq_true hm,kR]
  dsimp only
  rw [dO,dC]
  exact yes (.inl hm)
 rw [decide_eq_false hm,fM,aJ,aY,Nat.add_zero,az hb ho,jT]
 dsimp only
 rw [dz]
 by_cases hnu:n≤u
 ·rw [show decide ((n:Int)≤(u:Int))=true by simpa using hnu,dC]
  exact yes (.inr hnu)
 rw [show decide ((n:Int)≤(u:Int))=false by simp; omega,bF]
 have e0:fq (u,xs) n=if (settle u (fo (below n xs) n xs)).2.length≤4096 then (true,settle u (fo (below n xs) n xs)) else (false,(u,xs)):=by
  unfold fq; rw [if_neg (by simp [hm]; omega)]
 rw [aJ,aY,Nat.add_zero,az hb ho,aJ,aY,az hb hv,qN (x:=N .u64 (n:Int)) (size:=1) rfl rfl rfl,qb,qb]
 have hx1:((M.push (.row [N .u64 (n:Int)] false TU 0)).push (.row [N .u64 0,bJ] false TP 0)).heap M.next=some (.row [N .u64 (n:Int)] false TU 0):=jV (RM.aQ _) (by simp [RM.push])
 have h7:((M.push (.row [N .u64 (n:Int)] false TU 0)).push (.row [N .u64 0,bJ] false TP 0)).heap (M.next + 1)=some (.row [N .u64 0,bJ] false TP 0):=RM.aQ _
 have kk:ag [] M ((M.push (.row [N .u64 (n:Int)] false TU 0)).push (.row [N .u64 0,bJ] false TP 0)):=((ag.refl _ _).push _).push _
 have nn:((M.push (.row [N .u64 (n:Int)] false TU 0)).push (.row [N .u64 0,bJ] false TP 0)).next=M.next + 2:=rfl
 rw [Rq]
 change cc _ ((M.push (.row [N .u64 (n:Int)] false TU 0)).push (.row [N .u64 0,bJ] false TP 0)) _
 generalize (M.push (.row [N .u64 (n:Int)] false TU 0)).push (.row [N .u64 0,bJ] false TP 0)=M1 at *
 refine hcl (aN.keep hs kk (by simp)) (aX.qF xs) (by omega) (by omega) fun v1 M2 ow k2=>?_
 have n2:=k2.next
 have hb2:=(kk.trans k2).aK hb hbl (by simp)
 have hx2:=k2.aK hx1 (by omega) (by simp)
 have h72:=k2.aK h7 (by omega) (by simp)
 have hbi:=below_le n xs
 have hwb:∀ d∈aH v1,M1.next≤d:=fun d hd=>(ow.blk d hd).1
 rw [az hb2 ho]
 refine ⟨rfl, ?_⟩
 rw [qN (x:=N .u64 (n:Int)) (size:=1) rfl rfl rfl]
 refine ⟨⟨hx2,rfl⟩,⟨h72,rfl⟩, ?_⟩
 refine hin (n0:=M1.next) ow n2 (by omega) hbi hx2 (by omega) (fun h=>by have:=hwb _ h; omega) fun v2 M3 s3 c3 b3 k3=>?_
 have n3:=k3.next
 have ke:ag [] M M3:=(kk.trans k2).dB k3 fun d hd=>.inl (by have:=hwb d hd; omega)
 have hb3:=ke.aK hb hbl (by simp)
 have h73:=k3.aK h72 (by omega) (fun h=>by have:=hwb _ h; omega)
 rw [az hb3 ho]
 refine ⟨rfl,⟨h73,rfl⟩, ?_⟩
 rw [ja]
 refine ⟨[N .u64 (u:Int),v2],QX rfl rfl (aN.known s3) (aN.cells s3), ?_⟩
 rw [dI (n:=2) (x:=.agg [N .u64 (u:Int),v2]) (l:=[N .u64 0,bJ]) h73 rfl rfl (by simp [AV.cells,Lr,aN.one s3])]
 change cs _ (M3.put (M.next + 1) (.row [N .u64 (u:Int),v2] false TP 0)) _
 have h74:(M3.put (M.next + 1) (.row [N .u64 (u:Int),v2] false TP 0)).heap (M.next + 1)=_:=aP _
 have ke4:ag [] M (M3.put (M.next + 1) (.row [N .u64 (u:Int),v2] false TP 0)):=ke.new _ (by omega)
 have n4:(M3.put (M.next + 1) (.row [N .u64 (u:Int),v2] false TP 0)).next=M3.next:=rfl
 have s4:Sl aX (M3.put (M.next + 1) (.row [N .u64 (u:Int),v2] false TP 0)) v2 (fo (below n xs) n xs):=aN.keep (bs:=[M.next + 1]) s3 ((ag.refl _ _).put _ (.inr (by simp))) (fun d hd h=>by have:=b3 d hd; simp at h; omega)
 have hb4:=oJ (z:=.row [N .u64 (u:Int),v2] false TP 0) hb3 (show b≠M.next + 1 by omega)
 generalize M3.put (M.next + 1) (.row [N .u64 (u:Int),v2] false TP 0)=M4 at *
 have hil:=zZ (x:=n) hbi
 refine hst h74 rfl rfl s4 (fun h=>by have:=b3 _ h; omega) c3 (by omega) hu (fun y hy=>by rcases zD hy with rfl | hy; exact hn; exact hx y hy) ?_
 intro v5 M5 h75 s5 c5 b5 k5 n5
 have hb5:=k5.aK hb4 (by omega) (by simp; omega)
 have ke5:ag [] M M5:=ke4.dB k5 fun d hd=>.inl (by simp at hd; omega)
 simp only [List.set_cons_zero,List.set_cons_succ,Nat.zero_add] at h75
 rw [bz,az h75 rfl,aN.len s5,gH]
 refine aF (fun hg=>?_) (fun hg=>?_)
 ·have hg:¬ (settle u (fo (below n xs) n xs)).2.length≤4096:=by simp at hg; omega
  rw [if_neg hg] at e0
  have:=hsame M5 (by rw [e0]) ke5
  rw [e0] at this; exact this
 ·have hg:(settle u (fo (below n xs) n xs)).2.length≤4096:=by simp at hg; omega
  rw [if_pos hg] at e0
  rw [bP (n:=2) h75 rfl,aJ,vg]
  have hst:M5.stores b o [N .u64 (((settle u (fo (below n xs) n xs)).1:Nat) : Int),v5]=some (M5.put b (.row (l.take o++[N .u64 (((settle u (fo (below n xs) n xs)).1:Nat) : Int),v5]++l.drop (o + 2)) false T 0)):=by
   rw [RM.ul hb5,nJ (by simp only [List.length_cons,List.length_nil]; omega) (Nat.zero_le _) (by simp [Lr,aN.one s5])]; rfl
  refine ⟨rfl,_,hst, ?_⟩
  have kf:ag [b] M5 (M5.put b (.row (l.take o++[N .u64 (((settle u (fo (below n xs) n xs)).1:Nat) : Int),v5]++l.drop (o + 2)) false T 0)):=(ag.refl _ _).put _ (.inr (by simp))
  have:=hnew v5 _ (by rw [aP,e0]) (by rw [e0]; exact aN.keep s5 kf (fun d hd h=>by have:=b3 d (b5 d hd); simp at h; omega)) c5 (fun d hd=>by have:=b3 d (b5 d hd); omega) ((ke5.mono (by simp)).trans kf)
  rw [e0] at this; exact this
end Go.Ab.ak
set_option maxRecDepth 10000
set_option linter.unusedVariables false
set_option linter.unusedSimpArgs false
namespace Go.Ab.ak
open Go Go.Ab
def gG (p:Pt) (n:Nat) : Bool:=(decide (1≤n) && decide (n≤p.1)) || decide (n∈p.2)
def Km (c:aj) : Prop:=∀ {M:RM} {b o T u n:Nat} {l:List AV} {v:AV} {xs:List Nat} {Q:ah},M.heap b=some (.row l false T 0)→l[o]?=some (N .u64 (u:Int))→l[o + 1]?=some v→Sl aX M v xs→Asc xs→xs.length≤1000000 →
 Q (Bo (gG (u,xs) n)) M→c [.ptr b o,N .u64 (n:Int)] M Q
theorem QW {cb:aj} (hsr:De cb) : Km fun args M Q=>∃ a0 a1,args=[a0,a1]∧zn cb a0 a1 M Q:=by
 intro M b o T u n l v xs Q hb ho hv hs hasc hxl hQ
 refine ⟨_,_,rfl, ?_⟩
 unfold zn
 simp only [iA]
 unfold gG at hQ
 rw [aJ,aY,az hb hv]
 refine hsr hs hxl hasc ?_
 rw [ic,il,fw]
 by_cases h1:1≤n
 ·rw [show decide ((n:Int) ≥ 1)=true by simp; omega,cz,aJ,aY,Nat.add_zero,az hb ho,jT]
  dsimp only
  rw [dO]
  by_cases h2:n≤u
  ·rw [show decide ((n:Int)≤(u:Int))=true by simpa using h2,kR]
   dsimp only
   rw [dO]
   simpa [h1,h2] using hQ
  ·rw [show decide ((n:Int)≤(u:Int))=false by simp; omega,fM]
   dsimp only
   rw [dz]
   simpa [h1,h2] using hQ
 ·rw [show decide ((n:Int) ≥ 1)=false by simp; omega,bL]
  dsimp only
  rw [dz,fM]
  dsimp only
  rw [dz]
  simpa [h1] using hQ
abbrev ak:=Int × Nat
abbrev aO (d:ak) : List AV:=[N .i64 d.1,N .u64 (d.2:Int)]
def aR:Enc ak:=⟨2,aO,fun _=>rfl,fun _=>rfl⟩
def good (d:ak) : Bool:=decide (0≤d.1) && decide (d.1<16) && decide (1≤d.2) && decide (d.2≤1099511627776)
def wW (c:aj) : Prop:=∀ {M:RM} {d:ak} {Q:ah},(∀ M',ag [] M M'→Q (Bo (good d)) M')→c [.agg (aO d)] M Q
theorem JO {M1:RM} {K:ah} {d:ak} {T:Nat} {b:Nat} (h:M1.heap b=some (.row (aO d) false T 0)) (hQ:K (Bo (good d)) M1) :
  aI (.ptr b 0) 0 fun t3=>ax M1 t3 fun t4=>af .geq t4 (N .i64 0) fun t5 =>
   ai t5 true (fun k'=>aI (.ptr b 0) 0 fun t7=>ax M1 t7 fun t8=>af .lss t8 (N .i64 16) fun t9=>k' t9 M1) (fun k=>k .undef M1) fun t9 M2=>aM t5 t9 (Bo false) fun bV =>
   ai bV true (fun k'=>aI (.ptr b 0) 1 fun t12=>ax M2 t12 fun bO=>af .geq bO (N .u64 1) fun t14=>k' t14 M2) (fun k=>k .undef M2) fun t14 M3=>aM bV t14 (Bo false) fun t15 =>
   ai t15 true (fun k'=>aI (.ptr b 0) 1 fun t17=>ax M3 t17 fun t18=>af .leq t18 (N .u64 1099511627776) fun t19=>k' t19 M3) (fun k=>k .undef M3) fun t19 M4=>aM t15 t19 (Bo false) fun t20=>K t20 M4:=by
 unfold good at hQ
 obtain ⟨dv,n⟩:=d
 simp only at hQ
 rw [bz,az h rfl,fw]
 by_cases h1:0≤dv
 ·rw [show decide (dv ≥ 0)=true by simpa using h1,cz,bz,az h rfl,dF]
  dsimp only
  rw [dO]
  by_cases h2:dv<16
  ·rw [show decide (dv<16)=true by simpa using h2,cz,bz,az h rfl,fw]
   dsimp only
   rw [dO]
   by_cases h3:1≤n
   ·rw [show decide ((n:Int) ≥ 1)=true by simp; omega,cz,bz,az h rfl,jT]
    dsimp only
    rw [dO,show decide ((n:Int)≤1099511627776)=decide (n≤1099511627776) by simp; omega]
    simpa [h1,h2,h3] using hQ
   ·rw [show decide ((n:Int) ≥ 1)=false by simp; omega,bL]
    dsimp only
    rw [dz]
    simpa [h1,h2,h3] using hQ
  ·rw [show decide (dv<16)=false by simpa using h2,bL]
   dsimp only
   rw [dz,bL]
   dsimp only
   rw [dz]
   simpa [h1,h2] using hQ
 ·rw [show decide (dv ≥ 0)=false by simpa using h1,bL]
  dsimp only
  rw [dz,bL]
  dsimp only
  rw [dz,bL]
  dsimp only
  rw [dz]
  simpa [h1] using hQ
theorem SN {T:Nat} : wW fun args M Q=>∃ a0,args=[a0]∧EO T a0 M Q:=by
 intro M d Q hQ
 refine ⟨_,rfl, ?_⟩
 unfold EO
 simp only [iA]
 rw [dH rfl (by simp),bi]
 exact JO (RM.aQ _) (hQ _ ((ag.refl _ _).push _))
theorem KG {T:Nat} : wW fun args M Q=>∃ a0,args=[a0]∧Fp T a0 M Q:=by
 intro M d Q hQ
 refine ⟨_,rfl, ?_⟩
 unfold Fp
 simp only [iA]
 rw [dH rfl (by simp),bi]
 exact JO (RM.aQ _) (hQ _ ((ag.refl _ _).push _))
def kw (p:Pt) : Prop:=Asc p.2∧(∀ x∈p.2,p.1 + 1<x)∧p.1≤1099511627776∧(∀ x∈p.2,x≤1099511627776)∧p.2.length≤4096
theorem U9 {n:Nat} {xs:List Nat} (h:Asc xs) (hn:n ∉ xs) : Asc (fo (below n xs) n xs):=by
 unfold fo Asc
 rw [List.pairwise_append]
 have ht:=List.Pairwise.sublist (List.take_sublist (below n xs) xs) h
 have hd:=List.Pairwise.sublist (List.drop_sublist (below n xs) xs) h
 have lt1:∀ a∈xs.take (below n xs),a<n:=fun a ha=>by
  obtain ⟨i,hi,rfl⟩:=List.getElem_of_mem ha
  rw [List.getElem_take]
  exact LD (by simp at hi; omega) (by simp at hi; omega)
 have gt1:∀ a∈xs.drop (below n xs),n<a:=fun a ha=>by
  obtain ⟨i,hi,rfl⟩:=List.getElem_of_mem ha
  rw [List.getElem_drop]
  simp only [List.length_drop] at hi
  have h0:below n xs<xs.length:=by omega
  have h1:=ME (n:=n) h0
  have h2:xs[below n xs]≠n:=fun e=>hn (by rw [← e]; exact List.getElem_mem h0)
  rcases Nat.eq_zero_or_pos i with rfl | hi0
  ·simp only [Nat.add_zero]; omega
  ·have:=h.lt (i:=below n xs) (j:=below n xs + i) (by omega) (by omega); omega
 refine ⟨ht,List.pairwise_cons.2 ⟨gt1,hd⟩,fun a ha b hb=>?_⟩
 rcases List.mem_cons.1 hb with rfl | hb
 ·exact lt1 a ha
 ·have:=lt1 a ha; have:=gt1 b hb; omega
theorem rA:∀ (xs:List Nat) (u N:Nat),Asc xs→u≤N→(∀ x∈xs,x≤N)→Asc (settle u xs).2∧(∀ x∈(settle u xs).2,(settle u xs).1 + 1<x)∧(settle u xs).1≤N∧u≤(settle u xs).1
 | [],u,N,_,hu,_=>⟨by simp [settle,dL,Asc],by simp [settle,dL],hu,Nat.le_refl _⟩
 | x :: xs,u,N,ha,hu,hx=>by
   have ha2:=(List.pairwise_cons.1 ha).2
   by_cases h:x≤u + 1
   ·have e:settle u (x :: xs)=settle (max u x) xs:=by
     unfold settle
     rw [dL,if_pos h]; rfl
    rw [e]
    have:=rA xs (max u x) N ha2 (by have:=hx x (by simp); omega) (fun y hy=>hx y (by simp [hy]))
    exact ⟨this.1,this.2.1,this.2.2.1,by have:=this.2.2.2; omega⟩
   ·have e:settle u (x :: xs)=(u,x :: xs):=by
     unfold settle
     rw [dL,if_neg h]; rfl
    rw [e]
    refine ⟨ha,fun y hy=>?_,hu,Nat.le_refl _⟩
    simp only at hy ⊢
    rcases List.mem_cons.1 hy with rfl | hy
    ·omega
    ·have:=(List.pairwise_cons.1 ha).1 y hy; omega
theorem Ae {u:Nat} {xs:List Nat} {y:Nat} (h:y∈(settle u xs).2) : y∈xs:=List.mem_of_mem_drop h
theorem Wj {p:Pt} {n:Nat} (hp:kw p) (hn:n≤1099511627776) : kw (fq p n).2:=by
 unfold fq
 split
 ·exact hp
 ·rename_i h
  split
  ·rename_i h2
   have hm:n ∉ p.2:=fun hm=>h (.inl hm)
   have:=rA (fo (below n p.2) n p.2) p.1 1099511627776 (U9 hp.1 hm) hp.2.2.1 (fun x hx=>by rcases zD hx with rfl | hx; exact hn; exact hp.2.2.2.1 x hx)
   exact ⟨this.1,this.2.1,this.2.2.1,fun x hx=>by rcases zD (Ae hx) with rfl | hx; exact hn; exact hp.2.2.2.1 x hx,h2⟩
  ·exact hp
structure gD (T:Nat) (S:Nat→Prop) (M:RM) (b:Nat) (ps:List Pt) : Prop where
 lt:b<M.next
 len:ps.length=16
 row:∃ l,M.heap b=some (.row l false T 0)∧l.length=32∧∀ (i:Nat) (hi:i<ps.length),∃ v,l[2 * i]?=some (N .u64 (ps[i].1:Int))∧l[2 * i + 1]?=some v∧Sl aX M v ps[i].2∧ku v∧∀ d∈aH v,S d
 nb:¬ S b
theorem gD.mono {T:Nat} {S S' : Nat→Prop} {M:RM} {b:Nat} {ps:List Pt} (h:gD T S M b ps) (hs:∀ d,S d→S' d) (hb:¬ S' b) : gD T S' M b ps:=by
 obtain ⟨l,h1,h2,h3⟩:=h.row
 exact ⟨h.lt,h.len,⟨l,h1,h2,fun i hi=>let ⟨v,a1,a2,a3,a4,a5⟩:=h3 i hi; ⟨v,a1,a2,a3,a4,fun d hd=>hs d (a5 d hd)⟩⟩,hb⟩
theorem gD.keep {T:Nat} {S:Nat→Prop} {M M' : RM} {b:Nat} {ps:List Pt} {bs:List Nat} (h:gD T S M b ps) (hk:ag bs M M') (hb:b ∉ bs) (hs:∀ d∈bs,¬ S d) : gD T S M' b ps:=by
 obtain ⟨l,h1,h2,h3⟩:=h.row
 exact ⟨Nat.lt_of_lt_of_le h.lt hk.next,h.len,⟨l,hk.aK h1 h.lt hb,h2,fun i hi=>let ⟨v,a1,a2,a3,a4,a5⟩:=h3 i hi; ⟨v,a1,a2,aN.keep a3 hk (fun d hd hm=>hs d hm (a5 d hd)),a4,a5⟩⟩,h.nb⟩
theorem gD.below {T:Nat} {S:Nat→Prop} {M:RM} {b:Nat} {ps:List Pt} (h:gD T S M b ps) : gD T (fun d=>S d∧d<M.next) M b ps:=by
 obtain ⟨l,h1,h2,h3⟩:=h.row
 exact ⟨h.lt,h.len,⟨l,h1,h2,fun i hi=>let ⟨v,a1,a2,a3,a4,a5⟩:=h3 i hi; ⟨v,a1,a2,a3,a4,fun d hd=>⟨a5 d hd,aN.lt a3 d hd⟩⟩⟩,fun hb=>h.nb hb.1⟩
def kE (ps:List Pt) (d:ak) : Int × List Pt :=
 if good d then (if (fq (ps.getD d.1.toNat (0,[])) d.2).1 then (0,ps.set d.1.toNat (fq (ps.getD d.1.toNat (0,[])) d.2).2) else (2,ps)) else (1,ps)
def OJ (T:Nat) (c:aj) : Prop:=∀ {M:RM} {b:Nat} {ps:List Pt} {d:ak} {S:Nat→Prop} {Q:ah},gD T S M b ps→(∀ p∈ps,kw p) →
 (∀ M',gD T (fun e=>S e∨M.next≤e) M' b (kE ps d).2→ag [b] M M'→Q (N .i64 (kE ps d).1) M')→c [.ptr b 0,.agg (aO d)] M Q
theorem Qp {p:Pt} {n:Nat} (h:(fq p n).1=false) : (fq p n).2=p:=by
 unfold fq at h ⊢
 split
 ·rfl
 ·split
  ·rename_i h1 h2
   rw [if_neg h1,if_pos h2] at h; cases h
  ·rfl
theorem SY {T TD:Nat} {cg ca:aj} (hg:wW cg) (ha:Pb ca) : OJ T fun args M Q=>∃ a0 a1,args=[a0,a1]∧BU TD cg ca a0 a1 M Q:=by
 intro M b ps d S Q hset hwf hQ
 refine ⟨_,_,rfl, ?_⟩
 unfold BU
 rw [dH rfl (by simp),bi,bP (n:=2) (RM.aQ _) rfl]
 have k1:ag [] M (M.push (.row (aO d) false TD 0)):=(ag.refl _ _).push _
 have h3:(M.push (.row (aO d) false TD 0)).heap M.next=some (.row (aO d) false TD 0):=RM.aQ _
 have n1:(M.push (.row (aO d) false TD 0)).next=M.next + 1:=rfl
 generalize M.push (.row (aO d) false TD 0)=M1 at *
 refine hg fun M2 k2=>?_
 have kk:=k1.trans k2
 have h3:=k2.aK h3 (by omega) (by simp)
 have s2:=hset.keep kk (by simp) (by simp)
 have hbl:=hset.lt
 rw [bB]
 unfold kE at hQ
 have n2:=k2.next
 cases hgd:good d with
 | false =>
   simp only [hgd,Bool.false_eq_true,if_false] at hQ
   rw [Bool.not_false,dC]
   exact hQ M2 (s2.mono (fun e h=>.inl h) (fun h=>by rcases h with h | h; exact hset.nb h; omega)) (kk.mono (by simp))
 | true =>
   simp only [hgd,if_true] at hQ
   have hgd':=hgd
   simp [good] at hgd'
   obtain ⟨i,hi⟩ : ∃ i:Nat,d.1=(i:Int):=⟨d.1.toNat,by omega⟩
   have hi16:i<16:=by omega
   have hil:i<ps.length:=by rw [hset.len]; exact hi16
   have hgetD:ps.getD d.1.toNat (0,[])=ps[i]:=by rw [hi,Int.toNat_natCast,List.getD_eq_getElem?_getD,List.getElem?_eq_getElem hil]; rfl
   rw [hgetD] at hQ
   rw [hi,Int.toNat_natCast] at hQ
   rw [Bool.not_true,bF,bz,az h3 rfl,aJ,bz,hi,wK]
   refine ⟨by omega,by omega, ?_⟩
   rw [bz,az h3 rfl,Int.toNat_natCast,Nat.zero_add,Nat.mul_comm i 2]
   obtain ⟨l,hb,hl32,hrow⟩:=s2.row
   obtain ⟨v,a1,a2,a3,a4,a5⟩:=hrow i hil
   have hwp:=hwf _ (List.getElem_mem hil)
   have hk0:∀ b'∈([b] : List Nat),b'=b:=by simp
   refine ha hb s2.lt a1 a2 a3 (fun h=>hset.nb (a5 b h)) a4 hwp.1 (by have:=hwp.2.2.2.2; omega) (by have:=hwp.2.2.1; omega) (fun x hx=>by have:=hwp.2.2.2.1 x hx; omega) (by omega) ?_ ?_
   ·intro M3 he k3
    have s3:=s2.keep k3 (by simp) (by simp)
    rw [bB]
    cases hr:(fq (ps[i].1,ps[i].2) d.2).1 with
    | false =>
      have hr' : (fq ps[i] d.2).1=false:=hr
      simp only [hr',Bool.false_eq_true,if_false] at hQ
      rw [Bool.not_false,dC]
      exact hQ M3 (s3.mono (fun e h=>.inl h) (fun h=>by rcases h with h | h; exact hset.nb h; omega)) ((kk.trans k3).mono (by simp))
    | true =>
      have hr' : (fq ps[i] d.2).1=true:=hr
      have he2:(fq ps[i] d.2).2=ps[i]:=by
       have:=congrArg Prod.snd he
       exact this
      simp only [hr',if_true,he2,List.set_getElem_self] at hQ
      rw [Bool.not_true,bF]
      exact hQ M3 (s3.mono (fun e h=>.inl h) (fun h=>by rcases h with h | h; exact hset.nb h; omega)) ((kk.trans k3).mono (by simp))
   ·intro v' M3 hb3 hs3 hc3 hbk k3
    rw [bB]
    have hb2n:∀ b'∈aH v',b'≠b:=fun b' hb' e=>by have:=hbk b' hb'; omega
    have set3:gD T (fun e=>S e∨M.next≤e) M3 b (ps.set i (fq ps[i] d.2).2):=by
     refine ⟨Nat.lt_of_lt_of_le s2.lt k3.next,by rw [List.length_set]; exact hset.len,⟨_,hb3,by simp [hl32]; omega,fun j hj=>?_⟩,fun h=>by rcases h with h | h; exact hset.nb h; omega⟩
     rw [List.length_set] at hj
     have htl:(l.take (2 * i)).length=2 * i:=by simp; omega
     by_cases hji:j=i
     ·subst hji
      refine ⟨v', ?_, ?_, ?_,hc3,fun e he=>.inr (by have:=hbk e he; omega)⟩
      ·rw [List.append_assoc,List.getElem?_append_right (by omega),htl,Nat.sub_self]; simp
      ·rw [List.append_assoc,List.getElem?_append_right (by omega),htl,show 2 * j + 1 - 2 * j=1 by omega]; simp
      ·simp only [List.getElem_set_self]; exact hs3
     ·obtain ⟨w,e1,e2,e3,e4,e5⟩:=hrow j hj
      have same:∀ k,(k=2 * j∨k=2 * j + 1)→(l.take (2 * i)++[N .u64 (((fq (ps[i].1,ps[i].2) d.2).2.1:Nat) : Int),v']++l.drop (2 * i + 2))[k]?=l[k]?:=fun k hk=>by
       rcases Nat.lt_or_ge k (2 * i) with h | h
       ·rw [List.append_assoc,List.getElem?_append_left (by omega),List.getElem?_take_of_lt h]
       ·rw [List.getElem?_append_right (by simp; omega),List.getElem?_drop]
        congr 1
        simp; omega
      refine ⟨w, ?_, ?_, ?_,e4,fun e he=>.inl (e5 e he)⟩
      ·rw [same _ (.inl rfl),e1,List.getElem_set_ne (Ne.symm hji)]
      ·rw [same _ (.inr rfl),e2]
      ·rw [List.getElem_set_ne (Ne.symm hji)]
       exact aN.keep e3 k3 (fun e he hm=>by simp at hm; subst hm; exact hset.nb (e5 _ he))
    cases hr:(fq (ps[i].1,ps[i].2) d.2).1 with
    | false =>
      have hr' : (fq ps[i] d.2).1=false:=hr
      simp only [hr',Bool.false_eq_true,if_false] at hQ
      rw [Bool.not_false,dC]
      have e:=Qp hr'
      rw [e,List.set_getElem_self] at set3
      exact hQ M3 set3 ((kk.mono (by simp)).trans k3)
    | true =>
      have hr' : (fq ps[i] d.2).1=true:=hr
      simp only [hr',if_true] at hQ
      rw [Bool.not_true,bF]
      exact hQ M3 set3 ((kk.mono (by simp)).trans k3)
def iU:List Pt:=List.replicate 16 (0,[])
def OL (T:Nat) (c:aj) : Prop:=∀ {M:RM} {Q:ah},(∀ M',gD T (fun _=>False) M' M.next iU→ag [] M M'→M'.next=M.next + 1→Q (.ptr M.next 0) M')→c [] M Q
theorem Ur {T:Nat} : OL T fun args M Q=>args=[]∧Ht T M Q:=by
 intro M Q hQ
 refine ⟨rfl, ?_⟩
 unfold Ht
 rw [ja]
 refine ⟨_,rfl, ?_⟩
 rw [dH rfl (by simp),bi]
 refine hQ _ ⟨by simp [RM.push],rfl,⟨_,RM.aQ _,rfl,fun i hi=>?_⟩,id⟩ ((ag.refl _ _).push _) rfl
 have hi:i<16:=hi
 refine ⟨bJ, ?_, ?_, ?_,trivial,by simp [aH]⟩
 ·obtain rfl | rfl | rfl | rfl | rfl | rfl | rfl | rfl | rfl | rfl | rfl | rfl | rfl | rfl | rfl | rfl:i=0∨i=1∨i=2∨i=3∨i=4∨i=5∨i=6∨i=7∨i=8∨i=9∨i=10∨i=11∨i=12∨i=13∨i=14∨i=15:=by omega
  all_goals rfl
 ·obtain rfl | rfl | rfl | rfl | rfl | rfl | rfl | rfl | rfl | rfl | rfl | rfl | rfl | rfl | rfl | rfl:i=0∨i=1∨i=2∨i=3∨i=4∨i=5∨i=6∨i=7∨i=8∨i=9∨i=10∨i=11∨i=12∨i=13∨i=14∨i=15:=by omega
  all_goals rfl
 ·simp only [iU,List.getElem_replicate]; exact .nil
end Go.Ab.ak
set_option maxRecDepth 10000
set_option linter.unusedVariables false
set_option linter.unusedSimpArgs false
namespace Go.Ab.ak
open Go Go.Ab
section
variable {α:Type} {E:Enc α}
end
def Xc:Nat→Nat→List UInt8→Option (Nat × Nat)
 | _,_,[]=>none
 | i,v,x :: xs =>
   if x.toNat ≥ 128 then Xc (i + 1) ((v ||| (x.toNat % 128 * 2 ^ (7 * i) % 2 ^ 64)) % 2 ^ 64) xs
   else if x.toNat=0∧i > 0∨i=9∧x.toNat > 1 then none else some ((v ||| (x.toNat % 128 * 2 ^ (7 * i) % 2 ^ 64)) % 2 ^ 64,i + 1)
def ZK (bs:List UInt8) : Option (Nat × Nat):=Xc 0 0 (bs.take 10)
structure WA (T:Nat) (S:Nat→Prop) (M:RM) (r:Nat) (bs:List UInt8) (f:Bool) : Prop where
 lt:r<M.next
 row:∃ v,M.heap r=some (.row [v,Bo f] false T 0)∧Sl BY M v bs∧ku v∧∀ d∈aH v,S d
 nb:¬ S r
theorem WA.keep {T:Nat} {S:Nat→Prop} {M M' : RM} {r:Nat} {bs:List UInt8} {f:Bool} {ks:List Nat} (h:WA T S M r bs f) (hk:ag ks M M') (hr:r ∉ ks) (hs:∀ d∈ks,¬ S d) : WA T S M' r bs f:=by
 obtain ⟨v,h1,h2,h3,h4⟩:=h.row
 exact ⟨Nat.lt_of_lt_of_le h.lt hk.next,⟨v,hk.aK h1 h.lt hr,aN.keep h2 hk (fun d hd hm=>hs d hm (h4 d hd)),h3,h4⟩,h.nb⟩
def VE (most:Nat) (bs:List UInt8) (f:Bool) : Nat × List UInt8 × Bool :=
 match ZK bs with
 | none=>(0,bs,true)
 | some (v,n)=>if f || decide (most<v) then (0,bs,true) else (v,bs.drop n,false)
end Go.Ab.ak
set_option maxRecDepth 10000
set_option linter.unusedVariables false
set_option linter.unusedSimpArgs false
namespace Go.Ab.ak
open Go Go.Ab
def Vm (f:(List AV→RM→Prop)→Prop) (g:List AV→RM→Prop) : Prop:=f g
theorem bT (f:(List AV→RM→Prop)→Prop) (g:List AV→RM→Prop) : bX f g=Vm f g:=rfl
theorem aZ {H:(List AV→RM→Prop)→Prop} {G:List AV→RM→Prop} (P:List AV→RM→Prop) (hT:∀ xs M,P xs M→G xs M)
  (hH:∀ J:List AV→RM→Prop,(∀ xs M,P xs M→J xs M)→H J) : Vm H G:=hH G hT
abbrev FY:=(Nat × Nat) × List Nat
def Q8 (ps:List Pt) : Nat→List FY
 | 0=>[]
 | i + 1=>Q8 ps i++(if 0<(ps.getD i (0,[])).1∨0<(ps.getD i (0,[])).2.length then [((i,(ps.getD i (0,[])).1),(ps.getD i (0,[])).2)] else [])
def parts (ps:List Pt) : List FY:=Q8 ps 16
@[irreducible] def Z8 (x a:Nat) : Nat:=(x + 18446744073709551616 - a) % 18446744073709551616
end Go.Ab.ak
set_option maxRecDepth 10000
set_option linter.unusedVariables false
set_option linter.unusedSimpArgs false
namespace Go.Ab.ak
open Go Go.Ab
end Go.Ab.ak
set_option maxRecDepth 10000
set_option linter.unusedVariables false
set_option linter.unusedSimpArgs false
namespace Go.Ab.ak
open Go Go.Ab
structure UB (T TU base:Nat) (M:RM) (b:Nat) (ps:List Pt) : Prop where
 lt:b<M.next
 len:ps.length=16
 row:∃ (l:List AV) (vs:Nat→AV),M.heap b=some (.row l false T 0)∧l.length=32∧(∀ (i:Nat) (hi:i<ps.length),l[2 * i]?=some (N .u64 (ps[i].1:Int))∧l[2 * i + 1]?=some (vs i)∧Ow aX M base TU (vs i) ps[i].2) ∧
  ∀ i j,i<16→j<16→i≠j→∀ d∈aH (vs i),d ∉ aH (vs j)
 nb:b<base
theorem UB.keep {T TU base:Nat} {M M' : RM} {b:Nat} {ps:List Pt} {bs:List Nat} (h:UB T TU base M b ps) (hk:ag bs M M') (hb:b ∉ bs) (hs:∀ d∈bs,d<base) : UB T TU base M' b ps:=by
 obtain ⟨l,vs,h1,h2,h3,h4⟩:=h.row
 refine ⟨Nat.lt_of_lt_of_le h.lt hk.next,h.len,⟨l,vs,hk.aK h1 h.lt hb,h2,fun i hi=>⟨(h3 i hi).1,(h3 i hi).2.1,(h3 i hi).2.2.keep hk fun d hd hm=>?_⟩,h4⟩,h.nb⟩
 have:=((h3 i hi).2.2.blk d hd).1
 have:=hs d hm
 omega
theorem Own.sl {M:RM} {base T:Nat} {v:AV} {L:List UInt8} (h:Own M base T 1 v (ML L) L.length) : Sl BY M v L:=by
 have:=h.lG
 show aN M 1 v (BY.row L) L.length
 rw [SQ]; exact this
end Go.Ab.ak
set_option maxRecDepth 10000
set_option linter.unusedVariables false
set_option linter.unusedSimpArgs false
namespace Go.Ab.ak
open Go Go.Ab
@[irreducible] def Z9 (bs:List UInt8) (f:Bool) : Nat × List UInt8 × Bool:=VE 18446744073709551615 bs f
theorem Bc {ps:List Pt} {i:Nat} (h:i<ps.length) (p:Pt) : (ps.set i p).getD i (0,[])=p:=by
 rw [List.getD_eq_getElem?_getD,List.getElem?_set_self h]; rfl
end Go.Ab.ak
set_option maxRecDepth 10000
set_option linter.unusedVariables false
set_option linter.unusedSimpArgs false
namespace Go.Ab.ak
open Go Go.Ab
def QS (a b:ak) : Bool:=decide (a.1<b.1) || (decide (a.1=b.1) && decide (a.2<b.2))
theorem Ci (a b:ak) : dW [1,1] (aO a) (aO b)=some (decide (a=b)):=by
 obtain ⟨d,n⟩:=a
 obtain ⟨e,k⟩:=b
 simp only [FX,Fx]
 by_cases h1:d=e
 ·by_cases h2:n=k
  ·simp [h1,h2]
  ·have:¬ (n:Int)=(k:Int):=by omega
   simp [h1,h2,this]
 ·simp [h1]
section
variable {α:Type} {E:Enc α}
theorem V9 {M:RM} {base T k:Nat} {v:AV} {xs:List α} (hE:1≤E.size) (ho:Ow E M base T v xs) (hk:k≤xs.length) :
  ∃ v1 v2,dh E.size v none (some (N .i64 (k:Int))) none=some v1∧Sl E M v1 (xs.take k)∧dh E.size v (some (N .i64 (k:Int))) none none=some v2∧Sl E M v2 (xs.drop k)∧(∀ d∈aH v1,d∈aH v)∧∀ d∈aH v2,d∈aH v:=by
 have hs:=ho.lG
 generalize hcs:E.row xs=cs at *
 have ho' : Own M base T E.size v cs xs.length:=by rw [← hcs]; exact ho
 have hl:cs.length=xs.length * E.size:=by rw [← hcs,Enc.eG]
 have hd:E.row (xs.drop k)=cs.drop (k * E.size):=by rw [← hcs,← E.sO]
 have ht:E.row (xs.take k)=cs.take (k * E.size):=by rw [← hcs,← E.sj]
 have g1:∀ v',Sl E M v' (xs.take k)↔aN M E.size v' (cs.take (k * E.size)) k:=fun v'=>by simp only [Sl]; rw [ht,List.length_take,Nat.min_eq_left hk]
 have g2:∀ v',Sl E M v' (xs.drop k)↔aN M E.size v' (cs.drop (k * E.size)) (xs.length - k):=fun v'=>by simp only [Sl]; rw [hd,List.length_drop]
 generalize hn:xs.length=n at *
 cases ho' with
 | nil =>
   have:k=0:=by omega
   subst this
   exact ⟨bJ,bJ,by simp [dh,bnd],(g1 _).2 (by simp; exact .nil),by simp [dh,bnd],(g2 _).2 (by simp; exact .nil),by simp,by simp⟩
 | ex0 b o h1 h2 h3 =>
   have:k=0:=by omega
   subst this
   have e0:aN M E.size (.slc b o 0 (.ex 0)) [] 0:=hs
   exact ⟨.slc b o 0 (.ex 0),.slc b o 0 (.ex 0),by simp [dh,bnd],(g1 _).2 (by simpa using e0),by simp [dh,bnd],(g2 _).2 (by simpa using e0),by simp [aH],by simp [aH]⟩
 | op b n cs h1 h2 h3 h4 =>
   have hload:∀ o m,o + m≤cs.length→M.loads b o m=some ((cs.drop o).take m):=fun o m h=>RM.dG h3 h
   have hmul:k * E.size≤n * E.size:=Nat.mul_le_mul_right _ hk
   by_cases hn0:n=0
   ·have hk0:k=0:=by omega
    subst hk0 hn0
    have hc0:cs=[]:=List.length_eq_zero_iff.1 (by simpa using h4)
    subst hc0
    exact ⟨.emp b,.emp b,by simp [dh,bnd],(g1 _).2 (by simp; exact .emp b),by simp [dh,bnd],(g2 _).2 (by simp; exact .emp b),by simp [aH],by simp [aH]⟩
   ·have p1:aN M E.size (.slc b (0 + 0 * E.size) (k - 0) (.op E.size)) (cs.take (k * E.size)) k:=by
     rw [Nat.sub_zero,Nat.zero_mul]
     refine .slc _ _ _ _ _ h2 ?_
     have:=hload 0 (k * E.size) (by omega)
     simpa using this
    by_cases hkn:n≤k
    ·refine ⟨.slc b (0 + 0 * E.size) (k - 0) (.op E.size),.emp b,by simp only [dh,bnd]; simp [hk,hn0],(g1 _).2 p1,by simp only [dh,bnd]; simp [hk,hkn],(g2 _).2 ?_,by simp [aH],by simp [aH]⟩
     have:k=n:=by omega
     subst this
     rw [Nat.sub_self,List.drop_of_length_le (by omega)]
     exact .emp b
    ·refine ⟨.slc b (0 + 0 * E.size) (k - 0) (.op E.size),.slc b (0 + k * E.size) (n - k) (.op E.size),by simp only [dh,bnd]; simp [hk,hn0],(g1 _).2 p1,by simp only [dh,bnd]; simp [hk,hkn],(g2 _).2 ?_,by simp [aH],by simp [aH]⟩
     refine .slc _ _ _ _ _ h2 ?_
     have hs2:k * E.size + (n - k) * E.size=n * E.size:=by rw [← Nat.add_mul]; congr 1; omega
     rw [Nat.zero_add,hload (k * E.size) ((n - k) * E.size) (by omega),List.take_of_length_le (by simp; omega)]
end
def YJ (d:ak) (l:List ak) : Nat:=(l.takeWhile (fun x=>QS x d)).length
def YR (l:List ak) (d:ak) : List ak:=if d∈l then l else l.take (YJ d l)++d :: l.drop (YJ d l)
end Go.Ab.ak
set_option maxRecDepth 10000
set_option linter.unusedVariables false
set_option linter.unusedSimpArgs false
namespace Go.Ab.ak
open Go Go.Ab
def Wy (p:List Pt × List ak) (d:ak) : List Pt × List ak:=((kE p.1 d).2,if (kE p.1 d).1=0 then YR p.2 d else p.2)
def JU (l:List ak) : List Pt × List ak:=l.foldl Wy (iU,[])
theorem Mk:∀ p∈iU,kw p:=fun p hp=>by
 simp only [iU,List.mem_replicate] at hp
 rw [hp.2]
 exact ⟨.nil,fun x hx=>by simp at hx,Nat.zero_le _,fun x hx=>by simp at hx,Nat.zero_le _⟩
theorem qf {ps:List Pt} (h:∀ p∈ps,kw p) (i:Nat) : kw (ps.getD i (0,[])):=by
 rw [List.getD_eq_getElem?_getD]
 by_cases hj:i<ps.length
 ·rw [List.getElem?_eq_getElem hj]
  exact h _ (List.getElem_mem hj)
 ·rw [List.getElem?_eq_none (by omega)]
  exact ⟨.nil,fun x hx=>by simp at hx,Nat.zero_le _,fun x hx=>by simp at hx,Nat.zero_le _⟩
theorem VR {ps:List Pt} {d:ak} (h:∀ p∈ps,kw p) : ∀ p∈(kE ps d).2,kw p:=by
 unfold kE
 split
 ·rename_i hg
  split
  ·intro p hp
   rcases List.mem_or_eq_of_mem_set hp with hp | rfl
   ·exact h p hp
   ·refine Wj (qf h _) ?_
    simp only [good,Bool.and_eq_true,decide_eq_true_eq] at hg
    exact hg.2
  ·exact h
 ·exact h
theorem Own.vO {M:RM} {base el size n:Nat} {v:AV} {cs:List AV} (h:Own M base el size v cs n) (hn:0<n) : ∃ b,v=.slc b 0 n (.op size)∧base≤b∧b<M.next∧M.heap b=some (.row cs true el 0)∧cs.length=n * size:=by
 cases h with
 | nil=>omega
 | ex0=>omega
 | op b n cs h1 h2 h3 h4=>exact ⟨b,rfl,h1,h2,h3,h4⟩
end Go.Ab.ak
set_option maxRecDepth 10000
set_option linter.unusedVariables false
set_option linter.unusedSimpArgs false
namespace Go.Ab.ak
open Go Go.Ab
theorem Uh (x:Nat) (xs:List Nat) : fo xs.length x xs=xs++[x]:=by simp [fo]
theorem PH {M:RM} {v:AV} {bx n0 T x ex:Nat} {xs:List Nat} {co cr:aj} {Q:ah} (ho:Ow aX M n0 T v xs) (hn:n0≤M.next) (hl:xs.length≤100000) (hx:M.heap bx=some (.row [N .u64 (x:Int)] false ex 0)) (hxl:bx<M.next)
  (hQ:∀ v' M',Sl aX M' v' (fo xs.length x xs)→ku v'→(∀ c∈aH v',n0≤c)→ag (aH v) M M'→Q v' M') : kV T co cr v (N .i64 (xs.length:Int)) (.slc bx 0 1 (.ex 1)) M Q:=by
 unfold kV
 obtain ⟨v1,v2,e1,s1,e2,s2,hb1,hb2⟩:=V9 (E:=aX) (k:=xs.length) (by decide) ho (Nat.le_refl _)
 have e2:dh 1 v (some (N .i64 (xs.length:Int))) none none=some v2:=e2
 have hs:Sl aX M v xs:=ho.lG
 rw [e2,dY,lm,df,show ((((1:Nat) : Int)) == 0)=false from rfl,bF,aN.len hs,df,show ((xs.length:Int) == (xs.length:Int))=true by simp,dC]
 have sx:Sl aX M (.slc bx 0 1 (.ex 1)) [x]:=.slc _ _ _ _ _ hxl (by rw [RM.dG hx (by show 0 + 1 * 1≤1; omega)]; rfl)
 refine Iu (E:=aX) (ys:=[x]) ho hn (Nat.le_refl _) sx (by simp; omega) (by simp; omega) ?_
 intro v' M' o k _ _
 refine hQ v' M' ?_ (Own.ku o) (fun c hc=>(o.blk c hc).1) k
 rw [Uh]
 exact o.lG
end Go.Ab.ak
set_option maxRecDepth 10000
set_option linter.unusedVariables false
set_option linter.unusedSimpArgs false
namespace Go.Ab.ak
open Go Go.Ab
def mK (p q:Pt) : Bool:=decide (p.1≤q.1) && p.2.all (gG q)
def jf (ps qs:List Pt) : Bool:=(List.range 16).all fun i=>mK (ps.getD i (0,[])) (qs.getD i (0,[]))
theorem tT {ps qs:List Pt} : jf ps qs=true↔∀ i,i<16→mK (ps.getD i (0,[])) (qs.getD i (0,[]))=true:=by
 unfold jf
 rw [List.all_eq_true]
 exact ⟨fun h i hi=>h i (List.mem_range.2 hi),fun h i hi=>h i (List.mem_range.1 hi)⟩
def Dr (T:Nat) (c:aj) : Prop:=∀ {M:RM} {a b:Nat} {ps qs:List Pt} {S S' : Nat→Prop} {Q:ah},gD T S M a ps→gD T S' M b qs→(∀ p∈ps,p.2.length≤1000000)→(∀ q∈qs,Asc q.2∧q.2.length≤1000000) →
 (∀ M',ag [] M M'→Q (Bo (jf ps qs)) M')→c [.ptr a 0,.ptr b 0] M Q
theorem MZ {TS T:Nat} {ch:aj} (hh:Km ch) : Dr TS fun args M Q=>∃ a0 a1,args=[a0,a1]∧wM T ch a0 a1 M Q:=by
 intro M a b ps qs S S' Q h h' hpl hql hQ
 refine ⟨_,_,rfl, ?_⟩
 unfold wM
 obtain ⟨l,ha,hl32,hrow⟩:=h.row
 obtain ⟨l',hb,hl32',hrow'⟩:=h'.row
 rw [aJ,bz,bP (n:=32) ha hl32]
 refine aG (fun m ys M3=>∃ (i:Nat),m=16 - i∧ys=[N .i64 (i:Int)]∧i≤16∧ag [] M M3∧∀ j,j<i→mK (ps.getD j (0,[])) (qs.getD j (0,[]))=true) _
  ⟨0,rfl,rfl,Nat.zero_le _,ag.refl _ _,fun j hj=>by omega⟩ ?_
 rintro next m ys M3 hnext ⟨i,rfl,rfl,hi,hK,hset⟩
 dsimp only [aa]
 rw [dF]
 refine aF (fun hlt=>?_) (fun hge=>?_)
 ·have hlt:i<16:=by
   have:(i:Int)<16:=of_decide_eq_true hlt
   omega
  have hil:i<ps.length:=by rw [h.len]; exact hlt
  have hil' : i<qs.length:=by rw [h'.len]; exact hlt
  obtain ⟨w,a1,a2,a3,a4,a5⟩:=hrow i hil
  obtain ⟨w',b1,b2,b3,b4,b5⟩:=hrow' i hil'
  have hpD:ps.getD i (0,[])=ps[i]:=by rw [List.getD_eq_getElem?_getD,List.getElem?_eq_getElem hil]; rfl
  have hqD:qs.getD i (0,[])=qs[i]:=by rw [List.getD_eq_getElem?_getD,List.getElem?_eq_getElem hil']; rfl
  have hcut:(l.drop (2 * i)).take 2=[N .u64 (ps[i].1:Int),w]:=by
   obtain ⟨q1,q2⟩:=List.getElem?_eq_some_iff.1 a1
   obtain ⟨r1,r2⟩:=List.getElem?_eq_some_iff.1 a2
   rw [List.drop_eq_getElem_cons q1,List.drop_eq_getElem_cons r1,q2,r2]; rfl
  rw [Sv]
  refine ⟨by omega,by omega,by simp only [Int.toNat_natCast]; omega, ?_⟩
  rw [Int.toNat_natCast,Nat.mul_comm i 2,hcut,bi]
  have hw1:=aN.one a3
  rw [dI (n:=2) (x:=.agg [N .u64 (ps[i].1:Int),w]) (l:=[N .u64 0,.sc (.slice none 0 0)]) (RM.aQ _) rfl rfl (by simp [AV.cells,hw1]; rfl)]
  have kk:ag [] M3 ((M3.push (.row [N .u64 0,.sc (.slice none 0 0)] false T 0)).put M3.next (.row (AV.agg [N .u64 (ps[i].1:Int),w]).cells false T 0)):=((ag.refl _ _).push _).new _ (Nat.le_refl _)
  have hh' : ((M3.push (.row [N .u64 0,.sc (.slice none 0 0)] false T 0)).put M3.next (.row (AV.agg [N .u64 (ps[i].1:Int),w]).cells false T 0)).heap M3.next=some (.row [N .u64 (ps[i].1:Int),w] false T 0):=aP _
  generalize (M3.push (.row [N .u64 0,.sc (.slice none 0 0)] false T 0)).put M3.next (.row (AV.agg [N .u64 (ps[i].1:Int),w]).cells false T 0)=M4 at *
  have k4:=hK.trans kk
  have s4:Sl aX M4 w ps[i].2:=aN.keep a3 k4 (by simp)
  have t4:Sl aX M4 w' qs[i].2:=aN.keep b3 k4 (by simp)
  have hb4:=k4.aK hb h'.lt (by simp)
  have hxl:=hpl _ (List.getElem_mem hil)
  obtain ⟨hqa,hqn⟩:=hql _ (List.getElem_mem hil')
  rw [aJ,bz,wK]
  refine ⟨by omega,by omega, ?_⟩
  rw [Int.toNat_natCast,Nat.zero_add,Nat.mul_comm i 2,bz,az hh' rfl,aJ,aY,Nat.add_zero,az hb4 b1,gH]
  have fail:∀ M5,ag [] M4 M5→mK ps[i] qs[i]=false→Q (Bo false) M5:=fun M5 k5 hf=>by
   have:jf ps qs=false:=by
    rw [Bool.eq_false_iff]
    intro hall
    have:=tT.1 hall i hlt
    rw [hpD,hqD,hf] at this
    cases this
   rw [← this]
   exact hQ M5 (k4.trans k5)
  refine aF (fun hg=>fail M4 (ag.refl _ _) ?_) (fun hg=>?_)
  ·have:((ps[i].1:Nat) : Int) > ((qs[i].1:Nat) : Int):=of_decide_eq_true hg
   unfold mK
   rw [show decide (ps[i].1≤qs[i].1)=false by simp; omega,Bool.false_and]
  ·have hle:ps[i].1≤qs[i].1:=by
    have:¬ ((ps[i].1:Nat) : Int) > ((qs[i].1:Nat) : Int):=of_decide_eq_false hg
    omega
   rw [bz,az hh' rfl,aN.len s4]
   refine aG (fun m ys M5=>∃ (j:Nat),m=ps[i].2.length - j∧ys=[N .i64 (j:Int)]∧j≤ps[i].2.length∧M5=M4∧ps[i].2.all (gG qs[i])=(ps[i].2.drop j).all (gG qs[i])) _
    ⟨0,rfl,rfl,Nat.zero_le _,rfl,rfl⟩ ?_
   rintro next2 m ys M5 hnext2 ⟨j,rfl,rfl,hj,rfl,hall⟩
   dsimp only [aa]
   rw [dF]
   refine aF (fun hlt2=>?_) (fun hge2=>?_)
   ·have hlt2:j<ps[i].2.length:=by simpa using hlt2
    obtain ⟨b9,o9,_,_,hidx,hc⟩:=Sl.FU (E:=aX) s4 (j:Int) hlt2
    rw [List.drop_eq_getElem_cons hlt2,List.all_cons] at hall
    rw [hidx,jL]
    refine ⟨_,hc _ rfl, ?_⟩
    refine hh hb4 b1 b2 t4 hqa hqn ?_
    rw [bB]
    cases hhas:gG (qs[i].1,qs[i].2) ps[i].2[j] with
    | false =>
      have hhas:gG qs[i] ps[i].2[j]=false:=hhas
      rw [Bool.not_false,dC]
      refine fail M5 (ag.refl _ _) ?_
      unfold mK
      rw [hall,hhas,Bool.false_and,Bool.and_false]
    | true =>
      have hhas:gG qs[i] ps[i].2[j]=true:=hhas
      rw [Bool.not_true,bF,dm,ik (by omega)]
      refine hnext2 _ _ _ (by omega) ⟨j + 1,rfl,rfl,by omega,rfl, ?_⟩
      rw [hall,hhas,Bool.true_and]
   ·have he:j=ps[i].2.length:=by simp at hge2; omega
    subst he
    rw [List.drop_length,List.all_nil] at hall
    rw [dm,ik (by omega)]
    refine hnext _ _ _ (by omega) ⟨i + 1,rfl,rfl,by omega,k4,fun j hj=>?_⟩
    rcases Nat.lt_or_ge j i with h | h
    ·exact hset j h
    ·have:j=i:=by omega
     subst this
     rw [hpD,hqD]
     unfold mK
     rw [hall,Bool.and_true]
     simpa using hle
 ·have he:i=16:=by
   have:¬ (i:Int)<16:=of_decide_eq_false hge
   omega
  subst he
  have:jf ps qs=true:=tT.2 hset
  rw [← this]
  exact hQ M3 hK
def cZ (ps:List Pt) (d:ak) : Bool:=good d && gG (ps.getD d.1.toNat (0,[])) d.2
def Ko (T:Nat) (c:aj) : Prop:=∀ {M:RM} {b:Nat} {ps:List Pt} {d:ak} {S:Nat→Prop} {Q:ah},gD T S M b ps→(∀ q∈ps,Asc q.2∧q.2.length≤1000000) →
 (∀ M',ag [] M M'→Q (Bo (cZ ps d)) M')→c [.ptr b 0,.agg (aO d)] M Q
theorem Sd {TS T:Nat} {cg ch:aj} (hg:wW cg) (hh:Km ch) : Ko TS fun args M Q=>∃ a0 a1,args=[a0,a1]∧Cr T cg ch a0 a1 M Q:=by
 intro M b ps d S Q h hql hQ
 refine ⟨_,_,rfl, ?_⟩
 unfold Cr
 simp only [eD,dN]
 rw [dH rfl (by simp),bi,bP (n:=2) (RM.aQ _) rfl]
 have k1:ag [] M (M.push (.row (aO d) false T 0)):=(ag.refl _ _).push _
 have h3:(M.push (.row (aO d) false T 0)).heap M.next=some (.row (aO d) false T 0):=RM.aQ _
 have n1:(M.push (.row (aO d) false T 0)).next=M.next + 1:=rfl
 generalize M.push (.row (aO d) false T 0)=M1 at *
 refine hg fun M2 k2=>?_
 have kk:=k1.trans k2
 have h3:=k2.aK h3 (by omega) (by simp)
 have hQ:=hQ M2 kk
 unfold cZ at hQ
 cases hgd:good d with
 | false =>
   rw [bL]
   dsimp only
   rw [dz]
   rw [hgd,Bool.false_and] at hQ
   exact hQ
 | true =>
   rw [hgd,Bool.true_and] at hQ
   simp [good] at hgd
   obtain ⟨i,hi⟩ : ∃ i:Nat,d.1=(i:Int):=⟨d.1.toNat,by omega⟩
   have hi16:i<16:=by omega
   have s2:=h.keep kk (by simp) (by simp)
   have hil:i<ps.length:=by rw [h.len]; exact hi16
   have hpD:ps.getD d.1.toNat (0,[])=ps[i]:=by rw [hi,Int.toNat_natCast,List.getD_eq_getElem?_getD,List.getElem?_eq_getElem hil]; rfl
   rw [hpD] at hQ
   obtain ⟨l,hb,hl32,hrow⟩:=s2.row
   obtain ⟨v,a1,a2,a3,a4,a5⟩:=hrow i hil
   obtain ⟨hqa,hqn⟩:=hql _ (List.getElem_mem hil)
   rw [cz]
   dsimp only
   rw [bz,az h3 rfl,aJ,bz,hi,wK]
   refine ⟨by omega,by omega, ?_⟩
   rw [bz,az h3 rfl,Int.toNat_natCast,Nat.zero_add,Nat.mul_comm i 2]
   refine hh hb a1 a2 a3 hqa hqn ?_
   rw [dO]
   exact hQ
end Go.Ab.ak
