/- Part 4 of the ground of the proofs of this seat (texts WVl to VlB). By an AI agent. -/
import Derived.Test.YtmilkhdicmkmbaaDoorR3
import Derived.ChangeShapes
import Derived.OpenShut
import Derived.WideKeyArgs
import GoSem.ClaimJoined
/- Functions of the program as predicates (printed by a program of ours). By an AI agent. -/
set_option maxRecDepth 100000
set_option linter.unusedVariables false
set_option linter.unusedSimpArgs false
namespace Go.Ab.Vl
open Go Go.Ab

/-- rolodex/rolodexlaw23.VlineReads -/
def W_rolodex_rolodexlaw23_VlineReads (c_rolodex_rolodexlaw23_awake : CallT) (c_rolodex_vline_Read : CallT) (c_rolodex_rolodexref23_Read : CallT) (c_rolodex_vline_Unfold : CallT) (c_rolodex_rolodexref23_Unfold : CallT) (c_rolodex_rolodexlaw23_of : CallT) (c_rolodex_rolodexref23_Same : CallT) (a0 : AV) (M0 : RM) (Q : PostV) : Prop :=
 c_rolodex_rolodexlaw23_awake [] M0 fun t15 M =>
 notW t15 fun t16 =>
 condW t16 (
 Q (Bo false) M) (
 lenStr a0 fun t18 =>
 intW .gtr t18 (N .i64 5000) fun t19 =>
 condW t19 (
 Q (Bo true) M) (
 c_rolodex_vline_Read [a0] M fun t22 M_0 =>
 extW t22 0 fun t23 =>
 extW t22 1 fun t24 =>
 extW t22 2 fun t25 =>
 c_rolodex_rolodexref23_Read [a0] M_0 fun t28 M_1 =>
 extW t28 0 fun t29 =>
 extW t28 1 fun t30 =>
 extW t28 2 fun t31 =>
 c_rolodex_vline_Unfold [a0] M_1 fun t34 M_2 =>
 extW t34 0 fun t35 =>
 extW t34 1 fun t36 =>
 c_rolodex_rolodexref23_Unfold [a0] M_2 fun t39 M_3 =>
 extW t39 0 fun t40 =>
 extW t39 1 fun t41 =>
 intW .neq t25 t31 fun t44 =>
 guardM t44 false (fun k => k t24 M_3) (fun k => k .undef M_3) fun t46 M_4 =>
 guardM t44 false (fun k_5 => k_5 t30 M_4) (fun k => k .undef M_4) fun t47 M_6 =>
 guardM t44 false (fun k_7 => intW .neq t46 t47 fun t48 =>
 k_7 t48 M_6) (fun k => k .undef M_6) fun t48_8 M_9 =>
 pickW t44 (Bo true) t48_8 fun t49 =>
 guardM t49 false (fun k_10 => k_10 t23 M_9) (fun k => k .undef M_9) fun t51 M_11 =>
 guardM t49 false (fun k_12 => lenW t51 fun t52 =>
 k_12 t52 M_11) (fun k => k .undef M_11) fun t52_13 M_14 =>
 guardM t49 false (fun k_15 => k_15 t29 M_14) (fun k => k .undef M_14) fun t53 M_16 =>
 guardM t49 false (fun k_17 => lenW t53 fun t54 =>
 k_17 t54 M_16) (fun k => k .undef M_16) fun t54_18 M_19 =>
 guardM t49 false (fun k_20 => intW .neq t52_13 t54_18 fun t55 =>
 k_20 t55 M_19) (fun k => k .undef M_19) fun t55_21 M_22 =>
 pickW t49 (Bo true) t55_21 fun t56 =>
 guardM t56 false (fun k_23 => k_23 t35 M_22) (fun k => k .undef M_22) fun t58 M_24 =>
 guardM t56 false (fun k_25 => lenW t58 fun t59 =>
 k_25 t59 M_24) (fun k => k .undef M_24) fun t59_26 M_27 =>
 guardM t56 false (fun k_28 => k_28 t40 M_27) (fun k => k .undef M_27) fun t60 M_29 =>
 guardM t56 false (fun k_30 => lenW t60 fun t61 =>
 k_30 t61 M_29) (fun k => k .undef M_29) fun t61_31 M_32 =>
 guardM t56 false (fun k_33 => intW .neq t59_26 t61_31 fun t62 =>
 k_33 t62 M_32) (fun k => k .undef M_32) fun t62_34 M_35 =>
 pickW t56 (Bo true) t62_34 fun t63 =>
 guardM t63 false (fun k_36 => k_36 t36 M_35) (fun k => k .undef M_35) fun t65 M_37 =>
 guardM t63 false (fun k_38 => lenW t65 fun t66 =>
 k_38 t66 M_37) (fun k => k .undef M_37) fun t66_39 M_40 =>
 guardM t63 false (fun k_41 => k_41 t35 M_40) (fun k => k .undef M_40) fun t67 M_42 =>
 guardM t63 false (fun k_43 => lenW t67 fun t68 =>
 k_43 t68 M_42) (fun k => k .undef M_42) fun t68_44 M_45 =>
 guardM t63 false (fun k_46 => intW .neq t66_39 t68_44 fun t69 =>
 k_46 t69 M_45) (fun k => k .undef M_45) fun t69_47 M_48 =>
 pickW t63 (Bo true) t69_47 fun t70 =>
 condW t70 (
 Q (Bo false) M_48) (
 loopW (fun next xs M_49 => -- [13]
 lenW t23 fun t73 =>
 intW .lss (nthD xs 0) t73 fun t74 =>
 condW t74 (
 idxS t23 (nthD xs 0) 5 fun t79 =>
 loadN M_49 t79 5 fun t80 =>
 idxS t29 (nthD xs 0) 5 fun t84 =>
 loadN M_49 t84 5 fun t85 =>
 c_rolodex_rolodexlaw23_of [t80] M_49 fun t81 M_50 =>
 loadN M_50 t84 5 fun t85_91 =>
 (t85_91 = t85 ∧ c_rolodex_rolodexref23_Same [t81, t85] M_50 fun t86 M_51 =>
 notW t86 fun t87 =>
 guardK t87 false (fun k_52 => k_52 t23 M_51 none) (fun k => k .undef M_51 none) fun t89 M_53 b =>
 guardK t87 false (fun k_54 => k_54 (nthD xs 0) M_53 none) (fun k => k .undef M_53 none) fun t90 M_55 b_56 =>
 guardK t87 false (fun k_57 => idxS t89 t90 5 fun t91 =>
 k_57 t91 M_55 none) (fun k => k .undef M_55 none) fun t91_58 M_59 b_60 =>
 guardK t87 false (fun k_61 => fldW t91_58 4 fun t92 =>
 k_61 t92 M_59 none) (fun k => k .undef M_59 none) fun t92_62 M_63 b_64 =>
 guardK t87 false (fun k_65 => load1 M_63 t92_62 fun t93 =>
 k_65 t93 M_63 none) (fun k => k .undef M_63 none) fun t93_66 M_67 b_68 =>
 guardK t87 false (fun k_69 => k_69 t29 M_67 none) (fun k => k .undef M_67 none) fun t94 M_70 b_71 =>
 guardK t87 false (fun k_72 => k_72 (nthD xs 0) M_70 none) (fun k => k .undef M_70 none) fun t95 M_73 b_74 =>
 guardK t87 false (fun k_75 => idxS t94 t95 5 fun t96 =>
 k_75 t96 M_73 none) (fun k => k .undef M_73 none) fun t96_76 M_77 b_78 =>
 guardK t87 false (fun k_79 => fldW t96_76 4 fun t97 =>
 k_79 t97 M_77 none) (fun k => k .undef M_77 none) fun t97_80 M_81 b_82 =>
 guardK t87 false (fun k_83 => load1 M_81 t97_80 fun t98 =>
 k_83 t98 M_81 none) (fun k => k .undef M_81 none) fun t98_84 M_85 b_86 =>
 guardK t87 false (fun k_87 => intW .neq t93_66 t98_84 fun t99 =>
 k_87 t99 M_85 none) (fun k => k .undef M_85 none) fun t99_88 M_89 b_90 =>
 pickW t87 (Bo true) t99_88 fun t100 =>
 condW t100 (
 Q (Bo false) M_89) (
 intW .add (nthD xs 0) (N .i64 1) fun t76 =>
 next [t76] M_89))) (
 loopW (fun next_92 xs_93 M_94 => -- [14]
 lenW t35 fun t103 =>
 intW .lss (nthD xs_93 0) t103 fun t104 =>
 condW t104 (
 idxS t35 (nthD xs_93 0) 1 fun t109 =>
 load1 M_94 t109 fun t110 =>
 idxS t40 (nthD xs_93 0) 1 fun t113 =>
 load1 M_94 t113 fun t114 =>
 strW .neq t110 t114 fun t115 =>
 guardK t115 false (fun k_95 => k_95 t36 M_94 none) (fun k => k .undef M_94 none) fun t117 M_96 b_97 =>
 guardK t115 false (fun k_98 => k_98 (nthD xs_93 0) M_96 none) (fun k => k .undef M_96 none) fun t118 M_99 b_100 =>
 guardK t115 false (fun k_101 => idxS t117 t118 1 fun t119 =>
 k_101 t119 M_99 none) (fun k => k .undef M_99 none) fun t119_102 M_103 b_104 =>
 guardK t115 false (fun k_105 => load1 M_103 t119_102 fun t120 =>
 k_105 t120 M_103 none) (fun k => k .undef M_103 none) fun t120_106 M_107 b_108 =>
 guardK t115 false (fun k_109 => k_109 t41 M_107 none) (fun k => k .undef M_107 none) fun t121 M_110 b_111 =>
 guardK t115 false (fun k_112 => k_112 (nthD xs_93 0) M_110 none) (fun k => k .undef M_110 none) fun t122 M_113 b_114 =>
 guardK t115 false (fun k_115 => idxS t121 t122 1 fun t123 =>
 k_115 t123 M_113 none) (fun k => k .undef M_113 none) fun t123_116 M_117 b_118 =>
 guardK t115 false (fun k_119 => load1 M_117 t123_116 fun t124 =>
 k_119 t124 M_117 none) (fun k => k .undef M_117 none) fun t124_120 M_121 b_122 =>
 guardK t115 false (fun k_123 => intW .neq t120_106 t124_120 fun t125 =>
 k_123 t125 M_121 none) (fun k => k .undef M_121 none) fun t125_124 M_125 b_126 =>
 pickW t115 (Bo true) t125_124 fun t126 =>
 condW t126 (
 Q (Bo false) M_125) (
 intW .add (nthD xs_93 0) (N .i64 1) fun t106 =>
 next_92 [t106] M_125)) (
 Q (Bo true) M_94)) [(N .i64 0)] M_49)) [(N .i64 0)] M_48)))

/-- rolodex/rolodexlaw23.VlineFolds -/
def W_rolodex_rolodexlaw23_VlineFolds (c_rolodex_rolodexlaw23_awake : CallT) (c_rolodex_vline_Fold : CallT) (c_rolodex_rolodexref23_Fold : CallT) (c_rolodex_rolodexref23_Raw : CallT) (c_rolodex_rolodexref23_Formed : CallT) (c_rolodex_vline_Unfold : CallT) (a0 : AV) (M0 : RM) (Q : PostV) : Prop :=
 c_rolodex_rolodexlaw23_awake [] M0 fun t9 M =>
 notW t9 fun t10 =>
 condW t10 (
 Q (Bo false) M) (
 lenStr a0 fun t12 =>
 intW .gtr t12 (N .i64 2000) fun t13 =>
 condW t13 (
 Q (Bo true) M) (
 c_rolodex_vline_Fold [a0] M fun t15 M_0 =>
 c_rolodex_rolodexref23_Fold [a0] M_0 fun t18 M_1 =>
 strW .neq t15 t18 fun t19 =>
 condW t19 (
 Q (Bo false) M_1) (
 loopW (fun next xs M_2 => -- [4]
 lenStr a0 fun t22 =>
 intW .lss (nthD xs 0) t22 fun t23 =>
 condW t23 (
 idxB a0 (nthD xs 0) fun t28 =>
 intW .eql t28 (N .u8 10) fun t29 =>
 guardM t29 false (fun k => k a0 M_2) (fun k => k .undef M_2) fun t31 M_3 =>
 guardM t29 false (fun k_4 => k_4 (nthD xs 0) M_3) (fun k => k .undef M_3) fun t32 M_5 =>
 guardM t29 false (fun k_6 => idxB t31 t32 fun t33 =>
 k_6 t33 M_5) (fun k => k .undef M_5) fun t33_7 M_8 =>
 guardM t29 false (fun k_9 => intW .eql t33_7 (N .u8 13) fun t34 =>
 k_9 t34 M_8) (fun k => k .undef M_8) fun t34_10 M_11 =>
 pickW t29 (Bo true) t34_10 fun t35 =>
 condW t35 (
 Q (Bo true) M_11) (
 intW .add (nthD xs 0) (N .i64 1) fun t25 =>
 next [t25] M_11)) (
 strW .add t15 (St [13, 10]) fun t37 =>
 c_rolodex_rolodexref23_Raw [t37] M_2 fun t38 M_12 =>
 loopW (fun next_13 xs_14 M_15 => -- [6]
 lenW t38 fun t41 =>
 intW .lss (nthD xs_14 0) t41 fun t42 =>
 condW t42 (
 idxS t38 (nthD xs_14 0) 1 fun t47 =>
 load1 M_15 t47 fun t48 =>
 lenStr t48 fun t49 =>
 intW .gtr t49 (N .i64 75) fun t50 =>
 guardM t50 false (fun k_16 => k_16 a0 M_15) (fun k => k .undef M_15) fun t52 M_17 =>
 guardM t50 false (fun k_18 => c_rolodex_rolodexref23_Formed [t52] M_17 fun t53 M_19 =>
 k_18 t53 M_19) (fun k => k .undef M_17) fun t53_20 M_21 =>
 guardM t50 false (fun k_22 => k_22 t53_20 M_21) (fun k => k .undef M_21) fun t54 M_23 =>
 guardM t54 true (fun k_24 => k_24 t38 M_23) (fun k => k .undef M_23) fun t55 M_25 =>
 guardM t54 true (fun k_26 => k_26 (nthD xs_14 0) M_25) (fun k => k .undef M_25) fun t56 M_27 =>
 guardM t54 true (fun k_28 => idxS t55 t56 1 fun t57 =>
 k_28 t57 M_27) (fun k => k .undef M_27) fun t57_29 M_30 =>
 guardM t54 true (fun k_31 => load1 M_30 t57_29 fun t58 =>
 k_31 t58 M_30) (fun k => k .undef M_30) fun t58_32 M_33 =>
 guardM t54 true (fun k_34 => c_rolodex_rolodexref23_Formed [t58_32] M_33 fun t59 M_35 =>
 k_34 t59 M_35) (fun k => k .undef M_33) fun t59_36 M_37 =>
 guardM t54 true (fun k_38 => notW t59_36 fun t60 =>
 k_38 t60 M_37) (fun k => k .undef M_37) fun t60_39 M_40 =>
 guardM t50 false (fun k_41 => pickW t54 t60_39 (Bo false) fun t61 =>
 k_41 t61 M_40) (fun k => k .undef M_40) fun t61_42 M_43 =>
 pickW t50 (Bo true) t61_42 fun t62 =>
 condW t62 (
 Q (Bo false) M_43) (
 intW .add (nthD xs_14 0) (N .i64 1) fun t44 =>
 next_13 [t44] M_43)) (
 strW .add t15 (St [13, 10]) fun t65 =>
 c_rolodex_vline_Unfold [t65] M_15 fun t66 M_44 =>
 extW t66 0 fun t67 =>
 extW t66 1 fun t68 =>
 lenStr a0 fun t70 =>
 intW .gtr t70 (N .i64 0) fun t71 =>
 guardM t71 true (fun k_45 => k_45 a0 M_44) (fun k => k .undef M_44) fun t73 M_46 =>
 guardM t71 true (fun k_47 => idxB t73 (N .i64 0) fun t74 =>
 k_47 t74 M_46) (fun k => k .undef M_46) fun t74_48 M_49 =>
 guardM t71 true (fun k_50 => intW .eql t74_48 (N .u8 32) fun t75 =>
 k_50 t75 M_49) (fun k => k .undef M_49) fun t75_51 M_52 =>
 guardM t71 true (fun k_53 => k_53 t75_51 M_52) (fun k => k .undef M_52) fun t76 M_54 =>
 guardM t76 false (fun k_55 => k_55 a0 M_54) (fun k => k .undef M_54) fun t77 M_56 =>
 guardM t76 false (fun k_57 => idxB t77 (N .i64 0) fun t78 =>
 k_57 t78 M_56) (fun k => k .undef M_56) fun t78_58 M_59 =>
 guardM t76 false (fun k_60 => intW .eql t78_58 (N .u8 9) fun t79 =>
 k_60 t79 M_59) (fun k => k .undef M_59) fun t79_61 M_62 =>
 guardM t71 true (fun k_63 => pickW t76 (Bo true) t79_61 fun t80 =>
 k_63 t80 M_62) (fun k => k .undef M_62) fun t80_64 M_65 =>
 pickW t71 t80_64 (Bo false) fun t81 =>
 condW t81 (
 Q (Bo true) M_65) (
 lenW t67 fun t83 =>
 intW .eql t83 (N .i64 1) fun t84 =>
 guardM t84 true (fun k_66 => k_66 t67 M_65) (fun k => k .undef M_65) fun t86 M_67 =>
 guardM t84 true (fun k_68 => idxS t86 (N .i64 0) 1 fun t87 =>
 k_68 t87 M_67) (fun k => k .undef M_67) fun t87_69 M_70 =>
 guardM t84 true (fun k_71 => load1 M_70 t87_69 fun t88 =>
 k_71 t88 M_70) (fun k => k .undef M_70) fun t88_72 M_73 =>
 guardM t84 true (fun k_74 => k_74 a0 M_73) (fun k => k .undef M_73) fun t89 M_75 =>
 guardM t84 true (fun k_76 => strW .eql t88_72 t89 fun t90 =>
 k_76 t90 M_75) (fun k => k .undef M_75) fun t90_77 M_78 =>
 pickW t84 t90_77 (Bo false) fun t91 =>
 Q t91 M_78))) [(N .i64 0)] M_12)) [(N .i64 0)] M_1)))

/-- rolodex/rolodexlaw23.VlineEscapes -/
def W_rolodex_rolodexlaw23_VlineEscapes (c_rolodex_rolodexlaw23_awake : CallT) (c_rolodex_vline_Escape : CallT) (c_rolodex_vline_Unescape : CallT) (c_rolodex_rolodexref23_Unescape : CallT) (c_rolodex_rolodexref23_Escape : CallT) (c_rolodex_vline_Split : CallT) (c_rolodex_rolodexref23_Split : CallT) (a0 a1 : AV) (M0 : RM) (Q : PostV) : Prop :=
 c_rolodex_rolodexlaw23_awake [] M0 fun t16 M =>
 notW t16 fun t17 =>
 condW t17 (
 Q (Bo false) M) (
 lenStr a0 fun t19 =>
 intW .gtr t19 (N .i64 2000) fun t20 =>
 condW t20 (
 Q (Bo true) M) (
 c_rolodex_vline_Escape [a0] M fun t22 M_0 =>
 c_rolodex_vline_Unescape [t22] M_0 fun t25 M_1 =>
 extW t25 0 fun t26 =>
 extW t25 1 fun t27 =>
 c_rolodex_vline_Unescape [a0] M_1 fun t30 M_2 =>
 extW t30 0 fun t31 =>
 extW t30 1 fun t32 =>
 c_rolodex_rolodexref23_Unescape [a0] M_2 fun t35 M_3 =>
 extW t35 0 fun t36 =>
 extW t35 1 fun t37 =>
 c_rolodex_rolodexref23_Escape [a0] M_3 fun t40 M_4 =>
 strW .neq t22 t40 fun t41 =>
 guardM t41 false (fun k => k t27 M_4) (fun k => k .undef M_4) fun t43 M_5 =>
 guardM t41 false (fun k_6 => intW .neq t43 (N .i64 0) fun t44 =>
 k_6 t44 M_5) (fun k => k .undef M_5) fun t44_7 M_8 =>
 pickW t41 (Bo true) t44_7 fun t45 =>
 guardM t45 false (fun k_9 => k_9 t26 M_8) (fun k => k .undef M_8) fun t47 M_10 =>
 guardM t45 false (fun k_11 => k_11 a0 M_10) (fun k => k .undef M_10) fun t48 M_12 =>
 guardM t45 false (fun k_13 => strW .neq t47 t48 fun t49 =>
 k_13 t49 M_12) (fun k => k .undef M_12) fun t49_14 M_15 =>
 pickW t45 (Bo true) t49_14 fun t50 =>
 guardM t50 false (fun k_16 => k_16 t37 M_15) (fun k => k .undef M_15) fun t52 M_17 =>
 guardM t50 false (fun k_18 => k_18 t52 M_17) (fun k => k .undef M_17) fun t53 M_19 =>
 guardM t53 true (fun k_20 => k_20 t32 M_19) (fun k => k .undef M_19) fun t54 M_21 =>
 guardM t53 true (fun k_22 => intW .neq t54 (N .i64 0) fun t55 =>
 k_22 t55 M_21) (fun k => k .undef M_21) fun t55_23 M_24 =>
 guardM t53 true (fun k_25 => k_25 t55_23 M_24) (fun k => k .undef M_24) fun t56 M_26 =>
 guardM t56 false (fun k_27 => k_27 t31 M_26) (fun k => k .undef M_26) fun t57 M_28 =>
 guardM t56 false (fun k_29 => k_29 t36 M_28) (fun k => k .undef M_28) fun t58 M_30 =>
 guardM t56 false (fun k_31 => strW .neq t57 t58 fun t59 =>
 k_31 t59 M_30) (fun k => k .undef M_30) fun t59_32 M_33 =>
 guardM t53 true (fun k_34 => pickW t56 (Bo true) t59_32 fun t60 =>
 k_34 t60 M_33) (fun k => k .undef M_33) fun t60_35 M_36 =>
 guardM t50 false (fun k_37 => pickW t53 t60_35 (Bo false) fun t61 =>
 k_37 t61 M_36) (fun k => k .undef M_36) fun t61_38 M_39 =>
 pickW t50 (Bo true) t61_38 fun t62 =>
 guardM t62 false (fun k_40 => k_40 t37 M_39) (fun k => k .undef M_39) fun t64 M_41 =>
 guardM t62 false (fun k_42 => notW t64 fun t65 =>
 k_42 t65 M_41) (fun k => k .undef M_41) fun t65_43 M_44 =>
 guardM t62 false (fun k_45 => k_45 t65_43 M_44) (fun k => k .undef M_44) fun t66 M_46 =>
 guardM t66 true (fun k_47 => k_47 t32 M_46) (fun k => k .undef M_46) fun t67 M_48 =>
 guardM t66 true (fun k_49 => intW .neq t67 (N .i64 14) fun t68 =>
 k_49 t68 M_48) (fun k => k .undef M_48) fun t68_50 M_51 =>
 guardM t66 true (fun k_52 => k_52 t68_50 M_51) (fun k => k .undef M_51) fun t69 M_53 =>
 guardM t69 false (fun k_54 => k_54 t31 M_53) (fun k => k .undef M_53) fun t70 M_55 =>
 guardM t69 false (fun k_56 => strW .neq t70 (St []) fun t71 =>
 k_56 t71 M_55) (fun k => k .undef M_55) fun t71_57 M_58 =>
 guardM t66 true (fun k_59 => pickW t69 (Bo true) t71_57 fun t72 =>
 k_59 t72 M_58) (fun k => k .undef M_58) fun t72_60 M_61 =>
 guardM t62 false (fun k_62 => pickW t66 t72_60 (Bo false) fun t73 =>
 k_62 t73 M_61) (fun k => k .undef M_61) fun t73_63 M_64 =>
 pickW t62 (Bo true) t73_63 fun t74 =>
 condW t74 (
 Q (Bo false) M_64) (
 c_rolodex_vline_Split [a0, a1] M_64 fun t77 M_65 =>
 c_rolodex_rolodexref23_Split [a0, a1] M_65 fun t80 M_66 =>
 lenW t77 fun t82 =>
 lenW t80 fun t84 =>
 intW .neq t82 t84 fun t85 =>
 condW t85 (
 Q (Bo false) M_66) (
 loopW (fun next xs M_67 => -- [14]
 lenW t77 fun t88 =>
 intW .lss (nthD xs 0) t88 fun t89 =>
 condW t89 (
 idxS t77 (nthD xs 0) 1 fun t94 =>
 load1 M_67 t94 fun t95 =>
 idxS t80 (nthD xs 0) 1 fun t98 =>
 load1 M_67 t98 fun t99 =>
 strW .neq t95 t99 fun t100 =>
 condW t100 (
 Q (Bo false) M_67) (
 intW .add (nthD xs 0) (N .i64 1) fun t91 =>
 next [t91] M_67)) (
 loopW (fun next_68 xs_69 M_70 => -- [15]
 lenStr t22 fun t103 =>
 intW .lss (nthD xs_69 0) t103 fun t104 =>
 condW t104 (
 idxB t22 (nthD xs_69 0) fun t109 =>
 intW .eql t109 (N .u8 10) fun t110 =>
 condW t110 (
 Q (Bo false) M_70) (
 intW .add (nthD xs_69 0) (N .i64 1) fun t106 =>
 next_68 [t106] M_70)) (
 Q (Bo true) M_70)) [(N .i64 0)] M_67)) [(N .i64 0)] M_66))))

/-- rolodex/rolodexlaw23.VlineEnds -/
def W_rolodex_rolodexlaw23_VlineEnds (c_rolodex_rolodexlaw23_awake : CallT) (c_rolodex_rolodexref23_Raw : CallT) (c_rolodex_vline_Read : CallT) (c_rolodex_rolodexlaw23_of : CallT) (c_rolodex_rolodexref23_Same : CallT) (a0 : AV) (M0 : RM) (Q : PostV) : Prop :=
 c_rolodex_rolodexlaw23_awake [] M0 fun t15 M =>
 notW t15 fun t16 =>
 condW t16 (
 Q (Bo false) M) (
 lenStr a0 fun t18 =>
 intW .gtr t18 (N .i64 3000) fun t19 =>
 condW t19 (
 Q (Bo true) M) (
 c_rolodex_rolodexref23_Raw [a0] M fun t21 M_0 =>
 loopW (fun next xs M_1 => -- [4, 5, 6]
 lenW t21 fun t24 =>
 intW .lss (nthD xs 2) t24 fun t25 =>
 condW t25 (
 loopW (fun next_2 xs_3 M_4 => -- [7]
 idxS t21 (nthD xs 2) 1 fun t31 =>
 load1 M_4 t31 fun t32 =>
 lenStr t32 fun t33 =>
 intW .lss (nthD xs_3 0) t33 fun t34 =>
 condW t34 (
 idxS t21 (nthD xs 2) 1 fun t39 =>
 load1 M_4 t39 fun t40 =>
 idxB t40 (nthD xs_3 0) fun t42 =>
 intW .eql t42 (N .u8 13) fun t43 =>
 condW t43 (
 Q (Bo true) M_4) (
 intW .add (nthD xs_3 0) (N .i64 1) fun t36 =>
 next_2 [t36] M_4)) (
 idxS t21 (nthD xs 2) 1 fun t47 =>
 load1 M_4 t47 fun t48 =>
 strW .add (nthD xs 0) t48 fun t49 =>
 strW .add t49 (St [10]) fun t50 =>
 idxS t21 (nthD xs 2) 1 fun t54 =>
 load1 M_4 t54 fun t55 =>
 strW .add (nthD xs 1) t55 fun t56 =>
 strW .add t56 (St [13, 10]) fun t57 =>
 intW .add (nthD xs 2) (N .i64 1) fun t27 =>
 next [t50, t57, t27] M_4)) [(N .i64 0)] M_1) (
 c_rolodex_vline_Read [(nthD xs 0)] M_1 fun t60 M_5 =>
 extW t60 0 fun t61 =>
 extW t60 1 fun t62 =>
 extW t60 2 fun t63 =>
 c_rolodex_vline_Read [(nthD xs 1)] M_5 fun t66 M_6 =>
 extW t66 0 fun t67 =>
 extW t66 1 fun t68 =>
 extW t66 2 fun t69 =>
 intW .neq t63 t69 fun t72 =>
 guardM t72 false (fun k => k t62 M_6) (fun k => k .undef M_6) fun t74 M_7 =>
 guardM t72 false (fun k_8 => k_8 t68 M_7) (fun k => k .undef M_7) fun t75 M_9 =>
 guardM t72 false (fun k_10 => intW .neq t74 t75 fun t76 =>
 k_10 t76 M_9) (fun k => k .undef M_9) fun t76_11 M_12 =>
 pickW t72 (Bo true) t76_11 fun t77 =>
 guardM t77 false (fun k_13 => k_13 t61 M_12) (fun k => k .undef M_12) fun t79 M_14 =>
 guardM t77 false (fun k_15 => lenW t79 fun t80 =>
 k_15 t80 M_14) (fun k => k .undef M_14) fun t80_16 M_17 =>
 guardM t77 false (fun k_18 => k_18 t67 M_17) (fun k => k .undef M_17) fun t81 M_19 =>
 guardM t77 false (fun k_20 => lenW t81 fun t82 =>
 k_20 t82 M_19) (fun k => k .undef M_19) fun t82_21 M_22 =>
 guardM t77 false (fun k_23 => intW .neq t80_16 t82_21 fun t83 =>
 k_23 t83 M_22) (fun k => k .undef M_22) fun t83_24 M_25 =>
 pickW t77 (Bo true) t83_24 fun t84 =>
 condW t84 (
 Q (Bo false) M_25) (
 loopW (fun next_26 xs_27 M_28 => -- [14]
 lenW t61 fun t87 =>
 intW .lss (nthD xs_27 0) t87 fun t88 =>
 condW t88 (
 idxS t61 (nthD xs_27 0) 5 fun t93 =>
 loadN M_28 t93 5 fun t94 =>
 idxS t67 (nthD xs_27 0) 5 fun t98 =>
 loadN M_28 t98 5 fun t99 =>
 c_rolodex_rolodexlaw23_of [t94] M_28 fun t95 M_29 =>
 loadN M_29 t98 5 fun t99_71 =>
 (t99_71 = t99 ∧ c_rolodex_rolodexlaw23_of [t99] M_29 fun t100 M_30 =>
 c_rolodex_rolodexref23_Same [t95, t100] M_30 fun t101 M_31 =>
 notW t101 fun t102 =>
 guardK t102 false (fun k_32 => k_32 t61 M_31 none) (fun k => k .undef M_31 none) fun t104 M_33 b =>
 guardK t102 false (fun k_34 => k_34 (nthD xs_27 0) M_33 none) (fun k => k .undef M_33 none) fun t105 M_35 b_36 =>
 guardK t102 false (fun k_37 => idxS t104 t105 5 fun t106 =>
 k_37 t106 M_35 none) (fun k => k .undef M_35 none) fun t106_38 M_39 b_40 =>
 guardK t102 false (fun k_41 => fldW t106_38 4 fun t107 =>
 k_41 t107 M_39 none) (fun k => k .undef M_39 none) fun t107_42 M_43 b_44 =>
 guardK t102 false (fun k_45 => load1 M_43 t107_42 fun t108 =>
 k_45 t108 M_43 none) (fun k => k .undef M_43 none) fun t108_46 M_47 b_48 =>
 guardK t102 false (fun k_49 => k_49 t67 M_47 none) (fun k => k .undef M_47 none) fun t109 M_50 b_51 =>
 guardK t102 false (fun k_52 => k_52 (nthD xs_27 0) M_50 none) (fun k => k .undef M_50 none) fun t110 M_53 b_54 =>
 guardK t102 false (fun k_55 => idxS t109 t110 5 fun t111 =>
 k_55 t111 M_53 none) (fun k => k .undef M_53 none) fun t111_56 M_57 b_58 =>
 guardK t102 false (fun k_59 => fldW t111_56 4 fun t112 =>
 k_59 t112 M_57 none) (fun k => k .undef M_57 none) fun t112_60 M_61 b_62 =>
 guardK t102 false (fun k_63 => load1 M_61 t112_60 fun t113 =>
 k_63 t113 M_61 none) (fun k => k .undef M_61 none) fun t113_64 M_65 b_66 =>
 guardK t102 false (fun k_67 => intW .neq t108_46 t113_64 fun t114 =>
 k_67 t114 M_65 none) (fun k => k .undef M_65 none) fun t114_68 M_69 b_70 =>
 pickW t102 (Bo true) t114_68 fun t115 =>
 condW t115 (
 Q (Bo false) M_69) (
 intW .add (nthD xs_27 0) (N .i64 1) fun t90 =>
 next_26 [t90] M_69))) (
 Q (Bo true) M_28)) [(N .i64 0)] M_25))) [(St []), (St []), (N .i64 0)] M_0))

/-- rolodex/vline.Unescape -/
def W_rolodex_vline_Unescape (T_strings_Builder : Nat) (c_strings_Builder_WriteByte : CallT) (c_strings_IndexByte : CallT) (c_strings_Builder_String : CallT) (a0 : AV) (M0 : RM) (Q : PostV) : Prop :=
 newW (.row [(.sc (.pointer none)), (.sc (.slice none 0 0))] false T_strings_Builder 0) (fun b => .ptr b 0) M0 fun t4 M =>
 loopW (fun next xs M_0 => -- [5]
 lenStr a0 fun t8 =>
 intW .lss (nthD xs 0) t8 fun t9 =>
 condW t9 (
 joinW (fun J =>
 idxB a0 (nthD xs 0) fun t14 =>
 intW .neq t14 (N .u8 92) fun t15 =>
 condW t15 (
 idxB a0 (nthD xs 0) fun t18 =>
 c_strings_Builder_WriteByte [t4, t18] M_0 fun t19 M_1 =>
 J [(nthD xs 0)] M_1) (
 intW .add (nthD xs 0) (N .i64 1) fun t21 =>
 lenStr a0 fun t25 =>
 intW .lss t21 t25 fun t26 =>
 guardM t26 true (fun k => k a0 M_0) (fun k => k .undef M_0) fun t28 M_2 =>
 guardM t26 true (fun k_3 => k_3 t21 M_2) (fun k => k .undef M_2) fun t29 M_4 =>
 guardM t26 true (fun k_5 => idxB t28 t29 fun t30 =>
 k_5 t30 M_4) (fun k => k .undef M_4) fun t30_6 M_7 =>
 guardM t26 true (fun k_8 => intW .eql t30_6 (N .u8 110) fun t31 =>
 k_8 t31 M_7) (fun k => k .undef M_7) fun t31_9 M_10 =>
 guardM t26 true (fun k_11 => k_11 t31_9 M_10) (fun k => k .undef M_10) fun t32 M_12 =>
 guardM t32 false (fun k_13 => k_13 a0 M_12) (fun k => k .undef M_12) fun t33 M_14 =>
 guardM t32 false (fun k_15 => k_15 t21 M_14) (fun k => k .undef M_14) fun t34 M_16 =>
 guardM t32 false (fun k_17 => idxB t33 t34 fun t35 =>
 k_17 t35 M_16) (fun k => k .undef M_16) fun t35_18 M_19 =>
 guardM t32 false (fun k_20 => intW .eql t35_18 (N .u8 78) fun t36 =>
 k_20 t36 M_19) (fun k => k .undef M_19) fun t36_21 M_22 =>
 guardM t26 true (fun k_23 => pickW t32 (Bo true) t36_21 fun t37 =>
 k_23 t37 M_22) (fun k => k .undef M_22) fun t37_24 M_25 =>
 pickW t26 t37_24 (Bo false) fun t38 =>
 condW t38 (
 c_strings_Builder_WriteByte [t4, (N .u8 10)] M_25 fun t39 M_26 =>
 J [t21] M_26) (
 lenStr a0 fun t43 =>
 intW .lss t21 t43 fun t44 =>
 guardM t44 true (fun k_27 => k_27 a0 M_25) (fun k => k .undef M_25) fun t46 M_28 =>
 guardM t44 true (fun k_29 => k_29 t21 M_28) (fun k => k .undef M_28) fun t47 M_30 =>
 guardM t44 true (fun k_31 => idxB t46 t47 fun t48 =>
 k_31 t48 M_30) (fun k => k .undef M_30) fun t48_32 M_33 =>
 guardM t44 true (fun k_34 => c_strings_IndexByte [(St [92, 44, 59, 58]), t48_32] M_33 fun t49 M_35 =>
 k_34 t49 M_35) (fun k => k .undef M_33) fun t49_36 M_37 =>
 guardM t44 true (fun k_38 => intW .geq t49_36 (N .i64 0) fun t50 =>
 k_38 t50 M_37) (fun k => k .undef M_37) fun t50_39 M_40 =>
 pickW t44 t50_39 (Bo false) fun t51 =>
 condW t51 (
 idxB a0 t21 fun t54 =>
 c_strings_Builder_WriteByte [t4, t54] M_40 fun t55 M_41 =>
 J [t21] M_41) (
 Q (.tup [(St []), (N .i64 14)]) M_40)))) (fun xs_42 M_43 => -- [5]
 intW .add (nthD xs_42 0) (N .i64 1) fun t11 =>
 next [t11] M_43)) (
 c_strings_Builder_String [t4] M_0 fun t56 M_44 =>
 Q (.tup [t56, (N .i64 0)]) M_44)) [(N .i64 0)] M

/-- rolodex/vline.Read -/
def W_rolodex_vline_Read (c_rolodex_vline_Unfold : CallT) (c_rolodex_vline_read : CallT) (T_vline_Line : Nat) (a0 : AV) (M0 : RM) (Q : PostV) : Prop :=
 c_rolodex_vline_Unfold [a0] M0 fun t14 M =>
 extW t14 0 fun t15 =>
 extW t14 1 fun t16 =>
 lenW t15 fun t18 =>
 loopW (fun next xs M_0 => -- [7, 19]
 intW .lss (nthD xs 1) t18 fun t20 =>
 condW t20 (
 joinW (fun J =>
 idxS t15 (nthD xs 1) 1 fun t22 =>
 load1 M_0 t22 fun t23 =>
 strW .eql t23 (St []) fun t25 =>
 condW t25 (
 J [(nthD xs 0)] M_0) (
 lenStr t23 fun t27 =>
 intW .gtr t27 (N .i64 912) fun t28 =>
 condW t28 (
 idxS t16 (nthD xs 1) 1 fun t31 =>
 load1 M_0 t31 fun t32 =>
 Q (.tup [(.sc (.slice none 0 0)), t32, (N .i64 2)]) M_0) (
 c_rolodex_vline_read [t23] M_0 fun t35 M_1 =>
 extW t35 0 fun t36 =>
 extW t35 1 fun t37 =>
 newW (.row [(St []), (St []), (.sc (.slice none 0 0)), (St []), (N .i64 0)] false T_vline_Line 0) (fun b => .ptr b 0) M_1 fun t10 M_2 =>
 storeW M_2 t10 t36 5 fun M_3 =>
 notW t37 fun t39 =>
 condW t39 (
 idxS t16 (nthD xs 1) 1 fun t42 =>
 load1 M_3 t42 fun t43 =>
 Q (.tup [(.sc (.slice none 0 0)), t43, (N .i64 3)]) M_3) (
 idxS t16 (nthD xs 1) 1 fun t46 =>
 load1 M_3 t46 fun t47 =>
 fldW t10 4 fun t48 =>
 storeW M_3 t48 t47 1 fun M_4 =>
 loadN M_4 t10 5 fun t50 =>
 rowsW T_vline_Line 1 [(St []), (St []), (.sc (.slice none 0 0)), (St []), (N .i64 0)] [(0, 5, t50)] fun r f =>
 newW r f M_4 fun t51 M_5 =>
 appW T_vline_Line 5 80 [(St []), (St []), (.sc (.slice none 0 0)), (St []), (N .i64 0)] false (nthD xs 0) t51 M_5 fun t52 M_6 =>
 J [t52] M_6)))) (fun xs_7 M_8 => -- [7]
 intW .add (nthD xs 1) (N .i64 1) fun t53 =>
 next [(nthD xs_7 0), t53] M_8)) (
 Q (.tup [(nthD xs 0), (N .i64 0), (N .i64 0)]) M_0)) [(.sc (.slice none 0 0)), (N .i64 0)] M

/-- rolodex/vline.Split -/
def W_rolodex_vline_Split (T_string : Nat) (a0 a1 : AV) (M0 : RM) (Q : PostV) : Prop :=
 lenStr a0 fun t10 =>
 loopW (fun next xs M => -- [5, 6, 7, 11]
 intW .lss (nthD xs 3) t10 fun t12 =>
 condW t12 (
 joinW (fun J =>
 joinW (fun J_0 =>
 idxB a0 (nthD xs 3) fun t16 =>
 intW .eql t16 a1 fun t18 =>
 guardM t18 true (fun k => k (nthD xs 2) M) (fun k => k .undef M) fun t20 M_1 =>
 guardM t18 true (fun k_2 => notW t20 fun t21 =>
 k_2 t21 M_1) (fun k => k .undef M_1) fun t21_3 M_4 =>
 pickW t18 t21_3 (Bo false) fun t22 =>
 condW t22 (
 getW (subStr a0 (some (nthD xs 1)) (some (nthD xs 3))) fun t27 =>
 rowsW T_string 1 [(St [])] [(0, 1, t27)] fun r f =>
 newW r f M_4 fun t28 M_5 =>
 appW T_string 1 16 [(St [])] false (nthD xs 0) t28 M_5 fun t29 M_6 =>
 intW .add (nthD xs 3) (N .i64 1) fun t31 =>
 J_0 [t29, t31] M_6) (
 J_0 [(nthD xs 0), (nthD xs 1)] M_4)) (fun xs_7 M_8 => -- [5, 6]
 idxB a0 (nthD xs 3) fun t34 =>
 intW .eql t34 (N .u8 92) fun t35 =>
 guardM t35 true (fun k_9 => k_9 (nthD xs 2) M_8) (fun k => k .undef M_8) fun t37 M_10 =>
 guardM t35 true (fun k_11 => notW t37 fun t38 =>
 k_11 t38 M_10) (fun k => k .undef M_10) fun t38_12 M_13 =>
 pickW t35 t38_12 (Bo false) fun t39 =>
 J [(nthD xs_7 0), (nthD xs_7 1), t39] M_13)) (fun xs_14 M_15 => -- [5, 6, 7]
 intW .add (nthD xs 3) (N .i64 1) fun t40 =>
 next [(nthD xs_14 0), (nthD xs_14 1), (nthD xs_14 2), t40] M_15)) (
 getW (subStr a0 (some (nthD xs 1)) none) fun t44 =>
 rowsW T_string 1 [(St [])] [(0, 1, t44)] fun r_16 f_17 =>
 newW r_16 f_17 M fun t45 M_18 =>
 appW T_string 1 16 [(St [])] false (nthD xs 0) t45 M_18 fun t46 M_19 =>
 Q t46 M_19)) [(.sc (.slice none 0 0)), (N .i64 0), (Bo false), (N .i64 0)] M0

/-- rolodex/rolodexref23.Read -/
def W_rolodex_rolodexref23_Read (c_rolodex_rolodexref23_Unfold : CallT) (T_rolodexref23_Line : Nat) (c_rolodex_rolodexref23_Read1 : CallT) (a0 : AV) (M0 : RM) (Q : PostV) : Prop :=
 c_rolodex_rolodexref23_Unfold [a0] M0 fun t13 M =>
 extW t13 0 fun t14 =>
 extW t13 1 fun t15 =>
 makeW T_rolodexref23_Line 80 [(St []), (St []), (.sc (.slice none 0 0)), (St []), (N .i64 0)] (N .i64 0) (N .i64 0) fun r f =>
 newW r f M fun t16 M_0 =>
 loopW (fun next xs M_1 => -- [7, 8]
 lenW t14 fun t19 =>
 intW .lss (nthD xs 1) t19 fun t20 =>
 condW t20 (
 joinW (fun J =>
 idxS t14 (nthD xs 1) 1 fun t25 =>
 load1 M_1 t25 fun t26 =>
 lenStr t26 fun t27 =>
 intW .gtr t27 (N .i64 912) fun t28 =>
 condW t28 (
 idxS t15 (nthD xs 1) 1 fun t31 =>
 load1 M_1 t31 fun t32 =>
 Q (.tup [(.sc (.slice none 0 0)), t32, (N .i64 2)]) M_1) (
 idxS t14 (nthD xs 1) 1 fun t35 =>
 load1 M_1 t35 fun t36 =>
 strW .eql t36 (St []) fun t37 =>
 condW t37 (
 J [(nthD xs 0)] M_1) (
 idxS t14 (nthD xs 1) 1 fun t41 =>
 load1 M_1 t41 fun t42 =>
 c_rolodex_rolodexref23_Read1 [t42] M_1 fun t43 M_2 =>
 extW t43 0 fun t44 =>
 extW t43 1 fun t45 =>
 newW (.row [(St []), (St []), (.sc (.slice none 0 0)), (St []), (N .i64 0)] false T_rolodexref23_Line 0) (fun b => .ptr b 0) M_2 fun t9 M_3 =>
 storeW M_3 t9 t44 5 fun M_4 =>
 notW t45 fun t47 =>
 condW t47 (
 idxS t15 (nthD xs 1) 1 fun t50 =>
 load1 M_4 t50 fun t51 =>
 Q (.tup [(.sc (.slice none 0 0)), t51, (N .i64 3)]) M_4) (
 idxS t15 (nthD xs 1) 1 fun t54 =>
 load1 M_4 t54 fun t55 =>
 fldW t9 4 fun t56 =>
 storeW M_4 t56 t55 1 fun M_5 =>
 loadN M_5 t9 5 fun t58 =>
 rowsW T_rolodexref23_Line 1 [(St []), (St []), (.sc (.slice none 0 0)), (St []), (N .i64 0)] [(0, 5, t58)] fun r_6 f_7 =>
 newW r_6 f_7 M_5 fun t59 M_8 =>
 appW T_rolodexref23_Line 5 80 [(St []), (St []), (.sc (.slice none 0 0)), (St []), (N .i64 0)] false (nthD xs 0) t59 M_8 fun t60 M_9 =>
 J [t60] M_9)))) (fun xs_10 M_11 => -- [7]
 intW .add (nthD xs 1) (N .i64 1) fun t22 =>
 next [(nthD xs_10 0), t22] M_11)) (
 Q (.tup [(nthD xs 0), (N .i64 0), (N .i64 0)]) M_1)) [t16, (N .i64 0)] M_0

/-- rolodex/vline.Unfold -/
def W_rolodex_vline_Unfold (c_strings_Cut : CallT) (c_strings_TrimSuffix : CallT) (T_string : Nat) (T_int : Nat) (a0 : AV) (M0 : RM) (Q : PostV) : Prop :=
 loopW (fun next xs M => -- [0, 4, 5, 6]
 strW .neq (nthD xs 0) (St []) fun t11 =>
 condW t11 (
 joinW (fun J =>
 c_strings_Cut [(nthD xs 0), (St [10])] M fun t16 M_0 =>
 extW t16 0 fun t17 =>
 extW t16 1 fun t18 =>
 extW t16 2 fun t19 =>
 joinW (fun J_1 =>
 condW t19 (
 c_strings_TrimSuffix [t17, (St [13])] M_0 fun t22 M_2 =>
 J_1 [t22] M_2) (
 J_1 [t17] M_0)) (fun xs_3 M_4 => -- [7]
 lenW (nthD xs 1) fun t25 =>
 intW .gtr t25 (N .i64 0) fun t26 =>
 guardM t26 true (fun k => k (nthD xs_3 0) M_4) (fun k => k .undef M_4) fun t28 M_5 =>
 guardM t26 true (fun k_6 => strW .neq t28 (St []) fun t29 =>
 k_6 t29 M_5) (fun k => k .undef M_5) fun t29_7 M_8 =>
 pickW t26 t29_7 (Bo false) fun t30 =>
 guardM t30 true (fun k_9 => k_9 (nthD xs_3 0) M_8) (fun k => k .undef M_8) fun t32 M_10 =>
 guardM t30 true (fun k_11 => idxB t32 (N .i64 0) fun t33 =>
 k_11 t33 M_10) (fun k => k .undef M_10) fun t33_12 M_13 =>
 guardM t30 true (fun k_14 => intW .eql t33_12 (N .u8 32) fun t34 =>
 k_14 t34 M_13) (fun k => k .undef M_13) fun t34_15 M_16 =>
 guardM t30 true (fun k_17 => k_17 t34_15 M_16) (fun k => k .undef M_16) fun t35 M_18 =>
 guardM t35 false (fun k_19 => k_19 (nthD xs_3 0) M_18) (fun k => k .undef M_18) fun t36 M_20 =>
 guardM t35 false (fun k_21 => idxB t36 (N .i64 0) fun t37 =>
 k_21 t37 M_20) (fun k => k .undef M_20) fun t37_22 M_23 =>
 guardM t35 false (fun k_24 => intW .eql t37_22 (N .u8 9) fun t38 =>
 k_24 t38 M_23) (fun k => k .undef M_23) fun t38_25 M_26 =>
 guardM t30 true (fun k_27 => pickW t35 (Bo true) t38_25 fun t39 =>
 k_27 t39 M_26) (fun k => k .undef M_26) fun t39_28 M_29 =>
 pickW t30 t39_28 (Bo false) fun t40 =>
 condW t40 (
 lenW (nthD xs 1) fun t43 =>
 intW .sub t43 (N .i64 1) fun t44 =>
 idxS (nthD xs 1) t44 1 fun t45 =>
 load1 M_29 t45 fun t46 =>
 getW (subStr (nthD xs_3 0) (some (N .i64 1)) none) fun t48 =>
 strW .add t46 t48 fun t49 =>
 idxS (nthD xs 1) t44 1 fun t50 =>
 storeW M_29 t50 t49 1 fun M_30 =>
 J [t18, (nthD xs 1), (nthD xs 2)] M_30) (
 rowsW T_string 1 [(St [])] [(0, 1, (nthD xs_3 0))] fun r f =>
 newW r f M_29 fun t53 M_31 =>
 appW T_string 1 16 [(St [])] false (nthD xs 1) t53 M_31 fun t54 M_32 =>
 rowsW T_int 1 [(N .i64 0)] [(0, 1, (nthD xs 3))] fun r_33 f_34 =>
 newW r_33 f_34 M_32 fun t57 M_35 =>
 appW T_int 1 8 [(N .i64 0)] false (nthD xs 2) t57 M_35 fun t58 M_36 =>
 J [t18, t54, t58] M_36))) (fun xs_37 M_38 => -- [0, 4, 5]
 intW .add (nthD xs 3) (N .i64 1) fun t13 =>
 next [(nthD xs_37 0), (nthD xs_37 1), (nthD xs_37 2), t13] M_38)) (
 Q (.tup [(nthD xs 1), (nthD xs 2)]) M)) [a0, (.sc (.slice none 0 0)), (.sc (.slice none 0 0)), (N .i64 1)] M0

/-- rolodex/rolodexref23.Unfold -/
def W_rolodex_rolodexref23_Unfold (c_rolodex_rolodexref23_Raw : CallT) (T_string : Nat) (T_int : Nat) (a0 : AV) (M0 : RM) (Q : PostV) : Prop :=
 c_rolodex_rolodexref23_Raw [a0] M0 fun t10 M =>
 makeW T_string 16 [(St [])] (N .i64 0) (N .i64 0) fun r f =>
 newW r f M fun t11 M_0 =>
 makeW T_int 8 [(N .i64 0)] (N .i64 0) (N .i64 0) fun r_1 f_2 =>
 newW r_1 f_2 M_0 fun t12 M_3 =>
 loopW (fun next xs M_4 => -- [5, 6, 7]
 lenW t10 fun t15 =>
 intW .lss (nthD xs 2) t15 fun t16 =>
 condW t16 (
 joinW (fun J =>
 idxS t10 (nthD xs 2) 1 fun t21 =>
 load1 M_4 t21 fun t22 =>
 intW .gtr (nthD xs 2) (N .i64 0) fun t24 =>
 guardM t24 true (fun k => k t22 M_4) (fun k => k .undef M_4) fun t26 M_5 =>
 guardM t24 true (fun k_6 => lenStr t26 fun t27 =>
 k_6 t27 M_5) (fun k => k .undef M_5) fun t27_7 M_8 =>
 guardM t24 true (fun k_9 => intW .gtr t27_7 (N .i64 0) fun t28 =>
 k_9 t28 M_8) (fun k => k .undef M_8) fun t28_10 M_11 =>
 pickW t24 t28_10 (Bo false) fun t29 =>
 guardM t29 true (fun k_12 => k_12 t22 M_11) (fun k => k .undef M_11) fun t31 M_13 =>
 guardM t29 true (fun k_14 => idxB t31 (N .i64 0) fun t32 =>
 k_14 t32 M_13) (fun k => k .undef M_13) fun t32_15 M_16 =>
 guardM t29 true (fun k_17 => intW .eql t32_15 (N .u8 32) fun t33 =>
 k_17 t33 M_16) (fun k => k .undef M_16) fun t33_18 M_19 =>
 guardM t29 true (fun k_20 => k_20 t33_18 M_19) (fun k => k .undef M_19) fun t34 M_21 =>
 guardM t34 false (fun k_22 => k_22 t22 M_21) (fun k => k .undef M_21) fun t35 M_23 =>
 guardM t34 false (fun k_24 => idxB t35 (N .i64 0) fun t36 =>
 k_24 t36 M_23) (fun k => k .undef M_23) fun t36_25 M_26 =>
 guardM t34 false (fun k_27 => intW .eql t36_25 (N .u8 9) fun t37 =>
 k_27 t37 M_26) (fun k => k .undef M_26) fun t37_28 M_29 =>
 guardM t29 true (fun k_30 => pickW t34 (Bo true) t37_28 fun t38 =>
 k_30 t38 M_29) (fun k => k .undef M_29) fun t38_31 M_32 =>
 pickW t29 t38_31 (Bo false) fun t39 =>
 condW t39 (
 lenW (nthD xs 0) fun t42 =>
 intW .sub t42 (N .i64 1) fun t43 =>
 lenW (nthD xs 0) fun t46 =>
 intW .sub t46 (N .i64 1) fun t47 =>
 idxS (nthD xs 0) t47 1 fun t48 =>
 load1 M_32 t48 fun t49 =>
 getW (subStr t22 (some (N .i64 1)) none) fun t51 =>
 strW .add t49 t51 fun t52 =>
 idxS (nthD xs 0) t43 1 fun t53 =>
 storeW M_32 t53 t52 1 fun M_33 =>
 J [(nthD xs 0), (nthD xs 1)] M_33) (
 rowsW T_string 1 [(St [])] [(0, 1, t22)] fun r_34 f_35 =>
 newW r_34 f_35 M_32 fun t56 M_36 =>
 appW T_string 1 16 [(St [])] false (nthD xs 0) t56 M_36 fun t57 M_37 =>
 intW .add (nthD xs 2) (N .i64 1) fun t60 =>
 rowsW T_int 1 [(N .i64 0)] [(0, 1, t60)] fun r_38 f_39 =>
 newW r_38 f_39 M_37 fun t61 M_40 =>
 appW T_int 1 8 [(N .i64 0)] false (nthD xs 1) t61 M_40 fun t62 M_41 =>
 J [t57, t62] M_41)) (fun xs_42 M_43 => -- [5, 6]
 intW .add (nthD xs 2) (N .i64 1) fun t18 =>
 next [(nthD xs_42 0), (nthD xs_42 1), t18] M_43)) (
 Q (.tup [(nthD xs 0), (nthD xs 1)]) M_4)) [t11, t12, (N .i64 0)] M_3

/-- rolodex/rolodexref23.Same -/
def W_rolodex_rolodexref23_Same (T_rolodexref23_Line : Nat) (a0 a1 : AV) (M0 : RM) (Q : PostV) : Prop :=
 boxW T_rolodexref23_Line a0 fun r f =>
 newW r f M0 fun t2 M =>
 boxW T_rolodexref23_Line a1 fun r_0 f_1 =>
 newW r_0 f_1 M fun t3 M_2 =>
 fldW t2 0 fun t7 =>
 load1 M_2 t7 fun t8 =>
 fldW t3 0 fun t9 =>
 load1 M_2 t9 fun t10 =>
 strW .neq t8 t10 fun t11 =>
 guardM t11 false (fun k => fldW t2 1 fun t13 =>
 k t13 M_2) (fun k => k .undef M_2) fun t13_3 M_4 =>
 guardM t11 false (fun k_5 => load1 M_4 t13_3 fun t14 =>
 k_5 t14 M_4) (fun k => k .undef M_4) fun t14_6 M_7 =>
 guardM t11 false (fun k_8 => fldW t3 1 fun t15 =>
 k_8 t15 M_7) (fun k => k .undef M_7) fun t15_9 M_10 =>
 guardM t11 false (fun k_11 => load1 M_10 t15_9 fun t16 =>
 k_11 t16 M_10) (fun k => k .undef M_10) fun t16_12 M_13 =>
 guardM t11 false (fun k_14 => strW .neq t14_6 t16_12 fun t17 =>
 k_14 t17 M_13) (fun k => k .undef M_13) fun t17_15 M_16 =>
 pickW t11 (Bo true) t17_15 fun t18 =>
 guardM t18 false (fun k_17 => fldW t2 3 fun t20 =>
 k_17 t20 M_16) (fun k => k .undef M_16) fun t20_18 M_19 =>
 guardM t18 false (fun k_20 => load1 M_19 t20_18 fun t21 =>
 k_20 t21 M_19) (fun k => k .undef M_19) fun t21_21 M_22 =>
 guardM t18 false (fun k_23 => fldW t3 3 fun t22 =>
 k_23 t22 M_22) (fun k => k .undef M_22) fun t22_24 M_25 =>
 guardM t18 false (fun k_26 => load1 M_25 t22_24 fun t23 =>
 k_26 t23 M_25) (fun k => k .undef M_25) fun t23_27 M_28 =>
 guardM t18 false (fun k_29 => strW .neq t21_21 t23_27 fun t24 =>
 k_29 t24 M_28) (fun k => k .undef M_28) fun t24_30 M_31 =>
 pickW t18 (Bo true) t24_30 fun t25 =>
 guardM t25 false (fun k_32 => fldW t2 2 fun t27 =>
 k_32 t27 M_31) (fun k => k .undef M_31) fun t27_33 M_34 =>
 guardM t25 false (fun k_35 => load1 M_34 t27_33 fun t28 =>
 k_35 t28 M_34) (fun k => k .undef M_34) fun t28_36 M_37 =>
 guardM t25 false (fun k_38 => lenW t28_36 fun t29 =>
 k_38 t29 M_37) (fun k => k .undef M_37) fun t29_39 M_40 =>
 guardM t25 false (fun k_41 => fldW t3 2 fun t30 =>
 k_41 t30 M_40) (fun k => k .undef M_40) fun t30_42 M_43 =>
 guardM t25 false (fun k_44 => load1 M_43 t30_42 fun t31 =>
 k_44 t31 M_43) (fun k => k .undef M_43) fun t31_45 M_46 =>
 guardM t25 false (fun k_47 => lenW t31_45 fun t32 =>
 k_47 t32 M_46) (fun k => k .undef M_46) fun t32_48 M_49 =>
 guardM t25 false (fun k_50 => intW .neq t29_39 t32_48 fun t33 =>
 k_50 t33 M_49) (fun k => k .undef M_49) fun t33_51 M_52 =>
 pickW t25 (Bo true) t33_51 fun t34 =>
 condW t34 (
 Q (Bo false) M_52) (
 loopW (fun next xs M_53 => -- [5]
 fldW t2 2 fun t36 =>
 load1 M_53 t36 fun t37 =>
 lenW t37 fun t38 =>
 intW .lss (nthD xs 0) t38 fun t39 =>
 condW t39 (
 fldW t2 2 fun t42 =>
 load1 M_53 t42 fun t43 =>
 idxS t43 (nthD xs 0) 2 fun t45 =>
 fldW t45 0 fun t46 =>
 load1 M_53 t46 fun t47 =>
 fldW t3 2 fun t48 =>
 load1 M_53 t48 fun t49 =>
 idxS t49 (nthD xs 0) 2 fun t51 =>
 fldW t51 0 fun t52 =>
 load1 M_53 t52 fun t53 =>
 strW .neq t47 t53 fun t54 =>
 guardK t54 false (fun k_54 => fldW t2 2 fun t56 =>
 k_54 t56 M_53 none) (fun k => k .undef M_53 none) fun t56_55 M_56 b =>
 guardK t54 false (fun k_57 => load1 M_56 t56_55 fun t57 =>
 k_57 t57 M_56 none) (fun k => k .undef M_56 none) fun t57_58 M_59 b_60 =>
 guardK t54 false (fun k_61 => k_61 (nthD xs 0) M_59 none) (fun k => k .undef M_59 none) fun t58 M_62 b_63 =>
 guardK t54 false (fun k_64 => idxS t57_58 t58 2 fun t59 =>
 k_64 t59 M_62 none) (fun k => k .undef M_62 none) fun t59_65 M_66 b_67 =>
 guardK t54 false (fun k_68 => fldW t59_65 1 fun t60 =>
 k_68 t60 M_66 none) (fun k => k .undef M_66 none) fun t60_69 M_70 b_71 =>
 guardK t54 false (fun k_72 => load1 M_70 t60_69 fun t61 =>
 k_72 t61 M_70 none) (fun k => k .undef M_70 none) fun t61_73 M_74 b_75 =>
 guardK t54 false (fun k_76 => lenW t61_73 fun t62 =>
 k_76 t62 M_74 none) (fun k => k .undef M_74 none) fun t62_77 M_78 b_79 =>
 guardK t54 false (fun k_80 => fldW t3 2 fun t63 =>
 k_80 t63 M_78 none) (fun k => k .undef M_78 none) fun t63_81 M_82 b_83 =>
 guardK t54 false (fun k_84 => load1 M_82 t63_81 fun t64 =>
 k_84 t64 M_82 none) (fun k => k .undef M_82 none) fun t64_85 M_86 b_87 =>
 guardK t54 false (fun k_88 => k_88 (nthD xs 0) M_86 none) (fun k => k .undef M_86 none) fun t65 M_89 b_90 =>
 guardK t54 false (fun k_91 => idxS t64_85 t65 2 fun t66 =>
 k_91 t66 M_89 none) (fun k => k .undef M_89 none) fun t66_92 M_93 b_94 =>
 guardK t54 false (fun k_95 => fldW t66_92 1 fun t67 =>
 k_95 t67 M_93 none) (fun k => k .undef M_93 none) fun t67_96 M_97 b_98 =>
 guardK t54 false (fun k_99 => load1 M_97 t67_96 fun t68 =>
 k_99 t68 M_97 none) (fun k => k .undef M_97 none) fun t68_100 M_101 b_102 =>
 guardK t54 false (fun k_103 => lenW t68_100 fun t69 =>
 k_103 t69 M_101 none) (fun k => k .undef M_101 none) fun t69_104 M_105 b_106 =>
 guardK t54 false (fun k_107 => intW .neq t62_77 t69_104 fun t70 =>
 k_107 t70 M_105 none) (fun k => k .undef M_105 none) fun t70_108 M_109 b_110 =>
 pickW t54 (Bo true) t70_108 fun t71 =>
 condW t71 (
 Q (Bo false) M_109) (
 loopW (fun next_111 xs_112 M_113 => -- [6]
 fldW t2 2 fun t73 =>
 load1 M_113 t73 fun t74 =>
 idxS t74 (nthD xs 0) 2 fun t76 =>
 fldW t76 1 fun t77 =>
 load1 M_113 t77 fun t78 =>
 lenW t78 fun t79 =>
 intW .lss (nthD xs_112 0) t79 fun t80 =>
 condW t80 (
 fldW t2 2 fun t83 =>
 load1 M_113 t83 fun t84 =>
 idxS t84 (nthD xs 0) 2 fun t86 =>
 fldW t86 1 fun t87 =>
 load1 M_113 t87 fun t88 =>
 idxS t88 (nthD xs_112 0) 1 fun t90 =>
 load1 M_113 t90 fun t91 =>
 fldW t3 2 fun t92 =>
 load1 M_113 t92 fun t93 =>
 idxS t93 (nthD xs 0) 2 fun t95 =>
 fldW t95 1 fun t96 =>
 load1 M_113 t96 fun t97 =>
 idxS t97 (nthD xs_112 0) 1 fun t99 =>
 load1 M_113 t99 fun t100 =>
 strW .neq t91 t100 fun t101 =>
 condW t101 (
 Q (Bo false) M_113) (
 intW .add (nthD xs_112 0) (N .i64 1) fun t82 =>
 next_111 [t82] M_113)) (
 intW .add (nthD xs 0) (N .i64 1) fun t41 =>
 next [t41] M_113)) [(N .i64 0)] M_109)) (
 Q (Bo true) M_53)) [(N .i64 0)] M_52)

/-- rolodex/rolodexlaw23.of -/
def W_rolodex_rolodexlaw23_of (T_vline_Line : Nat) (T_rolodexref23_Line : Nat) (T_rolodexref23_Param : Nat) (a0 : AV) (M0 : RM) (Q : PostV) : Prop :=
 boxW T_vline_Line a0 fun r f =>
 newW r f M0 fun t1 M =>
 newW (.row [(St []), (St []), (.sc (.slice none 0 0)), (St []), (N .i64 0)] false T_rolodexref23_Line 0) (fun b => .ptr b 0) M fun t2 M_0 =>
 fldW t1 0 fun t5 =>
 load1 M_0 t5 fun t6 =>
 fldW t1 1 fun t7 =>
 load1 M_0 t7 fun t8 =>
 fldW t1 3 fun t9 =>
 load1 M_0 t9 fun t10 =>
 fldW t1 4 fun t11 =>
 load1 M_0 t11 fun t12 =>
 buildW [(St []), (St []), (.sc (.slice none 0 0)), (St []), (N .i64 0)] [(0, 1, t6), (1, 1, t8), (3, 1, t10), (4, 1, t12)] fun t13 =>
 newW (.row [(St []), (St []), (.sc (.slice none 0 0)), (St []), (N .i64 0)] false T_rolodexref23_Line 0) (fun b => .ptr b 0) M_0 fun t3 M_1 =>
 storeW M_1 t3 t13 5 fun M_2 =>
 loopW (fun next xs M_3 => -- [4]
 fldW t1 2 fun t15 =>
 load1 M_3 t15 fun t16 =>
 lenW t16 fun t17 =>
 intW .lss (nthD xs 0) t17 fun t18 =>
 condW t18 (
 fldW t3 2 fun t21 =>
 load1 M_3 t21 fun t22 =>
 fldW t1 2 fun t23 =>
 load1 M_3 t23 fun t24 =>
 idxS t24 (nthD xs 0) 2 fun t26 =>
 fldW t26 0 fun t27 =>
 load1 M_3 t27 fun t28 =>
 fldW t1 2 fun t29 =>
 load1 M_3 t29 fun t30 =>
 idxS t30 (nthD xs 0) 2 fun t32 =>
 fldW t32 1 fun t33 =>
 load1 M_3 t33 fun t34 =>
 buildW [(St []), (.sc (.slice none 0 0))] [(0, 1, t28), (1, 1, t34)] fun t35 =>
 rowsW T_rolodexref23_Param 1 [(St []), (.sc (.slice none 0 0))] [(0, 2, t35)] fun r_4 f_5 =>
 newR r_4 f_5 M_3 fun t36 M_6 b =>
 appW T_rolodexref23_Param 2 40 [(St []), (.sc (.slice none 0 0))] false t22 t36 M_6 fun t37 M_7 =>
 fldW t3 2 fun t38 =>
 storeW M_7 t38 t37 1 fun M_8 =>
 intW .add (nthD xs 0) (N .i64 1) fun t20 =>
 next [t20] M_8) (
 loadN M_3 t3 5 fun t39 =>
 storeW M_3 t2 t39 5 fun M_9 =>
 loadN M_9 t2 5 fun res =>
 Q res M_9)) [(N .i64 0)] M_2

/-- rolodex/vline.Fold -/
def W_rolodex_vline_Fold (T_strings_Builder : Nat) (c_rolodex_vline_piece : CallT) (c_strings_Builder_WriteString : CallT) (c_strings_Builder_String : CallT) (a0 : AV) (M0 : RM) (Q : PostV) : Prop :=
 newW (.row [(.sc (.pointer none)), (.sc (.slice none 0 0))] false T_strings_Builder 0) (fun b => .ptr b 0) M0 fun t3 M =>
 loopW (fun next xs M_0 => -- [0, 4]
 strW .neq (nthD xs 0) (St []) fun t7 =>
 condW t7 (
 c_rolodex_vline_piece [(nthD xs 0), (nthD xs 1)] M_0 fun t10 M_1 =>
 getW (subStr (nthD xs 0) none (some t10)) fun t13 =>
 c_strings_Builder_WriteString [t3, t13] M_1 fun t14 M_2 =>
 getW (subStr (nthD xs 0) (some t10) none) fun t17 =>
 joinW (fun J =>
 strW .neq t17 (St []) fun t19 =>
 condW t19 (
 c_strings_Builder_WriteString [t3, (St [13, 10, 32])] M_2 fun t20 M_3 =>
 J [] M_3) (
 J [] M_2)) (fun xs_4 M_5 => -- []
 next [t17, (N .i64 74)] M_5)) (
 c_strings_Builder_String [t3] M_0 fun t21 M_6 =>
 Q t21 M_6)) [a0, (N .i64 75)] M

/-- rolodex/rolodexref23.Fold -/
def W_rolodex_rolodexref23_Fold (T_uint8 : Nat) (c_rolodex_rolodexref23_Rune : CallT) (a0 : AV) (M0 : RM) (Q : PostV) : Prop :=
 makeW T_uint8 1 [(N .u8 0)] (N .i64 0) (N .i64 0) fun r f =>
 newW r f M0 fun t6 M =>
 loopW (fun next xs M_0 => -- [0, 3, 4]
 lenStr (nthD xs 0) fun t8 =>
 intW .gtr t8 (N .i64 0) fun t9 =>
 condW t9 (
 c_rolodex_rolodexref23_Rune [(nthD xs 0)] M_0 fun t11 M_1 =>
 joinW (fun J =>
 intW .eql t11 (N .i64 0) fun t13 =>
 condW t13 (
 J [(N .i64 1)] M_1) (
 J [t11] M_1)) (fun xs_2 M_3 => -- [5]
 joinW (fun J_4 =>
 intW .add (nthD xs 2) (nthD xs_2 0) fun t16 =>
 intW .gtr t16 (N .i64 75) fun t17 =>
 condW t17 (
 rowsW T_uint8 3 [(N .u8 0)] [(0, 1, (N .u8 13)), (1, 1, (N .u8 10)), (2, 1, (N .u8 32))] fun r_5 f_6 =>
 newW r_5 f_6 M_3 fun t19 M_7 =>
 appW T_uint8 1 1 [(N .u8 0)] false (nthD xs 1) t19 M_7 fun t20 M_8 =>
 J_4 [t20, (N .i64 1)] M_8) (
 J_4 [(nthD xs 1), (nthD xs 2)] M_3)) (fun xs_9 M_10 => -- [3, 4]
 getW (subStr (nthD xs 0) none (some (nthD xs_2 0))) fun t24 =>
 appW T_uint8 1 1 [(N .u8 0)] false (nthD xs_9 0) t24 M_10 fun t25 M_11 =>
 intW .add (nthD xs_9 1) (nthD xs_2 0) fun t28 =>
 getW (subStr (nthD xs 0) (some (nthD xs_2 0)) none) fun t31 =>
 next [t31, t25, t28] M_11))) (
 strOfW M_0 (nthD xs 1) fun t33 =>
 Q t33 M_0)) [a0, t6, (N .i64 0)] M

/-- rolodex/rolodexref23.Raw -/
def W_rolodex_rolodexref23_Raw (T_string : Nat) (a0 : AV) (M0 : RM) (Q : PostV) : Prop :=
 makeW T_string 16 [(St [])] (N .i64 0) (N .i64 0) fun r f =>
 newW r f M0 fun t7 M =>
 loopW (fun next xs M_0 => -- [3, 4, 5]
 lenStr a0 fun t10 =>
 intW .lss (nthD xs 2) t10 fun t11 =>
 condW t11 (
 joinW (fun J =>
 idxB a0 (nthD xs 2) fun t16 =>
 intW .eql t16 (N .u8 10) fun t17 =>
 condW t17 (
 joinW (fun J_1 =>
 intW .gtr (nthD xs 2) (nthD xs 1) fun t21 =>
 guardM t21 true (fun k => k a0 M_0) (fun k => k .undef M_0) fun t23 M_2 =>
 guardM t21 true (fun k_3 => k_3 (nthD xs 2) M_2) (fun k => k .undef M_2) fun t24 M_4 =>
 guardM t21 true (fun k_5 => intW .sub t24 (N .i64 1) fun t25 =>
 k_5 t25 M_4) (fun k => k .undef M_4) fun t25_6 M_7 =>
 guardM t21 true (fun k_8 => idxB t23 t25_6 fun t26 =>
 k_8 t26 M_7) (fun k => k .undef M_7) fun t26_9 M_10 =>
 guardM t21 true (fun k_11 => intW .eql t26_9 (N .u8 13) fun t27 =>
 k_11 t27 M_10) (fun k => k .undef M_10) fun t27_12 M_13 =>
 pickW t21 t27_12 (Bo false) fun t28 =>
 condW t28 (
 intW .sub (nthD xs 2) (N .i64 1) fun t30 =>
 J_1 [t30] M_13) (
 J_1 [(nthD xs 2)] M_13)) (fun xs_14 M_15 => -- [6]
 getW (subStr a0 (some (nthD xs 1)) (some (nthD xs_14 0))) fun t35 =>
 rowsW T_string 1 [(St [])] [(0, 1, t35)] fun r_16 f_17 =>
 newW r_16 f_17 M_15 fun t36 M_18 =>
 appW T_string 1 16 [(St [])] false (nthD xs 0) t36 M_18 fun t37 M_19 =>
 intW .add (nthD xs 2) (N .i64 1) fun t39 =>
 J [t37, t39] M_19)) (
 J [(nthD xs 0), (nthD xs 1)] M_0)) (fun xs_20 M_21 => -- [3, 4]
 intW .add (nthD xs 2) (N .i64 1) fun t13 =>
 next [(nthD xs_20 0), (nthD xs_20 1), t13] M_21)) (
 joinW (fun J_22 =>
 lenStr a0 fun t42 =>
 intW .lss (nthD xs 1) t42 fun t43 =>
 condW t43 (
 getW (subStr a0 (some (nthD xs 1)) none) fun t47 =>
 rowsW T_string 1 [(St [])] [(0, 1, t47)] fun r_23 f_24 =>
 newW r_23 f_24 M_0 fun t48 M_25 =>
 appW T_string 1 16 [(St [])] false (nthD xs 0) t48 M_25 fun t49 M_26 =>
 J_22 [t49] M_26) (
 J_22 [(nthD xs 0)] M_0)) (fun xs_27 M_28 => -- [3]
 Q (nthD xs_27 0) M_28))) [t7, (N .i64 0), (N .i64 0)] M

/-- rolodex/rolodexref23.Formed -/
def W_rolodex_rolodexref23_Formed (c_rolodex_rolodexref23_Rune : CallT) (a0 : AV) (M0 : RM) (Q : PostV) : Prop :=
 loopW (fun next xs M => -- [0]
 lenStr (nthD xs 0) fun t5 =>
 intW .gtr t5 (N .i64 0) fun t6 =>
 condW t6 (
 c_rolodex_rolodexref23_Rune [(nthD xs 0)] M fun t8 M_0 =>
 intW .eql t8 (N .i64 0) fun t10 =>
 condW t10 (
 Q (Bo false) M_0) (
 getW (subStr (nthD xs 0) (some t8) none) fun t13 =>
 next [t13] M_0)) (
 Q (Bo true) M)) [a0] M0

/-- rolodex/vline.Escape -/
def W_rolodex_vline_Escape (T_strings_Builder : Nat) (T_uint8 : Nat) (c_strings_Builder_WriteByte : CallT) (c_strings_Builder_WriteString : CallT) (c_strings_Builder_String : CallT) (a0 : AV) (M0 : RM) (Q : PostV) : Prop :=
 newW (.row [(.sc (.pointer none)), (.sc (.slice none 0 0))] false T_strings_Builder 0) (fun b => .ptr b 0) M0 fun t3 M =>
 bytesW T_uint8 a0 fun r f =>
 newW r f M fun t7 M_0 =>
 lenW t7 fun t8 =>
 loopW (fun next xs M_1 => -- [9]
 intW .lss (nthD xs 0) t8 fun t10 =>
 condW t10 (
 joinW (fun J =>
 idxS t7 (nthD xs 0) 1 fun t11 =>
 load1 M_1 t11 fun t12 =>
 joinW (fun J_2 =>
 intW .eql t12 (N .u8 92) fun t17 =>
 condW t17 (
 J_2 [t17] M_1) (
 intW .eql t12 (N .u8 44) fun t18 =>
 condW t18 (
 J_2 [t18] M_1) (
 intW .eql t12 (N .u8 59) fun t19 =>
 J_2 [t19] M_1))) (fun xs_3 M_4 => -- [16]
 condW (nthD xs_3 0) (
 c_strings_Builder_WriteByte [t3, (N .u8 92)] M_4 fun t20 M_5 =>
 c_strings_Builder_WriteByte [t3, t12] M_5 fun t22 M_6 =>
 J [] M_6) (
 intW .eql t12 (N .u8 10) fun t24 =>
 condW t24 (
 c_strings_Builder_WriteString [t3, (St [92, 110])] M_4 fun t25 M_7 =>
 J [] M_7) (
 c_strings_Builder_WriteByte [t3, t12] M_4 fun t15 M_8 =>
 J [] M_8)))) (fun xs_9 M_10 => -- []
 intW .add (nthD xs 0) (N .i64 1) fun t26 =>
 next [t26] M_10)) (
 c_strings_Builder_String [t3] M_1 fun t27 M_11 =>
 Q t27 M_11)) [(N .i64 0)] M_0

/-- rolodex/rolodexref23.Unescape -/
def W_rolodex_rolodexref23_Unescape (T_uint8 : Nat) (a0 : AV) (M0 : RM) (Q : PostV) : Prop :=
 makeW T_uint8 1 [(N .u8 0)] (N .i64 0) (N .i64 0) fun r f =>
 newW r f M0 fun t6 M =>
 loopW (fun next xs M_0 => -- [4, 5]
 lenStr a0 fun t9 =>
 intW .lss (nthD xs 1) t9 fun t10 =>
 condW t10 (
 joinW (fun J =>
 idxB a0 (nthD xs 1) fun t15 =>
 intW .neq t15 (N .u8 92) fun t16 =>
 condW t16 (
 idxB a0 (nthD xs 1) fun t20 =>
 rowsW T_uint8 1 [(N .u8 0)] [(0, 1, t20)] fun r_1 f_2 =>
 newW r_1 f_2 M_0 fun t21 M_3 =>
 appW T_uint8 1 1 [(N .u8 0)] false (nthD xs 0) t21 M_3 fun t22 M_4 =>
 J [t22, (nthD xs 1)] M_4) (
 intW .add (nthD xs 1) (N .i64 1) fun t24 =>
 lenStr a0 fun t27 =>
 intW .eql t24 t27 fun t28 =>
 condW t28 (
 Q (.tup [(St []), (Bo false)]) M_0) (
 idxB a0 t24 fun t31 =>
 joinW (fun J_5 =>
 intW .eql t31 (N .u8 92) fun t33 =>
 condW t33 (
 J_5 [t33] M_0) (
 intW .eql t31 (N .u8 44) fun t34 =>
 condW t34 (
 J_5 [t34] M_0) (
 intW .eql t31 (N .u8 59) fun t35 =>
 condW t35 (
 J_5 [t35] M_0) (
 intW .eql t31 (N .u8 58) fun t36 =>
 J_5 [t36] M_0)))) (fun xs_6 M_7 => -- [32]
 condW (nthD xs_6 0) (
 idxB a0 t24 fun t40 =>
 rowsW T_uint8 1 [(N .u8 0)] [(0, 1, t40)] fun r_8 f_9 =>
 newW r_8 f_9 M_7 fun t41 M_10 =>
 appW T_uint8 1 1 [(N .u8 0)] false (nthD xs 0) t41 M_10 fun t42 M_11 =>
 J [t42, t24] M_11) (
 joinW (fun J_12 =>
 intW .eql t31 (N .u8 110) fun t44 =>
 condW t44 (
 J_12 [t44] M_7) (
 intW .eql t31 (N .u8 78) fun t45 =>
 J_12 [t45] M_7)) (fun xs_13 M_14 => -- [43]
 condW (nthD xs_13 0) (
 rowsW T_uint8 1 [(N .u8 0)] [(0, 1, (N .u8 10))] fun r_15 f_16 =>
 newW r_15 f_16 M_14 fun t47 M_17 =>
 appW T_uint8 1 1 [(N .u8 0)] false (nthD xs 0) t47 M_17 fun t48 M_18 =>
 J [t48, t24] M_18) (
 Q (.tup [(St []), (Bo false)]) M_14))))))) (fun xs_19 M_20 => -- [4, 5]
 intW .add (nthD xs_19 1) (N .i64 1) fun t12 =>
 next [(nthD xs_19 0), t12] M_20)) (
 strOfW M_0 (nthD xs 0) fun t50 =>
 Q (.tup [t50, (Bo true)]) M_0)) [t6, (N .i64 0)] M

/-- rolodex/rolodexref23.Escape -/
def W_rolodex_rolodexref23_Escape (T_uint8 : Nat) (a0 : AV) (M0 : RM) (Q : PostV) : Prop :=
 makeW T_uint8 1 [(N .u8 0)] (N .i64 0) (N .i64 0) fun r f =>
 newW r f M0 fun t5 M =>
 loopW (fun next xs M_0 => -- [3, 4]
 lenStr a0 fun t8 =>
 intW .lss (nthD xs 1) t8 fun t9 =>
 condW t9 (
 joinW (fun J =>
 idxB a0 (nthD xs 1) fun t14 =>
 joinW (fun J_1 =>
 intW .eql t14 (N .u8 92) fun t22 =>
 condW t22 (
 J_1 [t22] M_0) (
 intW .eql t14 (N .u8 44) fun t23 =>
 condW t23 (
 J_1 [t23] M_0) (
 intW .eql t14 (N .u8 59) fun t24 =>
 J_1 [t24] M_0))) (fun xs_2 M_3 => -- [21]
 condW (nthD xs_2 0) (
 idxB a0 (nthD xs 1) fun t28 =>
 rowsW T_uint8 2 [(N .u8 0)] [(0, 1, (N .u8 92)), (1, 1, t28)] fun r_4 f_5 =>
 newW r_4 f_5 M_3 fun t29 M_6 =>
 appW T_uint8 1 1 [(N .u8 0)] false (nthD xs 0) t29 M_6 fun t30 M_7 =>
 J [t30] M_7) (
 intW .eql t14 (N .u8 10) fun t32 =>
 condW t32 (
 rowsW T_uint8 2 [(N .u8 0)] [(0, 1, (N .u8 92)), (1, 1, (N .u8 110))] fun r_8 f_9 =>
 newW r_8 f_9 M_3 fun t34 M_10 =>
 appW T_uint8 1 1 [(N .u8 0)] false (nthD xs 0) t34 M_10 fun t35 M_11 =>
 J [t35] M_11) (
 idxB a0 (nthD xs 1) fun t18 =>
 rowsW T_uint8 1 [(N .u8 0)] [(0, 1, t18)] fun r_12 f_13 =>
 newW r_12 f_13 M_3 fun t19 M_14 =>
 appW T_uint8 1 1 [(N .u8 0)] false (nthD xs 0) t19 M_14 fun t20 M_15 =>
 J [t20] M_15)))) (fun xs_16 M_17 => -- [3]
 intW .add (nthD xs 1) (N .i64 1) fun t11 =>
 next [(nthD xs_16 0), t11] M_17)) (
 strOfW M_0 (nthD xs 0) fun t37 =>
 Q t37 M_0)) [t5, (N .i64 0)] M

/-- rolodex/rolodexref23.Split -/
def W_rolodex_rolodexref23_Split (T_string : Nat) (a0 a1 : AV) (M0 : RM) (Q : PostV) : Prop :=
 makeW T_string 16 [(St [])] (N .i64 0) (N .i64 0) fun r f =>
 newW r f M0 fun t9 M =>
 loopW (fun next xs M_0 => -- [5, 6, 7, 8]
 lenStr a0 fun t12 =>
 intW .lss (nthD xs 3) t12 fun t13 =>
 condW t13 (
 joinW (fun J =>
 joinW (fun J_1 =>
 idxB a0 (nthD xs 3) fun t18 =>
 intW .eql t18 a1 fun t20 =>
 guardM t20 true (fun k => k (nthD xs 2) M_0) (fun k => k .undef M_0) fun t22 M_2 =>
 guardM t20 true (fun k_3 => notW t22 fun t23 =>
 k_3 t23 M_2) (fun k => k .undef M_2) fun t23_4 M_5 =>
 pickW t20 t23_4 (Bo false) fun t24 =>
 condW t24 (
 getW (subStr a0 (some (nthD xs 1)) (some (nthD xs 3))) fun t29 =>
 rowsW T_string 1 [(St [])] [(0, 1, t29)] fun r_6 f_7 =>
 newW r_6 f_7 M_5 fun t30 M_8 =>
 appW T_string 1 16 [(St [])] false (nthD xs 0) t30 M_8 fun t31 M_9 =>
 intW .add (nthD xs 3) (N .i64 1) fun t33 =>
 J_1 [t31, t33] M_9) (
 J_1 [(nthD xs 0), (nthD xs 1)] M_5)) (fun xs_10 M_11 => -- [5, 6]
 idxB a0 (nthD xs 3) fun t36 =>
 intW .eql t36 (N .u8 92) fun t37 =>
 guardM t37 true (fun k_12 => k_12 (nthD xs 2) M_11) (fun k => k .undef M_11) fun t39 M_13 =>
 guardM t37 true (fun k_14 => notW t39 fun t40 =>
 k_14 t40 M_13) (fun k => k .undef M_13) fun t40_15 M_16 =>
 pickW t37 t40_15 (Bo false) fun t41 =>
 J [(nthD xs_10 0), (nthD xs_10 1), t41] M_16)) (fun xs_17 M_18 => -- [5, 6, 7]
 intW .add (nthD xs 3) (N .i64 1) fun t15 =>
 next [(nthD xs_17 0), (nthD xs_17 1), (nthD xs_17 2), t15] M_18)) (
 getW (subStr a0 (some (nthD xs 1)) none) fun t45 =>
 rowsW T_string 1 [(St [])] [(0, 1, t45)] fun r_19 f_20 =>
 newW r_19 f_20 M_0 fun t46 M_21 =>
 appW T_string 1 16 [(St [])] false (nthD xs 0) t46 M_21 fun t47 M_22 =>
 Q t47 M_22)) [t9, (N .i64 0), (Bo false), (N .i64 0)] M

/-- (*strings.Builder).WriteByte -/
def W_strings_Builder_WriteByte (c_strings_Builder_copyCheck : CallT) (T_uint8 : Nat) (a0 a1 : AV) (M0 : RM) (Q : PostV) : Prop :=
 c_strings_Builder_copyCheck [a0] M0 fun t6 M =>
 ptrW a0 fun t9 =>
 fldW t9 1 fun t10 =>
 load1 M t10 fun t11 =>
 rowsW T_uint8 1 [(N .u8 0)] [(0, 1, a1)] fun r f =>
 newW r f M fun t13 M_0 =>
 appW T_uint8 1 1 [(N .u8 0)] false t11 t13 M_0 fun t14 M_1 =>
 ptrW a0 fun t15 =>
 fldW t15 1 fun t16 =>
 storeW M_1 t16 t14 1 fun M_2 =>
 Q (.sc .nilIface) M_2

/-- strings.IndexByte -/
def W_strings_IndexByte (c_internal_stringslite_IndexByte : CallT) (a0 a1 : AV) (M0 : RM) (Q : PostV) : Prop :=
 c_internal_stringslite_IndexByte [a0, a1] M0 fun t7 M =>
 Q t7 M

/-- (*strings.Builder).String -/
def W_strings_Builder_String (T_uint8 : Nat) (a0 : AV) (M0 : RM) (Q : PostV) : Prop :=
 ptrW a0 fun t4 =>
 fldW t4 1 fun t5 =>
 load1 M0 t5 fun t6 =>
 sdataW t6 fun t7 =>
 ptrW a0 fun t9 =>
 fldW t9 1 fun t10 =>
 load1 M0 t10 fun t11 =>
 lenW t11 fun t12 =>
 ustrW T_uint8 t7 t12 M0 fun t13 M =>
 Q t13 M

/-- rolodex/vline.read -/
def W_rolodex_vline_read (T_vline_Line : Nat) (c_unicode_utf8_ValidString : CallT) (c_rolodex_vline_word : CallT) (c_strings_HasPrefix : CallT) (c_rolodex_vline_goodName : CallT) (c_rolodex_vline_params : CallT) (c_rolodex_vline_goodValue : CallT) (a0 : AV) (M0 : RM) (Q : PostV) : Prop :=
 newW (.row [(St []), (St []), (.sc (.slice none 0 0)), (St []), (N .i64 0)] false T_vline_Line 0) (fun b => .ptr b 0) M0 fun t2 M =>
 c_unicode_utf8_ValidString [a0] M fun t8 M_0 =>
 notW t8 fun t9 =>
 condW t9 (
 buildW [(St []), (St []), (.sc (.slice none 0 0)), (St []), (N .i64 0)] [] fun t10 =>
 storeW M_0 t2 t10 5 fun M_1 =>
 loadN M_1 t2 5 fun res =>
 Q (.tup [res, (Bo false)]) M_1) (
 newW (.row [(St []), (St []), (.sc (.slice none 0 0)), (St []), (N .i64 0)] false T_vline_Line 0) (fun b => .ptr b 0) M_0 fun t4 M_2 =>
 c_rolodex_vline_word [a0] M_2 fun t13 M_3 =>
 extW t13 0 fun t14 =>
 extW t13 1 fun t15 =>
 fldW t4 1 fun t16 =>
 storeW M_3 t16 t14 1 fun M_4 =>
 joinW (fun J =>
 c_strings_HasPrefix [t15, (St [46])] M_4 fun t18 M_5 =>
 condW t18 (
 fldW t4 1 fun t19 =>
 load1 M_5 t19 fun t20 =>
 fldW t4 0 fun t21 =>
 storeW M_5 t21 t20 1 fun M_6 =>
 fldW t4 0 fun t22 =>
 load1 M_6 t22 fun t23 =>
 c_rolodex_vline_goodName [t23] M_6 fun t24 M_7 =>
 notW t24 fun t25 =>
 condW t25 (
 buildW [(St []), (St []), (.sc (.slice none 0 0)), (St []), (N .i64 0)] [] fun t26 =>
 storeW M_7 t2 t26 5 fun M_8 =>
 loadN M_8 t2 5 fun res_9 =>
 Q (.tup [res_9, (Bo false)]) M_8) (
 getW (subStr t15 (some (N .i64 1)) none) fun t29 =>
 c_rolodex_vline_word [t29] M_7 fun t30 M_10 =>
 extW t30 0 fun t31 =>
 extW t30 1 fun t32 =>
 fldW t4 1 fun t33 =>
 storeW M_10 t33 t31 1 fun M_11 =>
 J [t32] M_11)) (
 J [t15] M_5)) (fun xs M_12 => -- [0]
 c_rolodex_vline_params [(nthD xs 0)] M_12 fun t36 M_13 =>
 extW t36 0 fun t37 =>
 extW t36 1 fun t38 =>
 extW t36 2 fun t39 =>
 notW t39 fun t41 =>
 guardM t41 false (fun k => fldW t4 1 fun t43 =>
 k t43 M_13) (fun k => k .undef M_13) fun t43_14 M_15 =>
 guardM t41 false (fun k_16 => load1 M_15 t43_14 fun t44 =>
 k_16 t44 M_15) (fun k => k .undef M_15) fun t44_17 M_18 =>
 guardM t41 false (fun k_19 => c_rolodex_vline_goodName [t44_17] M_18 fun t45 M_20 =>
 k_19 t45 M_20) (fun k => k .undef M_18) fun t45_21 M_22 =>
 guardM t41 false (fun k_23 => notW t45_21 fun t46 =>
 k_23 t46 M_22) (fun k => k .undef M_22) fun t46_24 M_25 =>
 pickW t41 (Bo true) t46_24 fun t47 =>
 guardM t47 false (fun k_26 => k_26 t38 M_25) (fun k => k .undef M_25) fun t49 M_27 =>
 guardM t47 false (fun k_28 => c_strings_HasPrefix [t49, (St [58])] M_27 fun t50 M_29 =>
 k_28 t50 M_29) (fun k => k .undef M_27) fun t50_30 M_31 =>
 guardM t47 false (fun k_32 => notW t50_30 fun t51 =>
 k_32 t51 M_31) (fun k => k .undef M_31) fun t51_33 M_34 =>
 pickW t47 (Bo true) t51_33 fun t52 =>
 guardM t52 false (fun k_35 => k_35 t38 M_34) (fun k => k .undef M_34) fun t54 M_36 =>
 guardM t52 false (fun k_37 => getW (subStr t54 (some (N .i64 1)) none) fun t55 =>
 k_37 t55 M_36) (fun k => k .undef M_36) fun t55_38 M_39 =>
 guardM t52 false (fun k_40 => c_rolodex_vline_goodValue [t55_38, (St [])] M_39 fun t56 M_41 =>
 k_40 t56 M_41) (fun k => k .undef M_39) fun t56_42 M_43 =>
 guardM t52 false (fun k_44 => notW t56_42 fun t57 =>
 k_44 t57 M_43) (fun k => k .undef M_43) fun t57_45 M_46 =>
 pickW t52 (Bo true) t57_45 fun t58 =>
 condW t58 (
 buildW [(St []), (St []), (.sc (.slice none 0 0)), (St []), (N .i64 0)] [] fun t59 =>
 storeW M_46 t2 t59 5 fun M_47 =>
 loadN M_47 t2 5 fun res_48 =>
 Q (.tup [res_48, (Bo false)]) M_47) (
 getW (subStr t38 (some (N .i64 1)) none) fun t62 =>
 fldW t4 2 fun t63 =>
 storeW M_46 t63 t37 1 fun M_49 =>
 getW (subStr t38 (some (N .i64 1)) none) fun t62_53 =>
 (t62_53 = t62 ∧ fldW t4 3 fun t64 =>
 storeW M_49 t64 t62 1 fun M_50 =>
 loadN M_50 t4 5 fun t65 =>
 storeW M_50 t2 t65 5 fun M_51 =>
 loadN M_51 t2 5 fun res_52 =>
 Q (.tup [res_52, (Bo true)]) M_51))))

/-- rolodex/rolodexref23.Read1 -/
def W_rolodex_rolodexref23_Read1 (T_rolodexref23_Line : Nat) (c_rolodex_rolodexref23_Formed : CallT) (c_rolodex_rolodexref23_word : CallT) (c_rolodex_rolodexref23_Low : CallT) (T_rolodexref23_Param : Nat) (c_rolodex_rolodexref23_values : CallT) (c_rolodex_rolodexref23_plain : CallT) (a0 : AV) (M0 : RM) (Q : PostV) : Prop :=
 newW (.row [(St []), (St []), (.sc (.slice none 0 0)), (St []), (N .i64 0)] false T_rolodexref23_Line 0) (fun b => .ptr b 0) M0 fun t2 M =>
 buildW [(St []), (St []), (.sc (.slice none 0 0)), (St []), (N .i64 0)] [] fun t9 =>
 newW (.row [(St []), (St []), (.sc (.slice none 0 0)), (St []), (N .i64 0)] false T_rolodexref23_Line 0) (fun b => .ptr b 0) M fun t4 M_0 =>
 storeW M_0 t4 t9 5 fun M_1 =>
 c_rolodex_rolodexref23_Formed [a0] M_1 fun t11 M_2 =>
 notW t11 fun t12 =>
 condW t12 (
 loadN M_2 t4 5 fun t13 =>
 storeW M_2 t2 t13 5 fun M_3 =>
 loadN M_3 t2 5 fun res =>
 Q (.tup [res, (Bo false)]) M_3) (
 c_rolodex_rolodexref23_word [a0] M_2 fun t15 M_4 =>
 joinW (fun J =>
 lenStr a0 fun t18 =>
 intW .lss t15 t18 fun t19 =>
 guardM t19 true (fun k => k a0 M_4) (fun k => k .undef M_4) fun t21 M_5 =>
 guardM t19 true (fun k_6 => k_6 t15 M_5) (fun k => k .undef M_5) fun t22 M_7 =>
 guardM t19 true (fun k_8 => idxB t21 t22 fun t23 =>
 k_8 t23 M_7) (fun k => k .undef M_7) fun t23_9 M_10 =>
 guardM t19 true (fun k_11 => intW .eql t23_9 (N .u8 46) fun t24 =>
 k_11 t24 M_10) (fun k => k .undef M_10) fun t24_12 M_13 =>
 pickW t19 t24_12 (Bo false) fun t25 =>
 condW t25 (
 getW (subStr a0 none (some t15)) fun t28 =>
 c_rolodex_rolodexref23_Low [t28] M_13 fun t29 M_14 =>
 fldW t4 0 fun t30 =>
 storeW M_14 t30 t29 1 fun M_15 =>
 intW .lss t15 (N .i64 1) fun t32 =>
 guardM t32 false (fun k_16 => k_16 t15 M_15) (fun k => k .undef M_15) fun t34 M_17 =>
 guardM t32 false (fun k_18 => intW .gtr t34 (N .i64 20) fun t35 =>
 k_18 t35 M_17) (fun k => k .undef M_17) fun t35_19 M_20 =>
 pickW t32 (Bo true) t35_19 fun t36 =>
 condW t36 (
 loadN M_20 t4 5 fun t37 =>
 storeW M_20 t2 t37 5 fun M_21 =>
 loadN M_21 t2 5 fun res_22 =>
 Q (.tup [res_22, (Bo false)]) M_21) (
 intW .add t15 (N .i64 1) fun t40 =>
 getW (subStr a0 (some t40) none) fun t41 =>
 c_rolodex_rolodexref23_word [t41] M_20 fun t43 M_23 =>
 J [t41, t43] M_23)) (
 J [a0, t15] M_13)) (fun xs M_24 => -- [0, 5]
 intW .lss (nthD xs 1) (N .i64 1) fun t45 =>
 guardM t45 false (fun k_25 => k_25 (nthD xs 1) M_24) (fun k => k .undef M_24) fun t47 M_26 =>
 guardM t45 false (fun k_27 => intW .gtr t47 (N .i64 20) fun t48 =>
 k_27 t48 M_26) (fun k => k .undef M_26) fun t48_28 M_29 =>
 pickW t45 (Bo true) t48_28 fun t49 =>
 condW t49 (
 loadN M_29 t4 5 fun t50 =>
 storeW M_29 t2 t50 5 fun M_30 =>
 loadN M_30 t2 5 fun res_31 =>
 Q (.tup [res_31, (Bo false)]) M_30) (
 getW (subStr (nthD xs 0) none (some (nthD xs 1))) fun t53 =>
 c_rolodex_rolodexref23_Low [t53] M_29 fun t54 M_32 =>
 fldW t4 1 fun t55 =>
 storeW M_32 t55 t54 1 fun M_33 =>
 getW (subStr (nthD xs 0) (some (nthD xs 1)) none) fun t58 =>
 loopW (fun next xs_34 M_35 => -- [0]
 lenStr (nthD xs_34 0) fun t60 =>
 intW .gtr t60 (N .i64 0) fun t61 =>
 guardM t61 true (fun k_36 => k_36 (nthD xs_34 0) M_35) (fun k => k .undef M_35) fun t63 M_37 =>
 guardM t61 true (fun k_38 => idxB t63 (N .i64 0) fun t64 =>
 k_38 t64 M_37) (fun k => k .undef M_37) fun t64_39 M_40 =>
 guardM t61 true (fun k_41 => intW .eql t64_39 (N .u8 59) fun t65 =>
 k_41 t65 M_40) (fun k => k .undef M_40) fun t65_42 M_43 =>
 pickW t61 t65_42 (Bo false) fun t66 =>
 condW t66 (
 getW (subStr (nthD xs_34 0) (some (N .i64 1)) none) fun t68 =>
 c_rolodex_rolodexref23_word [t68] M_43 fun t70 M_44 =>
 intW .lss t70 (N .i64 1) fun t72 =>
 guardM t72 false (fun k_45 => k_45 t70 M_44) (fun k => k .undef M_44) fun t74 M_46 =>
 guardM t72 false (fun k_47 => intW .gtr t74 (N .i64 20) fun t75 =>
 k_47 t75 M_46) (fun k => k .undef M_46) fun t75_48 M_49 =>
 pickW t72 (Bo true) t75_48 fun t76 =>
 guardM t76 false (fun k_50 => k_50 t70 M_49) (fun k => k .undef M_49) fun t78 M_51 =>
 guardM t76 false (fun k_52 => k_52 t68 M_51) (fun k => k .undef M_51) fun t79 M_53 =>
 guardM t76 false (fun k_54 => lenStr t79 fun t80 =>
 k_54 t80 M_53) (fun k => k .undef M_53) fun t80_55 M_56 =>
 guardM t76 false (fun k_57 => intW .eql t78 t80_55 fun t81 =>
 k_57 t81 M_56) (fun k => k .undef M_56) fun t81_58 M_59 =>
 pickW t76 (Bo true) t81_58 fun t82 =>
 guardM t82 false (fun k_60 => k_60 t68 M_59) (fun k => k .undef M_59) fun t84 M_61 =>
 guardM t82 false (fun k_62 => k_62 t70 M_61) (fun k => k .undef M_61) fun t85 M_63 =>
 guardM t82 false (fun k_64 => idxB t84 t85 fun t86 =>
 k_64 t86 M_63) (fun k => k .undef M_63) fun t86_65 M_66 =>
 guardM t82 false (fun k_67 => intW .neq t86_65 (N .u8 61) fun t87 =>
 k_67 t87 M_66) (fun k => k .undef M_66) fun t87_68 M_69 =>
 pickW t82 (Bo true) t87_68 fun t88 =>
 condW t88 (
 loadN M_69 t4 5 fun t89 =>
 storeW M_69 t2 t89 5 fun M_70 =>
 loadN M_70 t2 5 fun res_71 =>
 Q (.tup [res_71, (Bo false)]) M_70) (
 getW (subStr t68 none (some t70)) fun t92 =>
 c_rolodex_rolodexref23_Low [t92] M_69 fun t93 M_72 =>
 buildW [(St []), (.sc (.slice none 0 0))] [(0, 1, t93)] fun t94 =>
 newW (.row [(St []), (.sc (.slice none 0 0))] false T_rolodexref23_Param 0) (fun b => .ptr b 0) M_72 fun t6 M_73 =>
 storeW M_73 t6 t94 2 fun M_74 =>
 intW .add t70 (N .i64 1) fun t98 =>
 getW (subStr t68 (some t98) none) fun t99 =>
 c_rolodex_rolodexref23_values [t99] M_74 fun t100 M_75 =>
 extW t100 0 fun t101 =>
 extW t100 1 fun t102 =>
 extW t100 2 fun t103 =>
 fldW t6 1 fun t104 =>
 storeW M_75 t104 t101 1 fun M_76 =>
 notW t103 fun t106 =>
 condW t106 (
 loadN M_76 t4 5 fun t107 =>
 storeW M_76 t2 t107 5 fun M_77 =>
 loadN M_77 t2 5 fun res_78 =>
 Q (.tup [res_78, (Bo false)]) M_77) (
 fldW t4 2 fun t108 =>
 load1 M_76 t108 fun t109 =>
 loadN M_76 t6 2 fun t110 =>
 rowsW T_rolodexref23_Param 1 [(St []), (.sc (.slice none 0 0))] [(0, 2, t110)] fun r f =>
 newW r f M_76 fun t111 M_79 =>
 appW T_rolodexref23_Param 2 40 [(St []), (.sc (.slice none 0 0))] false t109 t111 M_79 fun t112 M_80 =>
 fldW t4 2 fun t113 =>
 storeW M_80 t113 t112 1 fun M_81 =>
 next [t102] M_81))) (
 lenStr (nthD xs_34 0) fun t115 =>
 intW .eql t115 (N .i64 0) fun t116 =>
 guardM t116 false (fun k_82 => k_82 (nthD xs_34 0) M_43) (fun k => k .undef M_43) fun t118 M_83 =>
 guardM t116 false (fun k_84 => idxB t118 (N .i64 0) fun t119 =>
 k_84 t119 M_83) (fun k => k .undef M_83) fun t119_85 M_86 =>
 guardM t116 false (fun k_87 => intW .neq t119_85 (N .u8 58) fun t120 =>
 k_87 t120 M_86) (fun k => k .undef M_86) fun t120_88 M_89 =>
 pickW t116 (Bo true) t120_88 fun t121 =>
 condW t121 (
 loadN M_89 t4 5 fun t122 =>
 storeW M_89 t2 t122 5 fun M_90 =>
 loadN M_90 t2 5 fun res_91 =>
 Q (.tup [res_91, (Bo false)]) M_90) (
 getW (subStr (nthD xs_34 0) (some (N .i64 1)) none) fun t124 =>
 fldW t4 3 fun t125 =>
 storeW M_89 t125 t124 1 fun M_92 =>
 loopW (fun next_93 xs_94 M_95 => -- [8]
 fldW t4 3 fun t127 =>
 load1 M_95 t127 fun t128 =>
 lenStr t128 fun t129 =>
 intW .lss (nthD xs_94 0) t129 fun t130 =>
 condW t130 (
 fldW t4 3 fun t133 =>
 load1 M_95 t133 fun t134 =>
 idxB t134 (nthD xs_94 0) fun t136 =>
 c_rolodex_rolodexref23_plain [t136] M_95 fun t137 M_96 =>
 notW t137 fun t138 =>
 condW t138 (
 loadN M_96 t4 5 fun t139 =>
 storeW M_96 t2 t139 5 fun M_97 =>
 loadN M_97 t2 5 fun res_98 =>
 Q (.tup [res_98, (Bo false)]) M_97) (
 intW .add (nthD xs_94 0) (N .i64 1) fun t132 =>
 next_93 [t132] M_96)) (
 loadN M_95 t4 5 fun t140 =>
 storeW M_95 t2 t140 5 fun M_99 =>
 loadN M_99 t2 5 fun res_100 =>
 Q (.tup [res_100, (Bo true)]) M_99)) [(N .i64 0)] M_92))) [t58] M_33)))

/-- strings.Cut -/
def W_strings_Cut (c_internal_stringslite_Cut : CallT) (a0 a1 : AV) (M0 : RM) (Q : PostV) : Prop :=
 c_internal_stringslite_Cut [a0, a1] M0 fun t9 M =>
 extW t9 0 fun t10 =>
 extW t9 1 fun t11 =>
 extW t9 2 fun t12 =>
 Q (.tup [t10, t11, t12]) M

/-- strings.TrimSuffix -/
def W_strings_TrimSuffix (c_internal_stringslite_TrimSuffix : CallT) (a0 a1 : AV) (M0 : RM) (Q : PostV) : Prop :=
 c_internal_stringslite_TrimSuffix [a0, a1] M0 fun t7 M =>
 Q t7 M

/-- rolodex/vline.piece -/
def W_rolodex_vline_piece (c_unicode_utf8_DecodeRuneInString : CallT) (a0 a1 : AV) (M0 : RM) (Q : PostV) : Prop :=
 joinW (fun J =>
 loopW (fun next xs M => -- [5]
 lenStr a0 fun t10 =>
 intW .lss (nthD xs 0) t10 fun t11 =>
 condW t11 (
 getW (subStr a0 (some (nthD xs 0)) none) fun t15 =>
 c_unicode_utf8_DecodeRuneInString [t15] M fun t16 M_0 =>
 extW t16 0 fun t17 =>
 extW t16 1 fun t18 =>
 intW .add (nthD xs 0) t18 fun t21 =>
 intW .gtr t21 a1 fun t23 =>
 condW t23 (
 J [(nthD xs 0)] M_0) (
 intW .add (nthD xs 0) t18 fun t26 =>
 next [t26] M_0)) (
 J [(nthD xs 0)] M)) [(N .i64 0)] M0) (fun xs_1 M_2 => -- [5]
 Q (nthD xs_1 0) M_2)

/-- (*strings.Builder).WriteString -/
def W_strings_Builder_WriteString (c_strings_Builder_copyCheck : CallT) (T_uint8 : Nat) (a0 a1 : AV) (M0 : RM) (Q : PostV) : Prop :=
 c_strings_Builder_copyCheck [a0] M0 fun t7 M =>
 ptrW a0 fun t10 =>
 fldW t10 1 fun t11 =>
 load1 M t11 fun t12 =>
 appW T_uint8 1 1 [(N .u8 0)] false t12 a1 M fun t14 M_0 =>
 ptrW a0 fun t15 =>
 fldW t15 1 fun t16 =>
 storeW M_0 t16 t14 1 fun M_1 =>
 lenStr a1 fun t18 =>
 Q (.tup [t18, (.sc .nilIface)]) M_1

/-- rolodex/rolodexref23.Rune -/
def W_rolodex_rolodexref23_Rune (a0 : AV) (M0 : RM) (Q : PostV) : Prop :=
 lenStr a0 fun t9 =>
 intW .eql t9 (N .i64 0) fun t10 =>
 condW t10 (
 Q (N .i64 0) M0) (
 idxB a0 (N .i64 0) fun t12 =>
 cvtW .i64 t12 fun t13 =>
 intW .lss t13 (N .i64 128) fun t15 =>
 condW t15 (
 Q (N .i64 1) M0) (
 joinW (fun J =>
 intW .geq t13 (N .i64 194) fun t18 =>
 guardM t18 true (fun k => k t13 M0) (fun k => k .undef M0) fun t20 M =>
 guardM t18 true (fun k_0 => intW .lss t20 (N .i64 224) fun t21 =>
 k_0 t21 M) (fun k => k .undef M) fun t21_1 M_2 =>
 pickW t18 t21_1 (Bo false) fun t22 =>
 condW t22 (
 intW .sub t13 (N .i64 192) fun t24 =>
 J [(N .i64 2), t24] M_2) (
 intW .geq t13 (N .i64 224) fun t27 =>
 guardM t27 true (fun k_3 => k_3 t13 M_2) (fun k => k .undef M_2) fun t29 M_4 =>
 guardM t27 true (fun k_5 => intW .lss t29 (N .i64 240) fun t30 =>
 k_5 t30 M_4) (fun k => k .undef M_4) fun t30_6 M_7 =>
 pickW t27 t30_6 (Bo false) fun t31 =>
 condW t31 (
 intW .sub t13 (N .i64 224) fun t33 =>
 J [(N .i64 3), t33] M_7) (
 intW .geq t13 (N .i64 240) fun t36 =>
 guardM t36 true (fun k_8 => k_8 t13 M_7) (fun k => k .undef M_7) fun t38 M_9 =>
 guardM t36 true (fun k_10 => intW .lss t38 (N .i64 245) fun t39 =>
 k_10 t39 M_9) (fun k => k .undef M_9) fun t39_11 M_12 =>
 pickW t36 t39_11 (Bo false) fun t40 =>
 condW t40 (
 intW .sub t13 (N .i64 240) fun t42 =>
 J [(N .i64 4), t42] M_12) (
 Q (N .i64 0) M_12)))) (fun xs M_13 => -- [4, 5]
 lenStr a0 fun t44 =>
 intW .lss t44 (nthD xs 0) fun t46 =>
 condW t46 (
 Q (N .i64 0) M_13) (
 loopW (fun next xs_14 M_15 => -- [5, 6]
 intW .lss (nthD xs_14 1) (nthD xs 0) fun t49 =>
 condW t49 (
 idxB a0 (nthD xs_14 1) fun t54 =>
 cvtW .i64 t54 fun t55 =>
 intW .lss t55 (N .i64 128) fun t57 =>
 guardM t57 false (fun k_16 => k_16 t55 M_15) (fun k => k .undef M_15) fun t59 M_17 =>
 guardM t57 false (fun k_18 => intW .gtr t59 (N .i64 191) fun t60 =>
 k_18 t60 M_17) (fun k => k .undef M_17) fun t60_19 M_20 =>
 pickW t57 (Bo true) t60_19 fun t61 =>
 condW t61 (
 Q (N .i64 0) M_20) (
 intW .mul (N .i64 64) (nthD xs_14 0) fun t63 =>
 intW .add t63 t55 fun t65 =>
 intW .sub t65 (N .i64 128) fun t66 =>
 intW .add (nthD xs_14 1) (N .i64 1) fun t51 =>
 next [t66, t51] M_20)) (
 intW .eql (nthD xs 0) (N .i64 3) fun t68 =>
 guardM t68 true (fun k_21 => k_21 (nthD xs_14 0) M_15) (fun k => k .undef M_15) fun t70 M_22 =>
 guardM t68 true (fun k_23 => intW .lss t70 (N .i64 2048) fun t71 =>
 k_23 t71 M_22) (fun k => k .undef M_22) fun t71_24 M_25 =>
 guardM t68 true (fun k_26 => k_26 t71_24 M_25) (fun k => k .undef M_25) fun t72 M_27 =>
 guardM t72 false (fun k_28 => k_28 (nthD xs_14 0) M_27) (fun k => k .undef M_27) fun t73 M_29 =>
 guardM t72 false (fun k_30 => intW .geq t73 (N .i64 55296) fun t74 =>
 k_30 t74 M_29) (fun k => k .undef M_29) fun t74_31 M_32 =>
 guardM t72 false (fun k_33 => k_33 t74_31 M_32) (fun k => k .undef M_32) fun t75 M_34 =>
 guardM t75 true (fun k_35 => k_35 (nthD xs_14 0) M_34) (fun k => k .undef M_34) fun t76 M_36 =>
 guardM t75 true (fun k_37 => intW .lss t76 (N .i64 57344) fun t77 =>
 k_37 t77 M_36) (fun k => k .undef M_36) fun t77_38 M_39 =>
 guardM t72 false (fun k_40 => pickW t75 t77_38 (Bo false) fun t78 =>
 k_40 t78 M_39) (fun k => k .undef M_39) fun t78_41 M_42 =>
 guardM t68 true (fun k_43 => pickW t72 (Bo true) t78_41 fun t79 =>
 k_43 t79 M_42) (fun k => k .undef M_42) fun t79_44 M_45 =>
 pickW t68 t79_44 (Bo false) fun t80 =>
 guardM t80 false (fun k_46 => k_46 (nthD xs 0) M_45) (fun k => k .undef M_45) fun t82 M_47 =>
 guardM t80 false (fun k_48 => intW .eql t82 (N .i64 4) fun t83 =>
 k_48 t83 M_47) (fun k => k .undef M_47) fun t83_49 M_50 =>
 guardM t80 false (fun k_51 => k_51 t83_49 M_50) (fun k => k .undef M_50) fun t84 M_52 =>
 guardM t84 true (fun k_53 => k_53 (nthD xs_14 0) M_52) (fun k => k .undef M_52) fun t85 M_54 =>
 guardM t84 true (fun k_55 => intW .lss t85 (N .i64 65536) fun t86 =>
 k_55 t86 M_54) (fun k => k .undef M_54) fun t86_56 M_57 =>
 guardM t84 true (fun k_58 => k_58 t86_56 M_57) (fun k => k .undef M_57) fun t87 M_59 =>
 guardM t87 false (fun k_60 => k_60 (nthD xs_14 0) M_59) (fun k => k .undef M_59) fun t88 M_61 =>
 guardM t87 false (fun k_62 => intW .gtr t88 (N .i64 1114111) fun t89 =>
 k_62 t89 M_61) (fun k => k .undef M_61) fun t89_63 M_64 =>
 guardM t84 true (fun k_65 => pickW t87 (Bo true) t89_63 fun t90 =>
 k_65 t90 M_64) (fun k => k .undef M_64) fun t90_66 M_67 =>
 guardM t80 false (fun k_68 => pickW t84 t90_66 (Bo false) fun t91 =>
 k_68 t91 M_67) (fun k => k .undef M_67) fun t91_69 M_70 =>
 pickW t80 (Bo true) t91_69 fun t92 =>
 condW t92 (
 Q (N .i64 0) M_70) (
 Q (nthD xs 0) M_70))) [(nthD xs 1), (N .i64 1)] M_13))))

/-- (*strings.Builder).copyCheck -/
def W_strings_Builder_copyCheck (x_internal_abi_NoEscape : CallT) (T_strings_Builder : Nat) (a0 : AV) (M0 : RM) (Q : PostV) : Prop :=
 ptrW a0 fun t3 =>
 fldW t3 0 fun t4 =>
 load1 M0 t4 fun t5 =>
 refEqW false 1 t5 (.sc (.pointer none)) fun t6 =>
 condW t6 (
 uptrW M0 a0 fun t9 =>
 x_internal_abi_NoEscape [t9] M0 fun t10 M =>
 ptruW T_strings_Builder 2 M t10 fun t11 =>
 ptrW a0 fun t12 =>
 fldW t12 0 fun t13 =>
 storeW M t13 t11 1 fun M_0 =>
 Q (.tup []) M_0) (
 ptrW a0 fun t15 =>
 fldW t15 0 fun t16 =>
 load1 M0 t16 fun t17 =>
 refEqW true 1 t17 a0 fun t19 =>
 condW t19 (
 False) (
 Q (.tup []) M0))

/-- internal/stringslite.IndexByte -/
def W_internal_stringslite_IndexByte (x_internal_bytealg_IndexByteString : CallT) (a0 a1 : AV) (M0 : RM) (Q : PostV) : Prop :=
 x_internal_bytealg_IndexByteString [a0, a1] M0 fun t7 M =>
 Q t7 M

/-- rolodex/vline.goodName -/
def W_rolodex_vline_goodName (c_strings_Trim : CallT) (a0 : AV) (M0 : RM) (Q : PostV) : Prop :=
 lenStr a0 fun t4 =>
 intW .geq t4 (N .i64 1) fun t5 =>
 guardM t5 true (fun k => k a0 M0) (fun k => k .undef M0) fun t7 M =>
 guardM t5 true (fun k_0 => lenStr t7 fun t8 =>
 k_0 t8 M) (fun k => k .undef M) fun t8_1 M_2 =>
 guardM t5 true (fun k_3 => intW .leq t8_1 (N .i64 20) fun t9 =>
 k_3 t9 M_2) (fun k => k .undef M_2) fun t9_4 M_5 =>
 pickW t5 t9_4 (Bo false) fun t10 =>
 guardM t10 true (fun k_6 => k_6 a0 M_5) (fun k => k .undef M_5) fun t12 M_7 =>
 guardM t10 true (fun k_8 => c_strings_Trim [t12, (St [97, 98, 99, 100, 101, 102, 103, 104, 105, 106, 107, 108, 109, 110, 111, 112, 113, 114, 115, 116, 117, 118, 119, 120, 121, 122, 48, 49, 50, 51, 52, 53, 54, 55, 56, 57, 45])] M_7 fun t13 M_9 =>
 k_8 t13 M_9) (fun k => k .undef M_7) fun t13_10 M_11 =>
 guardM t10 true (fun k_12 => strW .eql t13_10 (St []) fun t14 =>
 k_12 t14 M_11) (fun k => k .undef M_11) fun t14_13 M_14 =>
 pickW t10 t14_13 (Bo false) fun t15 =>
 Q t15 M_14

/-- rolodex/vline.goodValue -/
def W_rolodex_vline_goodValue (T_uint8 : Nat) (c_rolodex_vline_plain : CallT) (c_strings_IndexByte : CallT) (c_unicode_utf8_ValidString : CallT) (a0 a1 : AV) (M0 : RM) (Q : PostV) : Prop :=
 bytesW T_uint8 a0 fun r f =>
 newW r f M0 fun t8 M =>
 lenW t8 fun t9 =>
 loopW (fun next xs M_0 => -- [10]
 intW .lss (nthD xs 0) t9 fun t11 =>
 condW t11 (
 idxS t8 (nthD xs 0) 1 fun t12 =>
 load1 M_0 t12 fun t13 =>
 c_rolodex_vline_plain [t13] M_0 fun t15 M_1 =>
 notW t15 fun t16 =>
 guardM t16 false (fun k => k a1 M_1) (fun k => k .undef M_1) fun t18 M_2 =>
 guardM t16 false (fun k_3 => k_3 t13 M_2) (fun k => k .undef M_2) fun t19 M_4 =>
 guardM t16 false (fun k_5 => c_strings_IndexByte [t18, t19] M_4 fun t20 M_6 =>
 k_5 t20 M_6) (fun k => k .undef M_4) fun t20_7 M_8 =>
 guardM t16 false (fun k_9 => intW .geq t20_7 (N .i64 0) fun t21 =>
 k_9 t21 M_8) (fun k => k .undef M_8) fun t21_10 M_11 =>
 pickW t16 (Bo true) t21_10 fun t22 =>
 condW t22 (
 Q (Bo false) M_11) (
 intW .add (nthD xs 0) (N .i64 1) fun t23 =>
 next [t23] M_11)) (
 c_unicode_utf8_ValidString [a0] M_0 fun t25 M_12 =>
 Q t25 M_12)) [(N .i64 0)] M

/-- rolodex/vline.word -/
def W_rolodex_vline_word (c_rolodex_vline_small : CallT) (c_strings_TrimLeft : CallT) (a0 : AV) (M0 : RM) (Q : PostV) : Prop :=
 lenStr a0 fun t6 =>
 c_rolodex_vline_small [a0] M0 fun t8 M =>
 c_strings_TrimLeft [t8, (St [97, 98, 99, 100, 101, 102, 103, 104, 105, 106, 107, 108, 109, 110, 111, 112, 113, 114, 115, 116, 117, 118, 119, 120, 121, 122, 48, 49, 50, 51, 52, 53, 54, 55, 56, 57, 45])] M fun t9 M_0 =>
 lenStr t9 fun t10 =>
 intW .sub t6 t10 fun t11 =>
 getW (subStr a0 none (some t11)) fun t14 =>
 getW (subStr a0 (some t11) none) fun t18 =>
 c_rolodex_vline_small [t14] M_0 fun t15 M_1 =>
 getW (subStr a0 (some t11) none) fun t18_2 =>
 (t18_2 = t18 ∧ Q (.tup [t15, t18]) M_1)

/-- strings.HasPrefix -/
def W_strings_HasPrefix (c_internal_stringslite_HasPrefix : CallT) (a0 a1 : AV) (M0 : RM) (Q : PostV) : Prop :=
 c_internal_stringslite_HasPrefix [a0, a1] M0 fun t7 M =>
 Q t7 M

/-- rolodex/vline.params -/
def W_rolodex_vline_params (c_strings_HasPrefix : CallT) (T_vline_Param : Nat) (c_rolodex_vline_word : CallT) (c_rolodex_vline_goodName : CallT) (c_rolodex_vline_value : CallT) (T_string : Nat) (a0 : AV) (M0 : RM) (Q : PostV) : Prop :=
 loopW (fun next xs M => -- [0, 2]
 c_strings_HasPrefix [(nthD xs 0), (St [59])] M fun t11 M_0 =>
 condW t11 (
 newW (.row [(St []), (.sc (.slice none 0 0))] false T_vline_Param 0) (fun b => .ptr b 0) M_0 fun t5 M_1 =>
 getW (subStr (nthD xs 0) (some (N .i64 1)) none) fun t14 =>
 c_rolodex_vline_word [t14] M_1 fun t15 M_2 =>
 extW t15 0 fun t16 =>
 extW t15 1 fun t17 =>
 fldW t5 0 fun t18 =>
 storeW M_2 t18 t16 1 fun M_3 =>
 fldW t5 0 fun t19 =>
 load1 M_3 t19 fun t20 =>
 c_rolodex_vline_goodName [t20] M_3 fun t21 M_4 =>
 notW t21 fun t22 =>
 guardM t22 false (fun k => k t17 M_4) (fun k => k .undef M_4) fun t24 M_5 =>
 guardM t22 false (fun k_6 => c_strings_HasPrefix [t24, (St [61])] M_5 fun t25 M_7 =>
 k_6 t25 M_7) (fun k => k .undef M_5) fun t25_8 M_9 =>
 guardM t22 false (fun k_10 => notW t25_8 fun t26 =>
 k_10 t26 M_9) (fun k => k .undef M_9) fun t26_11 M_12 =>
 pickW t22 (Bo true) t26_11 fun t27 =>
 condW t27 (
 Q (.tup [(.sc (.slice none 0 0)), (St []), (Bo false)]) M_12) (
 loopW (fun next_13 xs_14 M_15 => -- [0, 2, 6]
 condW (nthD xs_14 2) (
 getW (subStr (nthD xs_14 0) (some (N .i64 1)) none) fun t33 =>
 c_rolodex_vline_value [t33] M_15 fun t34 M_16 =>
 extW t34 0 fun t35 =>
 extW t34 1 fun t36 =>
 extW t34 2 fun t37 =>
 notW t37 fun t39 =>
 condW t39 (
 Q (.tup [(.sc (.slice none 0 0)), (St []), (Bo false)]) M_16) (
 fldW t5 1 fun t40 =>
 load1 M_16 t40 fun t41 =>
 rowsW T_string 1 [(St [])] [(0, 1, t35)] fun r f =>
 newW r f M_16 fun t43 M_17 =>
 appW T_string 1 16 [(St [])] false t41 t43 M_17 fun t44 M_18 =>
 fldW t5 1 fun t45 =>
 storeW M_18 t45 t44 1 fun M_19 =>
 c_strings_HasPrefix [t36, (St [44])] M_19 fun t30 M_20 =>
 next_13 [t36, (nthD xs_14 1), t30] M_20)) (
 loadN M_15 t5 2 fun t48 =>
 rowsW T_vline_Param 1 [(St []), (.sc (.slice none 0 0))] [(0, 2, t48)] fun r_21 f_22 =>
 newW r_21 f_22 M_15 fun t49 M_23 =>
 appW T_vline_Param 2 40 [(St []), (.sc (.slice none 0 0))] false (nthD xs_14 1) t49 M_23 fun t50 M_24 =>
 next [(nthD xs_14 0), t50] M_24)) [t17, (nthD xs 1), (Bo true)] M_12)) (
 Q (.tup [(nthD xs 1), (nthD xs 0), (Bo true)]) M_0)) [a0, (.sc (.slice none 0 0))] M0

/-- rolodex/rolodexref23.word -/
def W_rolodex_rolodexref23_word (a0 : AV) (M0 : RM) (Q : PostV) : Prop :=
 loopW (fun next xs M => -- [3]
 lenStr a0 fun t6 =>
 intW .lss (nthD xs 0) t6 fun t7 =>
 guardM t7 true (fun k => k a0 M) (fun k => k .undef M) fun t9 M_0 =>
 guardM t7 true (fun k_1 => k_1 (nthD xs 0) M_0) (fun k => k .undef M_0) fun t10 M_2 =>
 guardM t7 true (fun k_3 => idxB t9 t10 fun t11 =>
 k_3 t11 M_2) (fun k => k .undef M_2) fun t11_4 M_5 =>
 guardM t7 true (fun k_6 => intW .geq t11_4 (N .u8 97) fun t12 =>
 k_6 t12 M_5) (fun k => k .undef M_5) fun t12_7 M_8 =>
 guardM t7 true (fun k_9 => k_9 t12_7 M_8) (fun k => k .undef M_8) fun t13 M_10 =>
 guardM t13 true (fun k_11 => k_11 a0 M_10) (fun k => k .undef M_10) fun t14 M_12 =>
 guardM t13 true (fun k_13 => k_13 (nthD xs 0) M_12) (fun k => k .undef M_12) fun t15 M_14 =>
 guardM t13 true (fun k_15 => idxB t14 t15 fun t16 =>
 k_15 t16 M_14) (fun k => k .undef M_14) fun t16_16 M_17 =>
 guardM t13 true (fun k_18 => intW .leq t16_16 (N .u8 122) fun t17 =>
 k_18 t17 M_17) (fun k => k .undef M_17) fun t17_19 M_20 =>
 guardM t7 true (fun k_21 => pickW t13 t17_19 (Bo false) fun t18 =>
 k_21 t18 M_20) (fun k => k .undef M_20) fun t18_22 M_23 =>
 guardM t7 true (fun k_24 => k_24 t18_22 M_23) (fun k => k .undef M_23) fun t19 M_25 =>
 guardM t19 false (fun k_26 => k_26 a0 M_25) (fun k => k .undef M_25) fun t20 M_27 =>
 guardM t19 false (fun k_28 => k_28 (nthD xs 0) M_27) (fun k => k .undef M_27) fun t21 M_29 =>
 guardM t19 false (fun k_30 => idxB t20 t21 fun t22 =>
 k_30 t22 M_29) (fun k => k .undef M_29) fun t22_31 M_32 =>
 guardM t19 false (fun k_33 => intW .geq t22_31 (N .u8 65) fun t23 =>
 k_33 t23 M_32) (fun k => k .undef M_32) fun t23_34 M_35 =>
 guardM t19 false (fun k_36 => k_36 t23_34 M_35) (fun k => k .undef M_35) fun t24 M_37 =>
 guardM t24 true (fun k_38 => k_38 a0 M_37) (fun k => k .undef M_37) fun t25 M_39 =>
 guardM t24 true (fun k_40 => k_40 (nthD xs 0) M_39) (fun k => k .undef M_39) fun t26 M_41 =>
 guardM t24 true (fun k_42 => idxB t25 t26 fun t27 =>
 k_42 t27 M_41) (fun k => k .undef M_41) fun t27_43 M_44 =>
 guardM t24 true (fun k_45 => intW .leq t27_43 (N .u8 90) fun t28 =>
 k_45 t28 M_44) (fun k => k .undef M_44) fun t28_46 M_47 =>
 guardM t19 false (fun k_48 => pickW t24 t28_46 (Bo false) fun t29 =>
 k_48 t29 M_47) (fun k => k .undef M_47) fun t29_49 M_50 =>
 guardM t7 true (fun k_51 => pickW t19 (Bo true) t29_49 fun t30 =>
 k_51 t30 M_50) (fun k => k .undef M_50) fun t30_52 M_53 =>
 guardM t7 true (fun k_54 => k_54 t30_52 M_53) (fun k => k .undef M_53) fun t31 M_55 =>
 guardM t31 false (fun k_56 => k_56 a0 M_55) (fun k => k .undef M_55) fun t32 M_57 =>
 guardM t31 false (fun k_58 => k_58 (nthD xs 0) M_57) (fun k => k .undef M_57) fun t33 M_59 =>
 guardM t31 false (fun k_60 => idxB t32 t33 fun t34 =>
 k_60 t34 M_59) (fun k => k .undef M_59) fun t34_61 M_62 =>
 guardM t31 false (fun k_63 => intW .geq t34_61 (N .u8 48) fun t35 =>
 k_63 t35 M_62) (fun k => k .undef M_62) fun t35_64 M_65 =>
 guardM t31 false (fun k_66 => k_66 t35_64 M_65) (fun k => k .undef M_65) fun t36 M_67 =>
 guardM t36 true (fun k_68 => k_68 a0 M_67) (fun k => k .undef M_67) fun t37 M_69 =>
 guardM t36 true (fun k_70 => k_70 (nthD xs 0) M_69) (fun k => k .undef M_69) fun t38 M_71 =>
 guardM t36 true (fun k_72 => idxB t37 t38 fun t39 =>
 k_72 t39 M_71) (fun k => k .undef M_71) fun t39_73 M_74 =>
 guardM t36 true (fun k_75 => intW .leq t39_73 (N .u8 57) fun t40 =>
 k_75 t40 M_74) (fun k => k .undef M_74) fun t40_76 M_77 =>
 guardM t31 false (fun k_78 => pickW t36 t40_76 (Bo false) fun t41 =>
 k_78 t41 M_77) (fun k => k .undef M_77) fun t41_79 M_80 =>
 guardM t7 true (fun k_81 => pickW t31 (Bo true) t41_79 fun t42 =>
 k_81 t42 M_80) (fun k => k .undef M_80) fun t42_82 M_83 =>
 guardM t7 true (fun k_84 => k_84 t42_82 M_83) (fun k => k .undef M_83) fun t43 M_85 =>
 guardM t43 false (fun k_86 => k_86 a0 M_85) (fun k => k .undef M_85) fun t44 M_87 =>
 guardM t43 false (fun k_88 => k_88 (nthD xs 0) M_87) (fun k => k .undef M_87) fun t45 M_89 =>
 guardM t43 false (fun k_90 => idxB t44 t45 fun t46 =>
 k_90 t46 M_89) (fun k => k .undef M_89) fun t46_91 M_92 =>
 guardM t43 false (fun k_93 => intW .eql t46_91 (N .u8 45) fun t47 =>
 k_93 t47 M_92) (fun k => k .undef M_92) fun t47_94 M_95 =>
 guardM t7 true (fun k_96 => pickW t43 (Bo true) t47_94 fun t48 =>
 k_96 t48 M_95) (fun k => k .undef M_95) fun t48_97 M_98 =>
 pickW t7 t48_97 (Bo false) fun t49 =>
 condW t49 (
 intW .add (nthD xs 0) (N .i64 1) fun t51 =>
 next [t51] M_98) (
 Q (nthD xs 0) M_98)) [(N .i64 0)] M0

/-- rolodex/rolodexref23.Low -/
def W_rolodex_rolodexref23_Low (T_uint8 : Nat) (a0 : AV) (M0 : RM) (Q : PostV) : Prop :=
 bytesW T_uint8 a0 fun r f =>
 newW r f M0 fun t6 M =>
 loopW (fun next xs M_0 => -- [4]
 lenW t6 fun t9 =>
 intW .lss (nthD xs 0) t9 fun t10 =>
 condW t10 (
 joinW (fun J =>
 idxS t6 (nthD xs 0) 1 fun t15 =>
 load1 M_0 t15 fun t16 =>
 intW .geq t16 (N .u8 65) fun t17 =>
 guardM t17 true (fun k => k t6 M_0) (fun k => k .undef M_0) fun t19 M_1 =>
 guardM t17 true (fun k_2 => k_2 (nthD xs 0) M_1) (fun k => k .undef M_1) fun t20 M_3 =>
 guardM t17 true (fun k_4 => idxS t19 t20 1 fun t21 =>
 k_4 t21 M_3) (fun k => k .undef M_3) fun t21_5 M_6 =>
 guardM t17 true (fun k_7 => load1 M_6 t21_5 fun t22 =>
 k_7 t22 M_6) (fun k => k .undef M_6) fun t22_8 M_9 =>
 guardM t17 true (fun k_10 => intW .leq t22_8 (N .u8 90) fun t23 =>
 k_10 t23 M_9) (fun k => k .undef M_9) fun t23_11 M_12 =>
 pickW t17 t23_11 (Bo false) fun t24 =>
 condW t24 (
 idxS t6 (nthD xs 0) 1 fun t29 =>
 load1 M_12 t29 fun t30 =>
 intW .add t30 (N .u8 32) fun t31 =>
 idxS t6 (nthD xs 0) 1 fun t32 =>
 storeW M_12 t32 t31 1 fun M_13 =>
 J [] M_13) (
 J [] M_12)) (fun xs_14 M_15 => -- []
 intW .add (nthD xs 0) (N .i64 1) fun t12 =>
 next [t12] M_15)) (
 strOfW M_0 t6 fun t34 =>
 Q t34 M_0)) [(N .i64 0)] M

/-- rolodex/rolodexref23.values -/
def W_rolodex_rolodexref23_values (c_rolodex_rolodexref23_plain : CallT) (T_string : Nat) (a0 : AV) (M0 : RM) (Q : PostV) : Prop :=
 loopW (fun next xs M => -- [0, 5]
 joinW (fun J =>
 lenStr (nthD xs 0) fun t9 =>
 intW .gtr t9 (N .i64 0) fun t10 =>
 guardM t10 true (fun k => k (nthD xs 0) M) (fun k => k .undef M) fun t12 M_0 =>
 guardM t10 true (fun k_1 => idxB t12 (N .i64 0) fun t13 =>
 k_1 t13 M_0) (fun k => k .undef M_0) fun t13_2 M_3 =>
 guardM t10 true (fun k_4 => intW .eql t13_2 (N .u8 34) fun t14 =>
 k_4 t14 M_3) (fun k => k .undef M_3) fun t14_5 M_6 =>
 pickW t10 t14_5 (Bo false) fun t15 =>
 condW t15 (
 loopW (fun next_7 xs_8 M_9 => -- [6]
 lenStr (nthD xs 0) fun t18 =>
 intW .lss (nthD xs_8 0) t18 fun t19 =>
 guardM t19 true (fun k_10 => k_10 (nthD xs 0) M_9) (fun k => k .undef M_9) fun t21 M_11 =>
 guardM t19 true (fun k_12 => k_12 (nthD xs_8 0) M_11) (fun k => k .undef M_11) fun t22 M_13 =>
 guardM t19 true (fun k_14 => idxB t21 t22 fun t23 =>
 k_14 t23 M_13) (fun k => k .undef M_13) fun t23_15 M_16 =>
 guardM t19 true (fun k_17 => intW .neq t23_15 (N .u8 34) fun t24 =>
 k_17 t24 M_16) (fun k => k .undef M_16) fun t24_18 M_19 =>
 pickW t19 t24_18 (Bo false) fun t25 =>
 guardM t25 true (fun k_20 => k_20 (nthD xs 0) M_19) (fun k => k .undef M_19) fun t27 M_21 =>
 guardM t25 true (fun k_22 => k_22 (nthD xs_8 0) M_21) (fun k => k .undef M_21) fun t28 M_23 =>
 guardM t25 true (fun k_24 => idxB t27 t28 fun t29 =>
 k_24 t29 M_23) (fun k => k .undef M_23) fun t29_25 M_26 =>
 guardM t25 true (fun k_27 => c_rolodex_rolodexref23_plain [t29_25] M_26 fun t30 M_28 =>
 k_27 t30 M_28) (fun k => k .undef M_26) fun t30_29 M_30 =>
 pickW t25 t30_29 (Bo false) fun t31 =>
 condW t31 (
 intW .add (nthD xs_8 0) (N .i64 1) fun t33 =>
 next_7 [t33] M_30) (
 lenStr (nthD xs 0) fun t36 =>
 intW .eql (nthD xs_8 0) t36 fun t37 =>
 guardM t37 false (fun k_31 => k_31 (nthD xs 0) M_30) (fun k => k .undef M_30) fun t39 M_32 =>
 guardM t37 false (fun k_33 => k_33 (nthD xs_8 0) M_32) (fun k => k .undef M_32) fun t40 M_34 =>
 guardM t37 false (fun k_35 => idxB t39 t40 fun t41 =>
 k_35 t41 M_34) (fun k => k .undef M_34) fun t41_36 M_37 =>
 guardM t37 false (fun k_38 => intW .neq t41_36 (N .u8 34) fun t42 =>
 k_38 t42 M_37) (fun k => k .undef M_37) fun t42_39 M_40 =>
 pickW t37 (Bo true) t42_39 fun t43 =>
 condW t43 (
 Q (.tup [(.sc (.slice none 0 0)), (St []), (Bo false)]) M_40) (
 getW (subStr (nthD xs 0) (some (N .i64 1)) (some (nthD xs_8 0))) fun t46 =>
 intW .add (nthD xs_8 0) (N .i64 1) fun t48 =>
 J [t48, t46] M_40))) [(N .i64 1)] M_6) (
 loopW (fun next_41 xs_42 M_43 => -- [6]
 lenStr (nthD xs 0) fun t51 =>
 intW .lss (nthD xs_42 0) t51 fun t52 =>
 guardM t52 true (fun k_44 => k_44 (nthD xs 0) M_43) (fun k => k .undef M_43) fun t54 M_45 =>
 guardM t52 true (fun k_46 => k_46 (nthD xs_42 0) M_45) (fun k => k .undef M_45) fun t55 M_47 =>
 guardM t52 true (fun k_48 => idxB t54 t55 fun t56 =>
 k_48 t56 M_47) (fun k => k .undef M_47) fun t56_49 M_50 =>
 guardM t52 true (fun k_51 => c_rolodex_rolodexref23_plain [t56_49] M_50 fun t57 M_52 =>
 k_51 t57 M_52) (fun k => k .undef M_50) fun t57_53 M_54 =>
 pickW t52 t57_53 (Bo false) fun t58 =>
 guardM t58 true (fun k_55 => k_55 (nthD xs 0) M_54) (fun k => k .undef M_54) fun t60 M_56 =>
 guardM t58 true (fun k_57 => k_57 (nthD xs_42 0) M_56) (fun k => k .undef M_56) fun t61 M_58 =>
 guardM t58 true (fun k_59 => idxB t60 t61 fun t62 =>
 k_59 t62 M_58) (fun k => k .undef M_58) fun t62_60 M_61 =>
 guardM t58 true (fun k_62 => intW .neq t62_60 (N .u8 34) fun t63 =>
 k_62 t63 M_61) (fun k => k .undef M_61) fun t63_63 M_64 =>
 pickW t58 t63_63 (Bo false) fun t64 =>
 guardM t64 true (fun k_65 => k_65 (nthD xs 0) M_64) (fun k => k .undef M_64) fun t66 M_66 =>
 guardM t64 true (fun k_67 => k_67 (nthD xs_42 0) M_66) (fun k => k .undef M_66) fun t67 M_68 =>
 guardM t64 true (fun k_69 => idxB t66 t67 fun t68 =>
 k_69 t68 M_68) (fun k => k .undef M_68) fun t68_70 M_71 =>
 guardM t64 true (fun k_72 => intW .neq t68_70 (N .u8 44) fun t69 =>
 k_72 t69 M_71) (fun k => k .undef M_71) fun t69_73 M_74 =>
 pickW t64 t69_73 (Bo false) fun t70 =>
 guardM t70 true (fun k_75 => k_75 (nthD xs 0) M_74) (fun k => k .undef M_74) fun t72 M_76 =>
 guardM t70 true (fun k_77 => k_77 (nthD xs_42 0) M_76) (fun k => k .undef M_76) fun t73 M_78 =>
 guardM t70 true (fun k_79 => idxB t72 t73 fun t74 =>
 k_79 t74 M_78) (fun k => k .undef M_78) fun t74_80 M_81 =>
 guardM t70 true (fun k_82 => intW .neq t74_80 (N .u8 59) fun t75 =>
 k_82 t75 M_81) (fun k => k .undef M_81) fun t75_83 M_84 =>
 pickW t70 t75_83 (Bo false) fun t76 =>
 guardM t76 true (fun k_85 => k_85 (nthD xs 0) M_84) (fun k => k .undef M_84) fun t78 M_86 =>
 guardM t76 true (fun k_87 => k_87 (nthD xs_42 0) M_86) (fun k => k .undef M_86) fun t79 M_88 =>
 guardM t76 true (fun k_89 => idxB t78 t79 fun t80 =>
 k_89 t80 M_88) (fun k => k .undef M_88) fun t80_90 M_91 =>
 guardM t76 true (fun k_92 => intW .neq t80_90 (N .u8 58) fun t81 =>
 k_92 t81 M_91) (fun k => k .undef M_91) fun t81_93 M_94 =>
 pickW t76 t81_93 (Bo false) fun t82 =>
 condW t82 (
 intW .add (nthD xs_42 0) (N .i64 1) fun t84 =>
 next_41 [t84] M_94) (
 getW (subStr (nthD xs 0) none (some (nthD xs_42 0))) fun t87 =>
 J [(nthD xs_42 0), t87] M_94)) [(N .i64 0)] M_6)) (fun xs_95 M_96 => -- [6, 7]
 rowsW T_string 1 [(St [])] [(0, 1, (nthD xs_95 1))] fun r f =>
 newW r f M_96 fun t90 M_97 =>
 appW T_string 1 16 [(St [])] false (nthD xs 1) t90 M_97 fun t91 M_98 =>
 getW (subStr (nthD xs 0) (some (nthD xs_95 0)) none) fun t94 =>
 lenStr t94 fun t96 =>
 intW .eql t96 (N .i64 0) fun t97 =>
 guardM t97 false (fun k_99 => k_99 t94 M_98) (fun k => k .undef M_98) fun t99 M_100 =>
 guardM t97 false (fun k_101 => idxB t99 (N .i64 0) fun t100 =>
 k_101 t100 M_100) (fun k => k .undef M_100) fun t100_102 M_103 =>
 guardM t97 false (fun k_104 => intW .neq t100_102 (N .u8 44) fun t101 =>
 k_104 t101 M_103) (fun k => k .undef M_103) fun t101_105 M_106 =>
 pickW t97 (Bo true) t101_105 fun t102 =>
 condW t102 (
 Q (.tup [t91, t94, (Bo true)]) M_106) (
 getW (subStr t94 (some (N .i64 1)) none) fun t106 =>
 next [t106, t91] M_106))) [a0, (.sc (.slice none 0 0))] M0

/-- rolodex/rolodexref23.plain -/
def W_rolodex_rolodexref23_plain (a0 : AV) (M0 : RM) (Q : PostV) : Prop :=
 intW .eql a0 (N .u8 9) fun t4 =>
 guardM t4 false (fun k => k a0 M0) (fun k => k .undef M0) fun t6 M =>
 guardM t4 false (fun k_0 => intW .geq t6 (N .u8 32) fun t7 =>
 k_0 t7 M) (fun k => k .undef M) fun t7_1 M_2 =>
 guardM t4 false (fun k_3 => k_3 t7_1 M_2) (fun k => k .undef M_2) fun t8 M_4 =>
 guardM t8 true (fun k_5 => k_5 a0 M_4) (fun k => k .undef M_4) fun t9 M_6 =>
 guardM t8 true (fun k_7 => intW .neq t9 (N .u8 127) fun t10 =>
 k_7 t10 M_6) (fun k => k .undef M_6) fun t10_8 M_9 =>
 guardM t4 false (fun k_10 => pickW t8 t10_8 (Bo false) fun t11 =>
 k_10 t11 M_9) (fun k => k .undef M_9) fun t11_11 M_12 =>
 pickW t4 (Bo true) t11_11 fun t12 =>
 Q t12 M_12

/-- internal/stringslite.Cut -/
def W_internal_stringslite_Cut (c_internal_stringslite_Index : CallT) (a0 a1 : AV) (M0 : RM) (Q : PostV) : Prop :=
 c_internal_stringslite_Index [a0, a1] M0 fun t10 M =>
 intW .geq t10 (N .i64 0) fun t12 =>
 condW t12 (
 getW (subStr a0 none (some t10)) fun t15 =>
 lenStr a1 fun t19 =>
 intW .add t10 t19 fun t20 =>
 getW (subStr a0 (some t20) none) fun t21 =>
 Q (.tup [t15, t21, (Bo true)]) M) (
 Q (.tup [a0, (St []), (Bo false)]) M)

/-- internal/stringslite.TrimSuffix -/
def W_internal_stringslite_TrimSuffix (c_internal_stringslite_HasSuffix : CallT) (a0 a1 : AV) (M0 : RM) (Q : PostV) : Prop :=
 c_internal_stringslite_HasSuffix [a0, a1] M0 fun t7 M =>
 condW t7 (
 lenStr a0 fun t10 =>
 lenStr a1 fun t12 =>
 intW .sub t10 t12 fun t13 =>
 getW (subStr a0 none (some t13)) fun t14 =>
 Q t14 M) (
 Q a0 M)

/-- strings.Trim -/
def W_strings_Trim (c_strings_trimRightByte : CallT) (c_strings_trimLeftByte : CallT) (c_strings_makeASCIISet : CallT) (T_strings_asciiSet : Nat) (c_strings_trimRightASCII : CallT) (c_strings_trimLeftASCII : CallT) (c_strings_trimRightUnicode : CallT) (c_strings_trimLeftUnicode : CallT) (a0 a1 : AV) (M0 : RM) (Q : PostV) : Prop :=
 strW .eql a0 (St []) fun t8 =>
 guardM t8 false (fun k => k a1 M0) (fun k => k .undef M0) fun t10 M =>
 guardM t8 false (fun k_0 => strW .eql t10 (St []) fun t11 =>
 k_0 t11 M) (fun k => k .undef M) fun t11_1 M_2 =>
 pickW t8 (Bo true) t11_1 fun t12 =>
 condW t12 (
 Q a0 M_2) (
 lenStr a1 fun t15 =>
 intW .eql t15 (N .i64 1) fun t16 =>
 guardM t16 true (fun k_3 => k_3 a1 M_2) (fun k => k .undef M_2) fun t18 M_4 =>
 guardM t16 true (fun k_5 => idxB t18 (N .i64 0) fun t19 =>
 k_5 t19 M_4) (fun k => k .undef M_4) fun t19_6 M_7 =>
 guardM t16 true (fun k_8 => intW .lss t19_6 (N .u8 128) fun t20 =>
 k_8 t20 M_7) (fun k => k .undef M_7) fun t20_9 M_10 =>
 pickW t16 t20_9 (Bo false) fun t21 =>
 condW t21 (
 idxB a1 (N .i64 0) fun t24 =>
 idxB a1 (N .i64 0) fun t27 =>
 c_strings_trimRightByte [a0, t24] M_10 fun t25 M_11 =>
 c_strings_trimLeftByte [t25, t27] M_11 fun t28 M_12 =>
 Q t28 M_12) (
 c_strings_makeASCIISet [a1] M_10 fun t31 M_13 =>
 extW t31 0 fun t32 =>
 extW t31 1 fun t33 =>
 newW (.row [(Bo false), (Bo false), (Bo false), (Bo false), (Bo false), (Bo false), (Bo false), (Bo false), (Bo false), (Bo false), (Bo false), (Bo false), (Bo false), (Bo false), (Bo false), (Bo false), (Bo false), (Bo false), (Bo false), (Bo false), (Bo false), (Bo false), (Bo false), (Bo false), (Bo false), (Bo false), (Bo false), (Bo false), (Bo false), (Bo false), (Bo false), (Bo false), (Bo false), (Bo false), (Bo false), (Bo false), (Bo false), (Bo false), (Bo false), (Bo false), (Bo false), (Bo false), (Bo false), (Bo false), (Bo false), (Bo false), (Bo false), (Bo false), (Bo false), (Bo false), (Bo false), (Bo false), (Bo false), (Bo false), (Bo false), (Bo false), (Bo false), (Bo false), (Bo false), (Bo false), (Bo false), (Bo false), (Bo false), (Bo false), (Bo false), (Bo false), (Bo false), (Bo false), (Bo false), (Bo false), (Bo false), (Bo false), (Bo false), (Bo false), (Bo false), (Bo false), (Bo false), (Bo false), (Bo false), (Bo false), (Bo false), (Bo false), (Bo false), (Bo false), (Bo false), (Bo false), (Bo false), (Bo false), (Bo false), (Bo false), (Bo false), (Bo false), (Bo false), (Bo false), (Bo false), (Bo false), (Bo false), (Bo false), (Bo false), (Bo false), (Bo false), (Bo false), (Bo false), (Bo false), (Bo false), (Bo false), (Bo false), (Bo false), (Bo false), (Bo false), (Bo false), (Bo false), (Bo false), (Bo false), (Bo false), (Bo false), (Bo false), (Bo false), (Bo false), (Bo false), (Bo false), (Bo false), (Bo false), (Bo false), (Bo false), (Bo false), (Bo false), (Bo false), (Bo false), (Bo false), (Bo false), (Bo false), (Bo false), (Bo false), (Bo false), (Bo false), (Bo false), (Bo false), (Bo false), (Bo false), (Bo false), (Bo false), (Bo false), (Bo false), (Bo false), (Bo false), (Bo false), (Bo false), (Bo false), (Bo false), (Bo false), (Bo false), (Bo false), (Bo false), (Bo false), (Bo false), (Bo false), (Bo false), (Bo false), (Bo false), (Bo false), (Bo false), (Bo false), (Bo false), (Bo false), (Bo false), (Bo false), (Bo false), (Bo false), (Bo false), (Bo false), (Bo false), (Bo false), (Bo false), (Bo false), (Bo false), (Bo false), (Bo false), (Bo false), (Bo false), (Bo false), (Bo false), (Bo false), (Bo false), (Bo false), (Bo false), (Bo false), (Bo false), (Bo false), (Bo false), (Bo false), (Bo false), (Bo false), (Bo false), (Bo false), (Bo false), (Bo false), (Bo false), (Bo false), (Bo false), (Bo false), (Bo false), (Bo false), (Bo false), (Bo false), (Bo false), (Bo false), (Bo false), (Bo false), (Bo false), (Bo false), (Bo false), (Bo false), (Bo false), (Bo false), (Bo false), (Bo false), (Bo false), (Bo false), (Bo false), (Bo false), (Bo false), (Bo false), (Bo false), (Bo false), (Bo false), (Bo false), (Bo false), (Bo false), (Bo false), (Bo false), (Bo false), (Bo false), (Bo false), (Bo false), (Bo false), (Bo false), (Bo false), (Bo false), (Bo false), (Bo false), (Bo false), (Bo false), (Bo false), (Bo false), (Bo false), (Bo false), (Bo false), (Bo false), (Bo false), (Bo false), (Bo false), (Bo false), (Bo false), (Bo false), (Bo false)] false T_strings_asciiSet 0) (fun b => .ptr b 0) M_13 fun t5 M_14 =>
 storeW M_14 t5 t32 256 fun M_15 =>
 condW t33 (
 c_strings_trimRightASCII [a0, t5] M_15 fun t36 M_16 =>
 c_strings_trimLeftASCII [t36, t5] M_16 fun t37 M_17 =>
 Q t37 M_17) (
 c_strings_trimRightUnicode [a0, a1] M_15 fun t40 M_18 =>
 c_strings_trimLeftUnicode [t40, a1] M_18 fun t42 M_19 =>
 Q t42 M_19)))

/-- rolodex/vline.plain -/
def W_rolodex_vline_plain (a0 : AV) (M0 : RM) (Q : PostV) : Prop :=
 intW .geq a0 (N .u8 32) fun t4 =>
 guardM t4 true (fun k => k a0 M0) (fun k => k .undef M0) fun t6 M =>
 guardM t4 true (fun k_0 => intW .neq t6 (N .u8 127) fun t7 =>
 k_0 t7 M) (fun k => k .undef M) fun t7_1 M_2 =>
 pickW t4 t7_1 (Bo false) fun t8 =>
 guardM t8 false (fun k_3 => k_3 a0 M_2) (fun k => k .undef M_2) fun t10 M_4 =>
 guardM t8 false (fun k_5 => intW .eql t10 (N .u8 9) fun t11 =>
 k_5 t11 M_4) (fun k => k .undef M_4) fun t11_6 M_7 =>
 pickW t8 (Bo true) t11_6 fun t12 =>
 Q t12 M_7

/-- strings.IndexAny -/
def W_strings_IndexAny (c_strings_IndexRune : CallT) (c_strings_shouldUseASCIISet : CallT) (c_strings_makeASCIISet : CallT) (T_strings_asciiSet : Nat) (c_strings_asciiSet_contains : CallT) (a0 a1 : AV) (M0 : RM) (Q : PostV) : Prop :=
 strW .eql a1 (St []) fun t12 =>
 condW t12 (
 Q (N .i64 (-1)) M0) (
 lenStr a1 fun t14 =>
 intW .eql t14 (N .i64 1) fun t15 =>
 condW t15 (
 idxB a1 (N .i64 0) fun t17 =>
 cvtW .i32 t17 fun t18 =>
 joinW (fun J =>
 intW .geq t18 (N .i32 128) fun t20 =>
 condW t20 (
 J [(N .i32 65533)] M0) (
 J [t18] M0)) (fun xs M => -- [5]
 c_strings_IndexRune [a0, (nthD xs 0)] M fun t23 M_0 =>
 Q t23 M_0)) (
 joinW (fun J_1 =>
 lenStr a0 fun t25 =>
 c_strings_shouldUseASCIISet [t25] M0 fun t26 M_2 =>
 condW t26 (
 c_strings_makeASCIISet [a1] M_2 fun t29 M_3 =>
 extW t29 0 fun t30 =>
 extW t29 1 fun t31 =>
 newW (.row [(Bo false), (Bo false), (Bo false), (Bo false), (Bo false), (Bo false), (Bo false), (Bo false), (Bo false), (Bo false), (Bo false), (Bo false), (Bo false), (Bo false), (Bo false), (Bo false), (Bo false), (Bo false), (Bo false), (Bo false), (Bo false), (Bo false), (Bo false), (Bo false), (Bo false), (Bo false), (Bo false), (Bo false), (Bo false), (Bo false), (Bo false), (Bo false), (Bo false), (Bo false), (Bo false), (Bo false), (Bo false), (Bo false), (Bo false), (Bo false), (Bo false), (Bo false), (Bo false), (Bo false), (Bo false), (Bo false), (Bo false), (Bo false), (Bo false), (Bo false), (Bo false), (Bo false), (Bo false), (Bo false), (Bo false), (Bo false), (Bo false), (Bo false), (Bo false), (Bo false), (Bo false), (Bo false), (Bo false), (Bo false), (Bo false), (Bo false), (Bo false), (Bo false), (Bo false), (Bo false), (Bo false), (Bo false), (Bo false), (Bo false), (Bo false), (Bo false), (Bo false), (Bo false), (Bo false), (Bo false), (Bo false), (Bo false), (Bo false), (Bo false), (Bo false), (Bo false), (Bo false), (Bo false), (Bo false), (Bo false), (Bo false), (Bo false), (Bo false), (Bo false), (Bo false), (Bo false), (Bo false), (Bo false), (Bo false), (Bo false), (Bo false), (Bo false), (Bo false), (Bo false), (Bo false), (Bo false), (Bo false), (Bo false), (Bo false), (Bo false), (Bo false), (Bo false), (Bo false), (Bo false), (Bo false), (Bo false), (Bo false), (Bo false), (Bo false), (Bo false), (Bo false), (Bo false), (Bo false), (Bo false), (Bo false), (Bo false), (Bo false), (Bo false), (Bo false), (Bo false), (Bo false), (Bo false), (Bo false), (Bo false), (Bo false), (Bo false), (Bo false), (Bo false), (Bo false), (Bo false), (Bo false), (Bo false), (Bo false), (Bo false), (Bo false), (Bo false), (Bo false), (Bo false), (Bo false), (Bo false), (Bo false), (Bo false), (Bo false), (Bo false), (Bo false), (Bo false), (Bo false), (Bo false), (Bo false), (Bo false), (Bo false), (Bo false), (Bo false), (Bo false), (Bo false), (Bo false), (Bo false), (Bo false), (Bo false), (Bo false), (Bo false), (Bo false), (Bo false), (Bo false), (Bo false), (Bo false), (Bo false), (Bo false), (Bo false), (Bo false), (Bo false), (Bo false), (Bo false), (Bo false), (Bo false), (Bo false), (Bo false), (Bo false), (Bo false), (Bo false), (Bo false), (Bo false), (Bo false), (Bo false), (Bo false), (Bo false), (Bo false), (Bo false), (Bo false), (Bo false), (Bo false), (Bo false), (Bo false), (Bo false), (Bo false), (Bo false), (Bo false), (Bo false), (Bo false), (Bo false), (Bo false), (Bo false), (Bo false), (Bo false), (Bo false), (Bo false), (Bo false), (Bo false), (Bo false), (Bo false), (Bo false), (Bo false), (Bo false), (Bo false), (Bo false), (Bo false), (Bo false), (Bo false), (Bo false), (Bo false), (Bo false), (Bo false), (Bo false), (Bo false), (Bo false), (Bo false), (Bo false), (Bo false), (Bo false), (Bo false), (Bo false), (Bo false), (Bo false), (Bo false), (Bo false), (Bo false), (Bo false), (Bo false), (Bo false), (Bo false), (Bo false), (Bo false), (Bo false), (Bo false), (Bo false), (Bo false)] false T_strings_asciiSet 0) (fun b => .ptr b 0) M_3 fun t6 M_4 =>
 storeW M_4 t6 t30 256 fun M_5 =>
 condW t31 (
 loopW (fun next xs_6 M_7 => -- [8]
 lenStr a0 fun t35 =>
 intW .lss (nthD xs_6 0) t35 fun t36 =>
 condW t36 (
 idxB a0 (nthD xs_6 0) fun t41 =>
 c_strings_asciiSet_contains [t6, t41] M_7 fun t42 M_8 =>
 condW t42 (
 Q (nthD xs_6 0) M_8) (
 intW .add (nthD xs_6 0) (N .i64 1) fun t38 =>
 next [t38] M_8)) (
 Q (N .i64 (-1)) M_7)) [(N .i64 0)] M_5) (
 J_1 [] M_5)) (
 J_1 [] M_2)) (fun xs_9 M_10 => -- []
 siterW a0 fun r f =>
 newW r f M_10 fun t45 M_11 =>
 loopW (fun next_12 xs_13 M_14 => -- []
 snextW t45 M_14 fun t46 M_15 =>
 extW t46 0 fun t47 =>
 condW t47 (
 extW t46 1 fun t48 =>
 extW t46 2 fun t49 =>
 c_strings_IndexRune [a1, t49] M_15 fun t52 M_16 =>
 intW .geq t52 (N .i64 0) fun t53 =>
 condW t53 (
 Q t48 M_16) (
 next_12 [] M_16)) (
 Q (N .i64 (-1)) M_15)) [] M_11)))

/-- strings.TrimLeft -/
def W_strings_TrimLeft (c_strings_trimLeftByte : CallT) (c_strings_makeASCIISet : CallT) (T_strings_asciiSet : Nat) (c_strings_trimLeftASCII : CallT) (c_strings_trimLeftUnicode : CallT) (a0 a1 : AV) (M0 : RM) (Q : PostV) : Prop :=
 strW .eql a0 (St []) fun t8 =>
 guardM t8 false (fun k => k a1 M0) (fun k => k .undef M0) fun t10 M =>
 guardM t8 false (fun k_0 => strW .eql t10 (St []) fun t11 =>
 k_0 t11 M) (fun k => k .undef M) fun t11_1 M_2 =>
 pickW t8 (Bo true) t11_1 fun t12 =>
 condW t12 (
 Q a0 M_2) (
 lenStr a1 fun t15 =>
 intW .eql t15 (N .i64 1) fun t16 =>
 guardM t16 true (fun k_3 => k_3 a1 M_2) (fun k => k .undef M_2) fun t18 M_4 =>
 guardM t16 true (fun k_5 => idxB t18 (N .i64 0) fun t19 =>
 k_5 t19 M_4) (fun k => k .undef M_4) fun t19_6 M_7 =>
 guardM t16 true (fun k_8 => intW .lss t19_6 (N .u8 128) fun t20 =>
 k_8 t20 M_7) (fun k => k .undef M_7) fun t20_9 M_10 =>
 pickW t16 t20_9 (Bo false) fun t21 =>
 condW t21 (
 idxB a1 (N .i64 0) fun t24 =>
 c_strings_trimLeftByte [a0, t24] M_10 fun t25 M_11 =>
 Q t25 M_11) (
 c_strings_makeASCIISet [a1] M_10 fun t28 M_12 =>
 extW t28 0 fun t29 =>
 extW t28 1 fun t30 =>
 newW (.row [(Bo false), (Bo false), (Bo false), (Bo false), (Bo false), (Bo false), (Bo false), (Bo false), (Bo false), (Bo false), (Bo false), (Bo false), (Bo false), (Bo false), (Bo false), (Bo false), (Bo false), (Bo false), (Bo false), (Bo false), (Bo false), (Bo false), (Bo false), (Bo false), (Bo false), (Bo false), (Bo false), (Bo false), (Bo false), (Bo false), (Bo false), (Bo false), (Bo false), (Bo false), (Bo false), (Bo false), (Bo false), (Bo false), (Bo false), (Bo false), (Bo false), (Bo false), (Bo false), (Bo false), (Bo false), (Bo false), (Bo false), (Bo false), (Bo false), (Bo false), (Bo false), (Bo false), (Bo false), (Bo false), (Bo false), (Bo false), (Bo false), (Bo false), (Bo false), (Bo false), (Bo false), (Bo false), (Bo false), (Bo false), (Bo false), (Bo false), (Bo false), (Bo false), (Bo false), (Bo false), (Bo false), (Bo false), (Bo false), (Bo false), (Bo false), (Bo false), (Bo false), (Bo false), (Bo false), (Bo false), (Bo false), (Bo false), (Bo false), (Bo false), (Bo false), (Bo false), (Bo false), (Bo false), (Bo false), (Bo false), (Bo false), (Bo false), (Bo false), (Bo false), (Bo false), (Bo false), (Bo false), (Bo false), (Bo false), (Bo false), (Bo false), (Bo false), (Bo false), (Bo false), (Bo false), (Bo false), (Bo false), (Bo false), (Bo false), (Bo false), (Bo false), (Bo false), (Bo false), (Bo false), (Bo false), (Bo false), (Bo false), (Bo false), (Bo false), (Bo false), (Bo false), (Bo false), (Bo false), (Bo false), (Bo false), (Bo false), (Bo false), (Bo false), (Bo false), (Bo false), (Bo false), (Bo false), (Bo false), (Bo false), (Bo false), (Bo false), (Bo false), (Bo false), (Bo false), (Bo false), (Bo false), (Bo false), (Bo false), (Bo false), (Bo false), (Bo false), (Bo false), (Bo false), (Bo false), (Bo false), (Bo false), (Bo false), (Bo false), (Bo false), (Bo false), (Bo false), (Bo false), (Bo false), (Bo false), (Bo false), (Bo false), (Bo false), (Bo false), (Bo false), (Bo false), (Bo false), (Bo false), (Bo false), (Bo false), (Bo false), (Bo false), (Bo false), (Bo false), (Bo false), (Bo false), (Bo false), (Bo false), (Bo false), (Bo false), (Bo false), (Bo false), (Bo false), (Bo false), (Bo false), (Bo false), (Bo false), (Bo false), (Bo false), (Bo false), (Bo false), (Bo false), (Bo false), (Bo false), (Bo false), (Bo false), (Bo false), (Bo false), (Bo false), (Bo false), (Bo false), (Bo false), (Bo false), (Bo false), (Bo false), (Bo false), (Bo false), (Bo false), (Bo false), (Bo false), (Bo false), (Bo false), (Bo false), (Bo false), (Bo false), (Bo false), (Bo false), (Bo false), (Bo false), (Bo false), (Bo false), (Bo false), (Bo false), (Bo false), (Bo false), (Bo false), (Bo false), (Bo false), (Bo false), (Bo false), (Bo false), (Bo false), (Bo false), (Bo false), (Bo false), (Bo false), (Bo false), (Bo false), (Bo false), (Bo false), (Bo false), (Bo false), (Bo false), (Bo false), (Bo false), (Bo false), (Bo false), (Bo false), (Bo false), (Bo false), (Bo false), (Bo false), (Bo false), (Bo false), (Bo false), (Bo false), (Bo false)] false T_strings_asciiSet 0) (fun b => .ptr b 0) M_12 fun t5 M_13 =>
 storeW M_13 t5 t29 256 fun M_14 =>
 condW t30 (
 c_strings_trimLeftASCII [a0, t5] M_14 fun t33 M_15 =>
 Q t33 M_15) (
 c_strings_trimLeftUnicode [a0, a1] M_14 fun t36 M_16 =>
 Q t36 M_16)))

/-- rolodex/vline.small -/
def W_rolodex_vline_small (T_uint8 : Nat) (a0 : AV) (M0 : RM) (Q : PostV) : Prop :=
 bytesW T_uint8 a0 fun r f =>
 newW r f M0 fun t7 M =>
 lenW t7 fun t9 =>
 loopW (fun next xs M_0 => -- [10]
 intW .lss (nthD xs 0) t9 fun t11 =>
 condW t11 (
 joinW (fun J =>
 idxS t7 (nthD xs 0) 1 fun t13 =>
 load1 M_0 t13 fun t14 =>
 intW .geq t14 (N .u8 65) fun t16 =>
 guardM t16 true (fun k => k t14 M_0) (fun k => k .undef M_0) fun t18 M_1 =>
 guardM t16 true (fun k_2 => intW .leq t18 (N .u8 90) fun t19 =>
 k_2 t19 M_1) (fun k => k .undef M_1) fun t19_3 M_4 =>
 pickW t16 t19_3 (Bo false) fun t20 =>
 condW t20 (
 intW .add t14 (N .u8 97) fun t24 =>
 intW .sub t24 (N .u8 65) fun t25 =>
 idxS t7 (nthD xs 0) 1 fun t26 =>
 storeW M_4 t26 t25 1 fun M_5 =>
 J [] M_5) (
 J [] M_4)) (fun xs_6 M_7 => -- []
 intW .add (nthD xs 0) (N .i64 1) fun t27 =>
 next [t27] M_7)) (
 strOfW M_0 t7 fun t29 =>
 Q t29 M_0)) [(N .i64 0)] M

/-- internal/stringslite.HasPrefix -/
def W_internal_stringslite_HasPrefix (a0 a1 : AV) (M0 : RM) (Q : PostV) : Prop :=
 lenStr a0 fun t6 =>
 lenStr a1 fun t8 =>
 intW .geq t6 t8 fun t9 =>
 guardM t9 true (fun k => k a0 M0) (fun k => k .undef M0) fun t11 M =>
 guardM t9 true (fun k_0 => k_0 a1 M) (fun k => k .undef M) fun t12 M_1 =>
 guardM t9 true (fun k_2 => lenStr t12 fun t13 =>
 k_2 t13 M_1) (fun k => k .undef M_1) fun t13_3 M_4 =>
 guardM t9 true (fun k_5 => getW (subStr t11 none (some t13_3)) fun t14 =>
 k_5 t14 M_4) (fun k => k .undef M_4) fun t14_6 M_7 =>
 guardM t9 true (fun k_8 => k_8 a1 M_7) (fun k => k .undef M_7) fun t15 M_9 =>
 guardM t9 true (fun k_10 => strW .eql t14_6 t15 fun t16 =>
 k_10 t16 M_9) (fun k => k .undef M_9) fun t16_11 M_12 =>
 pickW t9 t16_11 (Bo false) fun t17 =>
 Q t17 M_12

/-- rolodex/vline.value -/
def W_rolodex_vline_value (c_strings_CutPrefix : CallT) (c_strings_Cut : CallT) (c_rolodex_vline_goodValue : CallT) (c_strings_IndexAny : CallT) (a0 : AV) (M0 : RM) (Q : PostV) : Prop :=
 c_strings_CutPrefix [a0, (St [34])] M0 fun t10 M =>
 extW t10 0 fun t11 =>
 extW t10 1 fun t12 =>
 condW t12 (
 c_strings_Cut [t11, (St [34])] M fun t16 M_0 =>
 extW t16 0 fun t17 =>
 extW t16 1 fun t18 =>
 extW t16 2 fun t19 =>
 guardM t19 true (fun k => k t17 M_0) (fun k => k .undef M_0) fun t24 M_1 =>
 guardM t19 true (fun k_2 => c_rolodex_vline_goodValue [t24, (St [])] M_1 fun t25 M_3 =>
 k_2 t25 M_3) (fun k => k .undef M_1) fun t25_4 M_5 =>
 pickW t19 t25_4 (Bo false) fun t26 =>
 Q (.tup [t17, t18, t26]) M_5) (
 c_strings_IndexAny [a0, (St [44, 59, 58])] M fun t28 M_6 =>
 intW .lss t28 (N .i64 0) fun t30 =>
 condW t30 (
 Q (.tup [(St []), (St []), (Bo false)]) M_6) (
 getW (subStr a0 none (some t28)) fun t33 =>
 getW (subStr a0 (some t28) none) fun t36 =>
 getW (subStr a0 none (some t28)) fun t39 =>
 c_rolodex_vline_goodValue [t39, (St [34])] M_6 fun t40 M_7 =>
 getW (subStr a0 none (some t28)) fun t33_9 =>
 (t33_9 = t33 ∧ getW (subStr a0 (some t28) none) fun t36_8 =>
 (t36_8 = t36 ∧ Q (.tup [t33, t36, t40]) M_7))))

/-- internal/stringslite.Index -/
def W_internal_stringslite_Index (c_internal_stringslite_IndexByte : CallT) (x_internal_bytealg_IndexString : CallT) (c_internal_bytealg_Cutover : CallT) (c_internal_bytealg_IndexRabinKarp_string : CallT) (a0 a1 : AV) (M0 : RM) (Q : PostV) : Prop :=
 lenStr a1 fun t15 =>
 intW .eql t15 (N .i64 0) fun t18 =>
 guardM t18 false (fun k => k a1 M0) (fun k => k .undef M0) fun t20 M =>
 guardM t18 false (fun k_0 => k_0 a0 M) (fun k => k .undef M) fun t21 M_1 =>
 guardM t18 false (fun k_2 => strW .eql t20 t21 fun t22 =>
 k_2 t22 M_1) (fun k => k .undef M_1) fun t22_3 M_4 =>
 pickW t18 (Bo true) t22_3 fun t23 =>
 condW t23 (
 Q (N .i64 0) M_4) (
 intW .eql t15 (N .i64 1) fun t26 =>
 condW t26 (
 idxB a1 (N .i64 0) fun t29 =>
 c_internal_stringslite_IndexByte [a0, t29] M_4 fun t30 M_5 =>
 Q t30 M_5) (
 lenStr a0 fun t34 =>
 intW .geq t15 t34 fun t35 =>
 condW t35 (
 Q (N .i64 (-1)) M_4) (
 load1 M_4 .top fun t38 =>
 intW .leq t15 t38 fun t39 =>
 guardM t39 true (fun k_6 => k_6 a0 M_4) (fun k => k .undef M_4) fun t41 M_7 =>
 guardM t39 true (fun k_8 => lenStr t41 fun t42 =>
 k_8 t42 M_7) (fun k => k .undef M_7) fun t42_9 M_10 =>
 guardM t39 true (fun k_11 => intW .leq t42_9 (N .i64 64) fun t43 =>
 k_11 t43 M_10) (fun k => k .undef M_10) fun t43_12 M_13 =>
 pickW t39 t43_12 (Bo false) fun t44 =>
 condW t44 (
 x_internal_bytealg_IndexString [a0, a1] M_13 fun t47 M_14 =>
 Q t47 M_14) (
 idxB a1 (N .i64 0) fun t49 =>
 idxB a1 (N .i64 1) fun t51 =>
 lenStr a0 fun t53 =>
 intW .sub t53 t15 fun t55 =>
 intW .add t55 (N .i64 1) fun t56 =>
 loopW (fun next xs M_15 => -- [8, 10]
 intW .lss (nthD xs 0) t56 fun t59 =>
 condW t59 (
 joinW (fun J =>
 idxB a0 (nthD xs 0) fun t62 =>
 intW .neq t62 t49 fun t64 =>
 condW t64 (
 intW .add (nthD xs 0) (N .i64 1) fun t67 =>
 getW (subStr a0 (some t67) (some t56)) fun t69 =>
 c_internal_stringslite_IndexByte [t69, t49] M_15 fun t71 M_16 =>
 intW .lss t71 (N .i64 0) fun t73 =>
 condW t73 (
 Q (N .i64 (-1)) M_16) (
 intW .add t71 (N .i64 1) fun t76 =>
 intW .add (nthD xs 0) t76 fun t77 =>
 J [t77] M_16)) (
 J [(nthD xs 0)] M_15)) (fun xs_17 M_18 => -- [8]
 intW .add (nthD xs_17 0) (N .i64 1) fun t80 =>
 idxB a0 t80 fun t81 =>
 intW .eql t81 t51 fun t83 =>
 guardM t83 true (fun k_19 => k_19 a0 M_18) (fun k => k .undef M_18) fun t85 M_20 =>
 guardM t83 true (fun k_21 => k_21 (nthD xs_17 0) M_20) (fun k => k .undef M_20) fun t86 M_22 =>
 guardM t83 true (fun k_23 => k_23 (nthD xs_17 0) M_22) (fun k => k .undef M_22) fun t87 M_24 =>
 guardM t83 true (fun k_25 => k_25 t15 M_24) (fun k => k .undef M_24) fun t88 M_26 =>
 guardM t83 true (fun k_27 => intW .add t87 t88 fun t89 =>
 k_27 t89 M_26) (fun k => k .undef M_26) fun t89_28 M_29 =>
 guardM t83 true (fun k_30 => getW (subStr t85 (some t86) (some t89_28)) fun t90 =>
 k_30 t90 M_29) (fun k => k .undef M_29) fun t90_31 M_32 =>
 guardM t83 true (fun k_33 => k_33 a1 M_32) (fun k => k .undef M_32) fun t91 M_34 =>
 guardM t83 true (fun k_35 => strW .eql t90_31 t91 fun t92 =>
 k_35 t92 M_34) (fun k => k .undef M_34) fun t92_36 M_37 =>
 pickW t83 t92_36 (Bo false) fun t93 =>
 condW t93 (
 Q (nthD xs_17 0) M_37) (
 intW .add (nthD xs_17 0) (N .i64 1) fun t96 =>
 intW .add (nthD xs 1) (N .i64 1) fun t98 =>
 load1 M_37 .top fun t100 =>
 intW .leq t15 t100 fun t101 =>
 guardM t101 true (fun k_38 => k_38 t98 M_37) (fun k => k .undef M_37) fun t103 M_39 =>
 guardM t101 true (fun k_40 => k_40 t96 M_39) (fun k => k .undef M_39) fun t104 M_41 =>
 guardM t101 true (fun k_42 => c_internal_bytealg_Cutover [t104] M_41 fun t105 M_43 =>
 k_42 t105 M_43) (fun k => k .undef M_41) fun t105_44 M_45 =>
 guardM t101 true (fun k_46 => intW .gtr t103 t105_44 fun t106 =>
 k_46 t106 M_45) (fun k => k .undef M_45) fun t106_47 M_48 =>
 pickW t101 t106_47 (Bo false) fun t107 =>
 condW t107 (
 getW (subStr a0 (some t96) none) fun t110 =>
 x_internal_bytealg_IndexString [t110, a1] M_48 fun t112 M_49 =>
 intW .geq t112 (N .i64 0) fun t114 =>
 condW t114 (
 intW .add t112 t96 fun t117 =>
 Q t117 M_49) (
 Q (N .i64 (-1)) M_49)) (
 load1 M_48 .top fun t119 =>
 intW .gtr t15 t119 fun t120 =>
 guardM t120 true (fun k_50 => k_50 t98 M_48) (fun k => k .undef M_48) fun t122 M_51 =>
 guardM t120 true (fun k_52 => k_52 t96 M_51) (fun k => k .undef M_51) fun t123 M_53 =>
 guardM t120 true (fun k_54 => shW .shr t123 (N .u64 4) fun t124 =>
 k_54 t124 M_53) (fun k => k .undef M_53) fun t124_55 M_56 =>
 guardM t120 true (fun k_57 => intW .add (N .i64 4) t124_55 fun t125 =>
 k_57 t125 M_56) (fun k => k .undef M_56) fun t125_58 M_59 =>
 guardM t120 true (fun k_60 => intW .geq t122 t125_58 fun t126 =>
 k_60 t126 M_59) (fun k => k .undef M_59) fun t126_61 M_62 =>
 pickW t120 t126_61 (Bo false) fun t127 =>
 guardM t127 true (fun k_63 => k_63 t96 M_62) (fun k => k .undef M_62) fun t129 M_64 =>
 guardM t127 true (fun k_65 => k_65 t56 M_64) (fun k => k .undef M_64) fun t130 M_66 =>
 guardM t127 true (fun k_67 => intW .lss t129 t130 fun t131 =>
 k_67 t131 M_66) (fun k => k .undef M_66) fun t131_68 M_69 =>
 pickW t127 t131_68 (Bo false) fun t132 =>
 condW t132 (
 getW (subStr a0 (some t96) none) fun t135 =>
 c_internal_bytealg_IndexRabinKarp_string [t135, a1] M_69 fun t137 M_70 =>
 intW .lss t137 (N .i64 0) fun t139 =>
 condW t139 (
 Q (N .i64 (-1)) M_70) (
 intW .add t96 t137 fun t142 =>
 Q t142 M_70)) (
 next [t96, t98] M_69))))) (
 Q (N .i64 (-1)) M_15)) [(N .i64 0), (N .i64 0)] M_13))))

/-- internal/stringslite.HasSuffix -/
def W_internal_stringslite_HasSuffix (a0 a1 : AV) (M0 : RM) (Q : PostV) : Prop :=
 lenStr a0 fun t6 =>
 lenStr a1 fun t8 =>
 intW .geq t6 t8 fun t9 =>
 guardM t9 true (fun k => k a0 M0) (fun k => k .undef M0) fun t11 M =>
 guardM t9 true (fun k_0 => k_0 a0 M) (fun k => k .undef M) fun t12 M_1 =>
 guardM t9 true (fun k_2 => lenStr t12 fun t13 =>
 k_2 t13 M_1) (fun k => k .undef M_1) fun t13_3 M_4 =>
 guardM t9 true (fun k_5 => k_5 a1 M_4) (fun k => k .undef M_4) fun t14 M_6 =>
 guardM t9 true (fun k_7 => lenStr t14 fun t15 =>
 k_7 t15 M_6) (fun k => k .undef M_6) fun t15_8 M_9 =>
 guardM t9 true (fun k_10 => intW .sub t13_3 t15_8 fun t16 =>
 k_10 t16 M_9) (fun k => k .undef M_9) fun t16_11 M_12 =>
 guardM t9 true (fun k_13 => getW (subStr t11 (some t16_11) none) fun t17 =>
 k_13 t17 M_12) (fun k => k .undef M_12) fun t17_14 M_15 =>
 guardM t9 true (fun k_16 => k_16 a1 M_15) (fun k => k .undef M_15) fun t18 M_17 =>
 guardM t9 true (fun k_18 => strW .eql t17_14 t18 fun t19 =>
 k_18 t19 M_17) (fun k => k .undef M_17) fun t19_19 M_20 =>
 pickW t9 t19_19 (Bo false) fun t20 =>
 Q t20 M_20

/-- strings.IndexRune -/
def W_strings_IndexRune (c_strings_IndexByte : CallT) (c_unicode_utf8_ValidRune : CallT) (a0 a1 : AV) (M0 : RM) (Q : PostV) : Prop :=
 intW .leq (N .i32 0) a1 fun t162 =>
 guardM t162 true (fun k => k a1 M0) (fun k => k .undef M0) fun t164 M =>
 guardM t162 true (fun k_0 => intW .lss t164 (N .i32 128) fun t165 =>
 k_0 t165 M) (fun k => k .undef M) fun t165_1 M_2 =>
 pickW t162 t165_1 (Bo false) fun t166 =>
 condW t166 (
 cvtW .u8 a1 fun t169 =>
 c_strings_IndexByte [a0, t169] M_2 fun t170 M_3 =>
 Q t170 M_3) (
 intW .eql a1 (N .i32 65533) fun t173 =>
 condW t173 (
 siterW a0 fun r f =>
 newW r f M_2 fun t175 M_4 =>
 loopW (fun next xs M_5 => -- []
 snextW t175 M_5 fun t176 M_6 =>
 extW t176 0 fun t177 =>
 condW t177 (
 extW t176 1 fun t178 =>
 extW t176 2 fun t179 =>
 intW .eql t179 (N .i32 65533) fun t181 =>
 condW t181 (
 Q t178 M_6) (
 next [] M_6)) (
 Q (N .i64 (-1)) M_6)) [] M_4) (
 c_unicode_utf8_ValidRune [a1] M_2 fun t185 M_7 =>
 notW t185 fun t186 =>
 condW t186 (
 Q (N .i64 (-1)) M_7) (
 runeW a1 fun t18 =>
 lenStr t18 fun t20 =>
 intW .sub t20 (N .i64 1) fun t21 =>
 loopW (fun next_8 xs_9 M_10 => -- [9]
 lenStr a0 fun t25 =>
 intW .lss (nthD xs_9 0) t25 fun t26 =>
 condW t26 (
 joinW (fun J =>
 idxB a0 (nthD xs_9 0) fun t29 =>
 idxB t18 t21 fun t32 =>
 intW .neq t29 t32 fun t33 =>
 condW t33 (
 intW .add (nthD xs_9 0) (N .i64 1) fun t36 =>
 getW (subStr a0 (some t36) none) fun t37 =>
 idxB t18 t21 fun t40 =>
 c_strings_IndexByte [t37, t40] M_10 fun t41 M_11 =>
 intW .lss t41 (N .i64 0) fun t43 =>
 condW t43 (
 Q (N .i64 (-1)) M_11) (
 intW .add t41 (N .i64 1) fun t46 =>
 intW .add (nthD xs_9 0) t46 fun t47 =>
 J [t47] M_11)) (
 J [(nthD xs_9 0)] M_10)) (fun xs_12 M_13 => -- [9]
 loopW (fun next_14 xs_15 M_16 => -- [12]
 lenStr t18 fun t50 =>
 intW .lss (nthD xs_15 0) t50 fun t51 =>
 condW t51 (
 intW .sub (nthD xs_12 0) (nthD xs_15 0) fun t57 =>
 idxB a0 t57 fun t58 =>
 intW .sub t21 (nthD xs_15 0) fun t62 =>
 idxB t18 t62 fun t63 =>
 intW .neq t58 t63 fun t64 =>
 condW t64 (
 False) (
 intW .add (nthD xs_15 0) (N .i64 1) fun t53 =>
 next_14 [t53] M_16)) (
 intW .sub (nthD xs_12 0) t21 fun t67 =>
 Q t67 M_16)) [(N .i64 1)] M_13)) (
 Q (N .i64 (-1)) M_10)) [t21] M_7)))

/-- strings.shouldUseASCIISet -/
def W_strings_shouldUseASCIISet (a0 : AV) (M0 : RM) (Q : PostV) : Prop :=
 intW .gtr a0 (N .i64 8) fun t4 =>
 Q t4 M0

/-- strings.CutPrefix -/
def W_strings_CutPrefix (c_internal_stringslite_CutPrefix : CallT) (a0 a1 : AV) (M0 : RM) (Q : PostV) : Prop :=
 c_internal_stringslite_CutPrefix [a0, a1] M0 fun t8 M =>
 extW t8 0 fun t9 =>
 extW t8 1 fun t10 =>
 Q (.tup [t9, t10]) M

/-- unicode/utf8.ValidRune -/
def W_unicode_utf8_ValidRune (a0 : AV) (M0 : RM) (Q : PostV) : Prop :=
 intW .leq (N .i32 0) a0 fun t5 =>
 guardM t5 true (fun k => k a0 M0) (fun k => k .undef M0) fun t7 M =>
 guardM t5 true (fun k_0 => intW .lss t7 (N .i32 55296) fun t8 =>
 k_0 t8 M) (fun k => k .undef M) fun t8_1 M_2 =>
 pickW t5 t8_1 (Bo false) fun t9 =>
 condW t9 (
 Q (Bo true) M_2) (
 intW .lss (N .i32 57343) a0 fun t12 =>
 guardM t12 true (fun k_3 => k_3 a0 M_2) (fun k => k .undef M_2) fun t14 M_4 =>
 guardM t12 true (fun k_5 => intW .leq t14 (N .i32 1114111) fun t15 =>
 k_5 t15 M_4) (fun k => k .undef M_4) fun t15_6 M_7 =>
 pickW t12 t15_6 (Bo false) fun t16 =>
 condW t16 (
 Q (Bo true) M_7) (
 Q (Bo false) M_7))

/-- internal/stringslite.CutPrefix -/
def W_internal_stringslite_CutPrefix (c_internal_stringslite_HasPrefix : CallT) (a0 a1 : AV) (M0 : RM) (Q : PostV) : Prop :=
 c_internal_stringslite_HasPrefix [a0, a1] M0 fun t8 M =>
 notW t8 fun t9 =>
 condW t9 (
 Q (.tup [a0, (Bo false)]) M) (
 lenStr a1 fun t13 =>
 getW (subStr a0 (some t13) none) fun t14 =>
 Q (.tup [t14, (Bo true)]) M)

end Go.Ab.Vl
/- Plain lemmas on the predicates, for values whose form is known. By an AI agent. -/
set_option linter.unusedVariables false
set_option linter.unusedSimpArgs false
namespace Go.Ab
open Go Go.RowKit

/-- The cell at a place. -/
def RM.cell (M : RM) (b o : Nat) : Option AV := (M.cells b).bind (·[o]?)

section
variable {M M' : RM} {K : AV → Prop} {KQ : PostV}

theorem loads_cell {b o : Nat} {v : AV} : M.loads b o 1 = some [v] ↔ M.cell b o = some v := by
  unfold RM.loads RM.cell
  cases hc : M.cells b with
  | none => simp
  | some l =>
    simp only [Option.bind_some]
    constructor
    · intro h
      split at h
      · rename_i hlt
        have h1 := Option.some.inj h
        have : ((l.drop o).take 1)[0]? = some v := by rw [h1]; rfl
        rw [List.getElem?_take, if_pos (by omega), List.getElem?_drop] at this
        simpa using this
      · cases h
    · intro h
      have hlt := (List.getElem?_eq_some_iff.1 h).1
      rw [if_pos (by omega)]
      congr 1
      rw [List.drop_eq_getElem_cons hlt]
      simp only [List.take_succ_cons, List.take_zero]
      congr 1
      exact (List.getElem?_eq_some_iff.1 h).2

@[go_sem] theorem load1_ptr (b o : Nat) : load1 M (.ptr b o) K = ∃ v, M.cell b o = some v ∧ K v := by
  apply propext; unfold load1
  constructor
  · rintro ⟨b', o', v, h, hl, hk⟩; cases h; exact ⟨v, loads_cell.1 hl, hk⟩
  · rintro ⟨v, hl, hk⟩; exact ⟨b, o, v, rfl, loads_cell.2 hl, hk⟩
@[go_sem] theorem loadN_ptr (b o n : Nat) : loadN M (.ptr b o) n K = ∃ vs, M.loads b o n = some vs ∧ K (.agg vs) := by
  apply propext; unfold loadN
  constructor
  · rintro ⟨b', o', v, h, hl, hk⟩; cases h; exact ⟨v, hl, hk⟩
  · rintro ⟨v, hl, hk⟩; exact ⟨b, o, v, rfl, hl, hk⟩
@[go_sem] theorem storeW_ptr (b p : Nat) (x : AV) (n : Nat) (K : RM → Prop) : storeW M (.ptr b p) x n K = (x.cells.length = n ∧ ∃ M', M.stores b p x.cells = some M' ∧ K M') := by
  apply propext; unfold storeW
  constructor
  · rintro ⟨b', o', M', h, h1, h2, hk⟩; cases h; exact ⟨h1, M', h2, hk⟩
  · rintro ⟨h1, M', h2, hk⟩; exact ⟨b, p, M', rfl, h1, h2, hk⟩

/-! ### integers -/
def andI (k : IntKind) (a b : Int) : Int := k.wrap (BitVec.ofInt k.bits a &&& BitVec.ofInt k.bits b).toNat
def orI (k : IntKind) (a b : Int) : Int := k.wrap (BitVec.ofInt k.bits a ||| BitVec.ofInt k.bits b).toNat
def xorI (k : IntKind) (a b : Int) : Int := k.wrap (BitVec.ofInt k.bits a ^^^ BitVec.ofInt k.bits b).toNat
def andNotI (k : IntKind) (a b : Int) : Int := k.wrap (BitVec.ofInt k.bits a &&& ~~~BitVec.ofInt k.bits b).toNat
def shlI (k : IntKind) (a b : Int) : Int := k.wrap (a * 2 ^ (min b.toNat k.bits))
def shrI (k : IntKind) (a b : Int) : Int := a.fdiv (2 ^ (min b.toNat k.bits))
section
variable (k : IntKind) (a b : Int)
theorem intW_some {op : BinOp} {v : Value} (h : intBin op k a b = some v) : intW op (N k a) (N k b) K = K (.sc v) := by
  apply propext; unfold intW
  constructor
  · rintro ⟨k', a', b', u, h1, h2, h3, hk⟩; cases h1; cases h2; rw [h] at h3; cases h3; exact hk
  · intro hk; exact ⟨k, a, b, v, rfl, rfl, h, hk⟩
@[go_sem] theorem intW_add : intW .add (N k a) (N k b) K = K (N k (k.wrap (a + b))) := intW_some k a b rfl
@[go_sem] theorem intW_sub : intW .sub (N k a) (N k b) K = K (N k (k.wrap (a - b))) := intW_some k a b rfl
@[go_sem] theorem intW_mul : intW .mul (N k a) (N k b) K = K (N k (k.wrap (a * b))) := intW_some k a b rfl
@[go_sem] theorem intW_and : intW .and (N k a) (N k b) K = K (N k (andI k a b)) := intW_some k a b rfl
@[go_sem] theorem intW_or : intW .or (N k a) (N k b) K = K (N k (orI k a b)) := intW_some k a b rfl
@[go_sem] theorem intW_xor : intW .xor (N k a) (N k b) K = K (N k (xorI k a b)) := intW_some k a b rfl
@[go_sem] theorem intW_andNot : intW .andNot (N k a) (N k b) K = K (N k (andNotI k a b)) := intW_some k a b rfl
@[go_sem] theorem intW_eql : intW .eql (N k a) (N k b) K = K (Bo (a == b)) := intW_some k a b rfl
@[go_sem] theorem intW_neq : intW .neq (N k a) (N k b) K = K (Bo (a != b)) := intW_some k a b rfl
@[go_sem] theorem intW_lss : intW .lss (N k a) (N k b) K = K (Bo (decide (a < b))) := intW_some k a b rfl
@[go_sem] theorem intW_leq : intW .leq (N k a) (N k b) K = K (Bo (decide (a ≤ b))) := intW_some k a b rfl
@[go_sem] theorem intW_gtr : intW .gtr (N k a) (N k b) K = K (Bo (decide (a > b))) := intW_some k a b rfl
@[go_sem] theorem intW_geq : intW .geq (N k a) (N k b) K = K (Bo (decide (a ≥ b))) := intW_some k a b rfl
@[go_sem] theorem intW_quo : intW .quo (N k a) (N k b) K = (b ≠ 0 ∧ K (N k (k.wrap (a.tdiv b)))) := by
  apply propext; unfold intW intBin
  constructor
  · rintro ⟨k', a', b', u, h1, h2, h3, hk⟩; cases h1; cases h2
    simp only at h3
    split at h3
    · cases h3
    · cases h3; exact ⟨‹_›, hk⟩
  · rintro ⟨h0, hk⟩; exact ⟨k, a, b, _, rfl, rfl, by simp only [if_neg h0], hk⟩
@[go_sem] theorem intW_rem : intW .rem (N k a) (N k b) K = (b ≠ 0 ∧ K (N k (a.tmod b))) := by
  apply propext; unfold intW intBin
  constructor
  · rintro ⟨k', a', b', u, h1, h2, h3, hk⟩; cases h1; cases h2
    simp only at h3
    split at h3
    · cases h3
    · cases h3; exact ⟨‹_›, hk⟩
  · rintro ⟨h0, hk⟩; exact ⟨k, a, b, _, rfl, rfl, by simp only [if_neg h0], hk⟩
variable (l : IntKind)
@[go_sem] theorem shW_shl : shW .shl (N k a) (N l b) K = (0 ≤ b ∧ K (N k (shlI k a b))) := by
  apply propext; unfold shW intSh
  constructor
  · rintro ⟨k', a', l', b', u, h1, h2, h3, hk⟩; cases h1; cases h2
    split at h3
    · cases h3
    · cases h3; exact ⟨by omega, hk⟩
  · rintro ⟨h0, hk⟩; exact ⟨k, a, l, b, _, rfl, rfl, by rw [if_neg (by omega)]; rfl, hk⟩
@[go_sem] theorem shW_shr : shW .shr (N k a) (N l b) K = (0 ≤ b ∧ K (N k (shrI k a b))) := by
  apply propext; unfold shW intSh
  constructor
  · rintro ⟨k', a', l', b', u, h1, h2, h3, hk⟩; cases h1; cases h2
    split at h3
    · cases h3
    · cases h3; exact ⟨by omega, hk⟩
  · rintro ⟨h0, hk⟩; exact ⟨k, a, l, b, _, rfl, rfl, by rw [if_neg (by omega)]; rfl, hk⟩
@[go_sem] theorem runeW_N {l : IntKind} {a : Int} {K : AV → Prop} : runeW (N l a) K = K (St (Utf8.encode a).data.toList) := by
  apply propext; unfold runeW
  constructor
  · rintro ⟨l', n, h, hk⟩; cases h; exact hk
  · intro h; exact ⟨_, _, rfl, h⟩
@[go_sem] theorem cvtW_N : cvtW k (N l a) K = K (N k (k.wrap a)) := by
  apply propext; unfold cvtW
  constructor
  · rintro ⟨l', n, h, hk⟩; cases h; exact hk
  · intro hk; exact ⟨l, a, rfl, hk⟩
@[go_sem] theorem minW_N (mx : Bool) : minW mx (N k a) (N k b) K = K (N k (if mx then (if b > a then b else a) else (if b < a then b else a))) := by
  apply propext; unfold minW
  constructor
  · rintro ⟨k', a', b', h1, h2, hk⟩; cases h1; cases h2; exact hk
  · intro hk; exact ⟨k, a, b, rfl, rfl, hk⟩
@[go_sem] theorem negW_N : negW (N k a) K = K (N k (k.wrap (0 - a))) := by
  apply propext; unfold negW
  constructor
  · rintro ⟨k', a', h1, hk⟩; cases h1; exact hk
  · intro hk; exact ⟨k, a, rfl, hk⟩
end

@[go_sem] theorem notW_Bo (b : Bool) : notW (Bo b) K = K (Bo (!b)) := by
  apply propext; unfold notW
  constructor
  · rintro ⟨b', h, hk⟩; cases h; exact hk
  · intro hk; exact ⟨b, rfl, hk⟩
@[go_sem] theorem boolEqW_Bo (neg a b : Bool) : boolEqW neg (Bo a) (Bo b) K = K (Bo ((a == b) != neg)) := by
  apply propext; unfold boolEqW
  constructor
  · rintro ⟨a', b', h, h', hk⟩; cases h; cases h'; exact hk
  · intro hk; exact ⟨a, b, rfl, rfl, hk⟩
@[go_sem] theorem pickW_Bo (t : Bool) (a b : AV) : pickW (Bo t) a b K = K (if t then a else b) := by
  apply propext; unfold pickW
  constructor
  · rintro ⟨t', h, hk⟩; cases h; exact hk
  · intro hk; exact ⟨t, rfl, hk⟩
@[go_sem] theorem condW_Bo (b : Bool) (p q : Prop) : condW (Bo b) p q = ((b = true → p) ∧ (b = false → q)) := rfl
@[go_sem] theorem guardW_Bo {α : Type} (b want : Bool) (f g : α → Prop) (k : α) : guardW (Bo b) want f g k = if b = want then f k else g k := rfl
@[go_sem] theorem guardW_undef {α : Type} (want : Bool) (f g : α → Prop) (k : α) : guardW .undef want f g k = g k := rfl

/-! ### places -/
@[go_sem] theorem ptrW_ptr (b o : Nat) : ptrW (.ptr b o) K = K (.ptr b o) := by
  apply propext; unfold ptrW
  constructor
  · rintro ⟨b', o', h, hk⟩; cases h; exact hk
  · intro hk; exact ⟨b, o, rfl, hk⟩
@[go_sem] theorem fldW_ptr (b o n : Nat) : fldW (.ptr b o) n K = K (.ptr b (o + n)) := by
  apply propext; unfold fldW
  constructor
  · rintro ⟨b', o', h, hk⟩; cases h; exact hk
  · intro hk; exact ⟨b, o, rfl, hk⟩
@[go_sem] theorem idxS_slc (b p len : Nat) (cap : Cap) (k : IntKind) (n : Int) (size : Nat) : idxS (.slc b p len cap) (N k n) size K = (0 ≤ n ∧ n < len ∧ K (.ptr b (p + n.toNat * size))) := by
  apply propext; unfold idxS
  constructor
  · rintro ⟨b', p', l', c', k', n', h, h', h0, h1, hk⟩; cases h; cases h'; exact ⟨h0, h1, hk⟩
  · rintro ⟨h0, h1, hk⟩; exact ⟨b, p, len, cap, k, n, rfl, rfl, h0, h1, hk⟩
@[go_sem] theorem idxA_ptr (b p : Nat) (k : IntKind) (n : Int) (len size : Nat) : idxA (.ptr b p) (N k n) len size K = (0 ≤ n ∧ n < len ∧ K (.ptr b (p + n.toNat * size))) := by
  apply propext; unfold idxA
  constructor
  · rintro ⟨b', p', k', n', h, h', h0, h1, hk⟩; cases h; cases h'; exact ⟨h0, h1, hk⟩
  · rintro ⟨h0, h1, hk⟩; exact ⟨b, p, k, n, rfl, rfl, h0, h1, hk⟩
@[go_sem] theorem part1_agg (cs : List AV) (off : Nat) : part1 (.agg cs) off K = ∃ v, cs[off]? = some v ∧ K v := by
  apply propext; unfold part1
  constructor
  · rintro ⟨cs', v, h, h1, hk⟩; cases h; exact ⟨v, h1, hk⟩
  · rintro ⟨v, h1, hk⟩; exact ⟨cs, v, rfl, h1, hk⟩
@[go_sem] theorem partN_agg (cs : List AV) (off n : Nat) : partN (.agg cs) off n K = (off + n ≤ cs.length ∧ K (.agg ((cs.drop off).take n))) := by
  apply propext; unfold partN
  constructor
  · rintro ⟨cs', h, h1, hk⟩; cases h; exact ⟨h1, hk⟩
  · rintro ⟨h1, hk⟩; exact ⟨cs, rfl, h1, hk⟩
@[go_sem] theorem idxP1_agg (cs : List AV) (k : IntKind) (n : Int) (len : Nat) : idxP1 (.agg cs) (N k n) len K = (0 ≤ n ∧ n < len ∧ ∃ v, cs[n.toNat]? = some v ∧ K v) := by
  apply propext; unfold idxP1
  constructor
  · rintro ⟨cs', k', n', v, h, h', h0, h1, h2, hk⟩; cases h; cases h'; exact ⟨h0, h1, v, h2, hk⟩
  · rintro ⟨h0, h1, v, h2, hk⟩; exact ⟨cs, k, n, v, rfl, rfl, h0, h1, h2, hk⟩
@[go_sem] theorem idxPN_agg (cs : List AV) (k : IntKind) (n : Int) (len size : Nat) : idxPN (.agg cs) (N k n) len size K = (0 ≤ n ∧ n < len ∧ n.toNat * size + size ≤ cs.length ∧ K (.agg ((cs.drop (n.toNat * size)).take size))) := by
  apply propext; unfold idxPN
  constructor
  · rintro ⟨cs', k', n', h, h', h0, h1, h2, hk⟩; cases h; cases h'; exact ⟨h0, h1, h2, hk⟩
  · rintro ⟨h0, h1, h2, hk⟩; exact ⟨cs, k, n, rfl, rfl, h0, h1, h2, hk⟩
@[go_sem] theorem idxB_St (s : List UInt8) (k : IntKind) (n : Int) : idxB (St s) (N k n) K = (0 ≤ n ∧ ∃ b, s[n.toNat]? = some b ∧ K (N .u8 b.toNat)) := by
  apply propext; unfold idxB
  constructor
  · rintro ⟨s', k', n', b, h, h', h0, h1, hk⟩; cases h; cases h'; exact ⟨h0, b, h1, hk⟩
  · rintro ⟨h0, b, h1, hk⟩; exact ⟨s, k, n, b, rfl, rfl, h0, h1, hk⟩
@[go_sem] theorem extW_tup (vs : List AV) (i : Nat) : extW (.tup vs) i K = ∃ v, vs[i]? = some v ∧ K v := by
  apply propext; unfold extW
  constructor
  · rintro ⟨cs', v, h, h1, hk⟩; cases h; exact ⟨v, h1, hk⟩
  · rintro ⟨v, h1, hk⟩; exact ⟨vs, v, rfl, h1, hk⟩
@[go_sem] theorem getW_some (v : AV) : getW (some v) K = K v := by
  apply propext; unfold getW
  constructor
  · rintro ⟨v', h, hk⟩; cases h; exact hk
  · intro hk; exact ⟨v, rfl, hk⟩
@[go_sem] theorem lenW_slc (b o n : Nat) (c : Cap) : lenW (.slc b o n c) K = K (N .i64 n) := by
  apply propext; unfold lenW
  constructor
  · rintro ⟨n', h, hk⟩; cases h; exact hk
  · intro hk; exact ⟨n, rfl, hk⟩
@[go_sem] theorem lenW_emp (b : Nat) : lenW (.emp b) K = K (N .i64 0) := by
  apply propext; unfold lenW
  constructor
  · rintro ⟨n', h, hk⟩; cases h; exact hk
  · intro hk; exact ⟨0, rfl, hk⟩
@[go_sem] theorem lenW_nil : lenW (.sc (.slice none 0 0)) K = K (N .i64 0) := by
  apply propext; unfold lenW
  constructor
  · rintro ⟨n', h, hk⟩; cases h; exact hk
  · intro hk; exact ⟨0, rfl, hk⟩
@[go_sem] theorem lenStr_St (s : List UInt8) : lenStr (St s) K = K (N .i64 s.length) := by
  apply propext; unfold lenStr
  constructor
  · rintro ⟨s', h, hk⟩; cases h; exact hk
  · intro hk; exact ⟨s, rfl, hk⟩
@[go_sem] theorem capW_ex (b o n c : Nat) : capW (.slc b o n (.ex c)) K = K (N .i64 c) := by
  apply propext; unfold capW
  constructor
  · rintro ⟨n', h, hk⟩; cases h; exact hk
  · intro hk; exact ⟨c, rfl, hk⟩
@[go_sem] theorem capW_nil : capW (.sc (.slice none 0 0)) K = K (N .i64 0) := by
  apply propext; unfold capW
  constructor
  · rintro ⟨n', h, hk⟩; cases h; exact hk
  · intro hk; exact ⟨0, rfl, hk⟩
@[go_sem] theorem isStr_St (s : List UInt8) : isStr (St s) K = K (St s) := by
  apply propext; unfold isStr
  constructor
  · rintro ⟨s', h, hk⟩; cases h; exact hk
  · intro hk; exact ⟨s, rfl, hk⟩
@[go_sem] theorem strOfW_some {x : AV} {s : List UInt8} (h : toStr M x = some s) : strOfW M x K = K (St s) := by
  apply propext; unfold strOfW
  constructor
  · rintro ⟨s', h', hk⟩; rw [h] at h'; cases h'; exact hk
  · intro hk; exact ⟨s, h, hk⟩
theorem strW_some {op : BinOp} {a b : List UInt8} {v : AV} (h : strOp op a b = some v) : strW op (St a) (St b) K = K v := by
  apply propext; unfold strW
  constructor
  · rintro ⟨a', b', u, h1, h2, h3, hk⟩; cases h1; cases h2; rw [h] at h3; cases h3; exact hk
  · intro hk; exact ⟨a, b, v, rfl, rfl, h, hk⟩
@[go_sem] theorem strW_eql (a b : List UInt8) : strW .eql (St a) (St b) K = K (Bo (a == b)) := by rw [← bytesEq_iff]; exact strW_some rfl
@[go_sem] theorem strW_neq (a b : List UInt8) : strW .neq (St a) (St b) K = K (Bo (a != b)) := by rw [bne, ← bytesEq_iff]; exact strW_some rfl
@[go_sem] theorem strW_lss (a b : List UInt8) : strW .lss (St a) (St b) K = K (Bo (Op.bytesLess a b)) := strW_some rfl
@[go_sem] theorem strW_leq (a b : List UInt8) : strW .leq (St a) (St b) K = K (Bo (Op.bytesLess a b || a == b)) := by rw [← bytesEq_iff]; exact strW_some rfl
@[go_sem] theorem strW_gtr (a b : List UInt8) : strW .gtr (St a) (St b) K = K (Bo (!(Op.bytesLess a b || a == b))) := by rw [← bytesEq_iff]; exact strW_some rfl
@[go_sem] theorem strW_geq (a b : List UInt8) : strW .geq (St a) (St b) K = K (Bo (!Op.bytesLess a b)) := strW_some rfl
@[go_sem] theorem strW_add (a b : List UInt8) : strW .add (St a) (St b) K = (a.length + b.length ≤ 9223372036854775807 ∧ K (St (a ++ b))) := by
  apply propext; unfold strW
  constructor
  · rintro ⟨a', b', u, h1, h2, h3, hk⟩; cases h1; cases h2
    simp only [strOp] at h3
    split at h3
    · rename_i hb; cases h3; exact ⟨ble_t hb, hk⟩
    · cases h3
  · rintro ⟨h0, hk⟩; exact ⟨a, b, _, rfl, rfl, by simp only [strOp, ble_iff.2 h0], hk⟩
theorem refEqW_some {neg : Bool} {tag : Nat} {x y : AV} {r : Bool} (ht : tagOf x = tag) (h : refEq x y = some r) : refEqW neg tag x y K = K (Bo (r != neg)) := by
  apply propext; unfold refEqW
  constructor
  · rintro ⟨_, r', h', hk⟩; rw [h] at h'; cases h'; exact hk
  · intro hk; exact ⟨ht, r, h, hk⟩
@[go_sem] theorem refEqW_nil_nil (neg : Bool) : refEqW neg 2 (.sc (.slice none 0 0)) (.sc (.slice none 0 0)) K = K (Bo (!neg)) := (refEqW_some (tag := 2) (r := true) rfl rfl).trans (by cases neg <;> rfl)
@[go_sem] theorem refEqW_emp_nil (neg : Bool) (b : Nat) : refEqW neg 2 (.emp b) (.sc (.slice none 0 0)) K = K (Bo neg) := (refEqW_some (tag := 2) (r := false) rfl rfl).trans (by cases neg <;> rfl)
@[go_sem] theorem refEqW_slc_nil (neg : Bool) (b o n : Nat) (c : Cap) : refEqW neg 2 (.slc b o n c) (.sc (.slice none 0 0)) K = K (Bo neg) := (refEqW_some (tag := 2) (r := false) rfl rfl).trans (by cases neg <;> rfl)
@[go_sem] theorem refEqW_ptr_nil (neg : Bool) (b o : Nat) : refEqW neg 1 (.ptr b o) (.sc (.pointer none)) K = K (Bo neg) := (refEqW_some (tag := 1) (r := false) rfl rfl).trans (by cases neg <;> rfl)
@[go_sem] theorem refEqW_nilp_nil (neg : Bool) : refEqW neg 1 (.sc (.pointer none)) (.sc (.pointer none)) K = K (Bo (!neg)) := (refEqW_some (tag := 1) (r := true) rfl rfl).trans (by cases neg <;> rfl)
@[go_sem] theorem refEqW_map_nil (neg : Bool) (b : Nat) : refEqW neg 3 (.map b) (.sc (.map none)) K = K (Bo neg) := (refEqW_some (tag := 3) (r := false) rfl rfl).trans (by cases neg <;> rfl)
@[go_sem] theorem refEqW_fn_nil (neg : Bool) (f : Fn) (xs ys : List AV) : refEqW neg 4 (.fn f xs ys) (.sc .nilFunc) K = K (Bo neg) := (refEqW_some (tag := 4) (r := false) rfl rfl).trans (by cases neg <;> rfl)
@[go_sem] theorem aggEqW_agg (neg : Bool) (ks : List Nat) (cs ds : List AV) : aggEqW neg ks (.agg cs) (.agg ds) K = (cs.length = ks.length ∧ ds.length = ks.length ∧ ∃ r, flatEq ks cs ds = some r ∧ K (Bo (r != neg))) := by
  apply propext; unfold aggEqW
  constructor
  · rintro ⟨a', b', r, h1, h2, h3, h4, h5, hk⟩; cases h1; cases h2; exact ⟨h3, h4, r, h5, hk⟩
  · rintro ⟨h3, h4, r, h5, hk⟩; exact ⟨cs, ds, r, rfl, rfl, h3, h4, h5, hk⟩
@[go_sem] theorem callV_fn (C : FuncId → CallT) (g : FuncId) (first cap args : List AV) : callV C (.fn (.func g) first cap) args M KQ = C g (first ++ args ++ cap) M KQ := by
  apply propext; unfold callV
  constructor
  · rintro ⟨g', f', c', h, hk⟩; cases h; exact hk
  · intro hk; exact ⟨g, first, cap, rfl, hk⟩
@[go_sem] theorem buildW_eq (cs : List AV) (parts : List (Nat × Nat × AV)) : buildW cs parts K = ∃ cs', fillL cs parts = some cs' ∧ K (.agg cs') := rfl
@[go_sem] theorem newW_eq (x : RB) (mk : Nat → AV) : newW x mk M KQ = KQ (mk M.next) (M.push x) := rfl
@[go_sem] theorem newR_eq (x : RB) (mk : Nat → AV) (k : KR) : newR x mk M k = k (mk M.next) (M.push x) (some M.next) := rfl
@[go_sem] theorem joinW_eq (f : (List AV → RM → Prop) → Prop) (g : List AV → RM → Prop) : joinW f g = f g := rfl
@[go_sem] theorem nthD_zero (x : AV) (xs : List AV) : nthD (x :: xs) 0 = x := rfl
@[go_sem] theorem nthD_succ (x : AV) (xs : List AV) (n : Nat) : nthD (x :: xs) (n + 1) = nthD xs n := rfl
@[go_sem] theorem sameB_some (b : Nat) (x : RB) (mk : Nat → AV) (v : AV) : sameB (some b) M x mk v = (M.heap b = some x ∧ mk b = v) := rfl
end

/-- A loop by an invariant and a measure. -/
theorem loopW_inv {body : (List AV → RM → Prop) → List AV → RM → Prop} {xs : List AV} {M : RM} (I : Nat → List AV → RM → Prop) (n : Nat) (h0 : I n xs M)
    (hb : ∀ m ys M', I m ys M' → body (fun zs M'' => ∃ m', m' < m ∧ I m' zs M'') ys M') : loopW body xs M := ⟨I, n, h0, hb⟩

/-! ### memory -/
section
variable {M M' : RM}
theorem RM.cells_row {b : Nat} {l : List AV} {opn : Bool} {el fz : Nat} (h : M.heap b = some (.row l opn el fz)) : M.cells b = some l := by simp [RM.cells, h]
theorem RM.cell_row {b o : Nat} {l : List AV} {opn : Bool} {el fz : Nat} (h : M.heap b = some (.row l opn el fz)) : M.cell b o = l[o]? := by simp [RM.cell, RM.cells_row h]
theorem RM.loads_row {b o k : Nat} {l : List AV} {opn : Bool} {el fz : Nat} (h : M.heap b = some (.row l opn el fz)) (hk : o + k ≤ l.length) : M.loads b o k = some ((l.drop o).take k) := by
  simp [RM.loads, RM.cells_row h, hk]
theorem RM.stores_row {b o : Nat} {l vs : List AV} {opn : Bool} {el fz : Nat} (h : M.heap b = some (.row l opn el fz)) (h1 : o + vs.length ≤ l.length) (h2 : fz ≤ o) (h3 : vs.all oneCell = true) :
    M.stores b o vs = some (M.put b (.row (l.take o ++ vs ++ l.drop (o + vs.length)) opn el fz)) := by
  simp only [RM.stores, h]
  rw [if_pos ⟨h1, h2, h3⟩]

/-- All blocks but some are as they were. -/
structure Keep (bs : List Nat) (M M' : RM) : Prop where
  base : M'.base = M.base
  next : M.next ≤ M'.next
  heap : ∀ c, c < M.next → c ∉ bs → M'.heap c = M.heap c

theorem Keep.refl (bs : List Nat) (M : RM) : Keep bs M M := ⟨rfl, Nat.le_refl _, fun _ _ _ => rfl⟩
theorem Keep.trans {bs : List Nat} {M1 M2 : RM} (h : Keep bs M M1) (k : Keep bs M1 M2) : Keep bs M M2 :=
  ⟨k.base.trans h.base, Nat.le_trans h.next k.next, fun c hc hb => (k.heap c (Nat.lt_of_lt_of_le hc h.next) hb).trans (h.heap c hc hb)⟩
theorem Keep.push {bs : List Nat} (h : Keep bs M M') (x : RB) : Keep bs M (M'.push x) :=
  ⟨h.base, Nat.le_succ_of_le h.next, fun c hc hb => by
    have := h.next
    simp only [RM.push]; rw [if_neg (by omega)]; exact h.heap c hc hb⟩
theorem Keep.put {bs : List Nat} (h : Keep bs M M') {b : Nat} (x : RB) (hb : M.next ≤ b ∨ b ∈ bs) : Keep bs M (M'.put b x) :=
  ⟨h.base, h.next, fun c hc hcb => by
    simp only [RM.put]; rw [if_neg]
    · exact h.heap c hc hcb
    · rintro rfl; rcases hb with hb | hb
      · omega
      · exact hcb hb⟩
theorem Keep.del {bs : List Nat} (h : Keep bs M M') {b : Nat} (hb : M.next ≤ b ∨ b ∈ bs) : Keep bs M (M'.del b) :=
  ⟨h.base, h.next, fun c hc hcb => by
    simp only [RM.del]; rw [if_neg]
    · exact h.heap c hc hcb
    · rintro rfl; rcases hb with hb | hb
      · omega
      · exact hcb hb⟩
theorem Keep.mono {bs cs : List Nat} (h : Keep bs M M') (hs : ∀ b ∈ bs, b ∈ cs) : Keep cs M M' := ⟨h.base, h.next, fun c hc hb => h.heap c hc fun h => hb (hs c h)⟩
/-- Blocks that were made since then may change. -/
theorem Keep.then_new {bs : List Nat} {M1 M2 : RM} {cs : List Nat} (h : Keep bs M M1) (k : Keep cs M1 M2) (hn : ∀ c ∈ cs, M.next ≤ c ∨ c ∈ bs) : Keep bs M M2 :=
  ⟨k.base.trans h.base, Nat.le_trans h.next k.next, fun c hc hb => by
    rw [k.heap c (Nat.lt_of_lt_of_le hc h.next) (fun hm => by rcases hn c hm with h1 | h1; omega; exact hb h1), h.heap c hc hb]⟩
theorem Keep.cells {bs : List Nat} (h : Keep bs M M') {b : Nat} (hlt : b < M.next) (hb : b ∉ bs) : M'.cells b = M.cells b := by
  simp only [RM.cells, h.heap b hlt hb, RM.lo, h.base]
theorem Keep.cell {bs : List Nat} (h : Keep bs M M') {b o : Nat} (hlt : b < M.next) (hb : b ∉ bs) : M'.cell b o = M.cell b o := by
  simp only [RM.cell, h.cells hlt hb]
theorem Keep.loads {bs : List Nat} (h : Keep bs M M') {b o k : Nat} (hlt : b < M.next) (hb : b ∉ bs) : M'.loads b o k = M.loads b o k := by
  simp only [RM.loads, h.cells hlt hb]

@[go_sem] theorem RM.push_next (x : RB) : (M.push x).next = M.next + 1 := rfl
@[go_sem] theorem RM.put_next (b : Nat) (x : RB) : (M.put b x).next = M.next := rfl
@[go_sem] theorem RM.del_next (b : Nat) : (M.del b).next = M.next := rfl
@[go_sem] theorem RM.push_new (x : RB) : (M.push x).heap M.next = some x := by simp [RM.push]
theorem RM.push_old {x : RB} {c : Nat} (h : c ≠ M.next) : (M.push x).heap c = M.heap c := by simp [RM.push, h]
theorem RM.push_lt {x : RB} {c : Nat} (h : c < M.next) : (M.push x).heap c = M.heap c := RM.push_old (by omega)
@[go_sem] theorem RM.put_same (b : Nat) (x : RB) : (M.put b x).heap b = some x := by simp [RM.put]
theorem RM.put_other {b c : Nat} {x : RB} (h : c ≠ b) : (M.put b x).heap c = M.heap c := by simp [RM.put, h]
end
end Go.Ab
/- Slices that are read, and slices that are one's own. By an AI agent. -/
set_option linter.unusedVariables false
set_option linter.unusedSimpArgs false
namespace Go.Ab
open Go Go.RowKit

abbrev nilS : AV := .sc (.slice none 0 0)

/-- A slice of n elements whose cells are cs. -/
inductive SlR (M : RM) (size : Nat) : AV → List AV → Nat → Prop
  | nil : SlR M size nilS [] 0
  | emp (b : Nat) : SlR M size (.emp b) [] 0
  | slc (b o n : Nat) (cap : Cap) (cs : List AV) : b < M.next → M.loads b o (n * size) = some cs → SlR M size (.slc b o n cap) cs n

section
variable {M M' : RM} {size : Nat} {v : AV} {cs : List AV} {n : Nat}

theorem loads_len {b o k : Nat} {cs : List AV} (h : M.loads b o k = some cs) : cs.length = k := by
  unfold RM.loads at h
  split at h <;> first | (cases h; done) | skip
  split at h <;> first | (cases h; done) | skip
  rename_i hle
  have := Option.some.inj h
  rw [← this, List.length_take, List.length_drop]; omega
theorem loads_get {b o k : Nat} {cs : List AV} (h : M.loads b o k = some cs) (i : Nat) (hi : i < k) : M.cell b (o + i) = cs[i]? := by
  unfold RM.loads at h
  unfold RM.cell
  split at h <;> first | (cases h; done) | skip
  rename_i l hl
  split at h <;> first | (cases h; done) | skip
  cases h
  simp only [hl, Option.bind_some]
  rw [List.getElem?_take, if_pos hi, List.getElem?_drop]
theorem loads_sub {b o k : Nat} {cs : List AV} (h : M.loads b o k = some cs) (i j : Nat) (hij : i + j ≤ k) : M.loads b (o + i) j = some ((cs.drop i).take j) := by
  unfold RM.loads at h ⊢
  cases hl : M.cells b with
  | none => rw [hl] at h; cases h
  | some l =>
    rw [hl] at h
    simp only at h ⊢
    split at h
    · rename_i hle
      have h := Option.some.inj h
      subst h
      rw [if_pos (by omega), List.drop_take, List.drop_drop, List.take_take]
      congr 2
      omega
    · cases h
theorem loads_zero {b o : Nat} {l : List AV} (h : M.cells b = some l) (ho : o ≤ l.length) : M.loads b o 0 = some [] := by
  simp [RM.loads, h, ho]

theorem SlR.length (h : SlR M size v cs n) : cs.length = n * size := by
  cases h with
  | nil => exact (Nat.zero_mul _).symm
  | emp => exact (Nat.zero_mul _).symm
  | slc b o n cap cs hb0 hl => exact loads_len hl
theorem SlR.len (h : SlR M size v cs n) {K : AV → Prop} : lenW v K = K (N .i64 n) := by
  cases h with
  | nil => exact lenW_nil
  | emp b => exact lenW_emp b
  | slc b o n cap cs hb0 hl => exact lenW_slc b o n cap
theorem SlR.lenSl (h : SlR M size v cs n) : lenSl v = some n := by
  cases h <;> rfl
theorem SlR.newL (h : SlR M size v cs n) (zs : List AV) : newL M size zs false v = some (n, cs) := by
  cases h with
  | nil => rfl
  | emp b => rfl
  | slc b o n cap cs hb0 hl => simp only [Go.Ab.newL, hl]
theorem SlR.pos (h : SlR M size v cs n) (hn : 0 < n) : ∃ b o cap, v = .slc b o n cap ∧ b < M.next ∧ M.loads b o (n * size) = some cs := by
  cases h with
  | nil => omega
  | emp b => omega
  | slc b o n cap cs hb0 hl => exact ⟨b, o, cap, rfl, hb0, hl⟩
theorem SlR.toStr (h : SlR M 1 v cs n) {l : List UInt8} (hb : mapO byteOf cs = some l) : toStr M v = some l := by
  cases h with
  | nil => simp [mapO] at hb; subst hb; rfl
  | emp b => simp [mapO] at hb; subst hb; rfl
  | slc b o n cap cs hb0 hl =>
    rw [Nat.mul_one] at hl
    simp only [Go.Ab.toStr, hl]; exact hb
/-- The block that a slice lies in. -/
def blkOf : AV → List Nat
  | .slc b _ _ _ => [b]
  | _ => []
theorem SlR.keep {bs : List Nat} (h : SlR M size v cs n) (hk : Keep bs M M') (hb : ∀ b ∈ blkOf v, b ∉ bs) : SlR M' size v cs n := by
  cases h with
  | nil => exact .nil
  | emp b => exact .emp b
  | slc b o n cap cs hb0 hl =>
    exact .slc b o n cap cs (Nat.lt_of_lt_of_le hb0 hk.next) (by rw [hk.loads hb0 (hb b (by simp [blkOf]))]; exact hl)

/-- Element i (of one cell each). -/
theorem SlR.get1 (h : SlR M 1 v cs n) {i : Nat} (hi : i < n) {k : IntKind} {K : AV → Prop} (hk : ∀ b o, (∀ K' : AV → Prop, (∀ x, cs[i]? = some x → K' x) → load1 M (.ptr b o) K') → K (.ptr b o)) : idxS v (N k i) 1 K := by
  obtain ⟨b, o, cap, rfl, _, hl⟩ := h.pos (by omega)
  rw [idxS_slc]
  refine ⟨by omega, by omega, ?_⟩
  simp only [Int.toNat_natCast, Nat.mul_one]
  refine hk b (o + i) fun K' hK' => ?_
  rw [load1_ptr]
  have hc := loads_get hl i (by omega)
  have hlt : i < cs.length := by rw [loads_len hl]; omega
  exact ⟨cs[i], by rw [hc]; simp [hlt], hK' _ (by simp [hlt])⟩

/-- A slice of one's own (made since 'base'), that may be appended to. -/
inductive Own (M : RM) (base el size : Nat) : AV → List AV → Nat → Prop
  | nil : Own M base el size nilS [] 0
  | ex0 (b o : Nat) : base ≤ b → b < M.next → (∃ l, M.cells b = some l ∧ o ≤ l.length) → Own M base el size (.slc b o 0 (.ex 0)) [] 0
  | op (b n : Nat) (cs : List AV) : base ≤ b → b < M.next → M.heap b = some (.row cs true el 0) → cs.length = n * size → Own M base el size (.slc b 0 n (.op size)) cs n

theorem Own.slR {base el : Nat} (h : Own M base el size v cs n) : SlR M size v cs n := by
  cases h with
  | nil => exact .nil
  | ex0 b o hb hlt hc =>
    obtain ⟨l, hl, ho⟩ := hc
    exact .slc b o 0 _ [] hlt (by rw [Nat.zero_mul]; exact loads_zero hl ho)
  | op b n cs hb hlt hh hl =>
    refine .slc b 0 n _ cs hlt ?_
    rw [RM.loads_row hh (by omega)]
    simp [← hl]
theorem Own.blk {base el : Nat} (h : Own M base el size v cs n) : ∀ b ∈ blkOf v, base ≤ b ∧ b < M.next := by
  cases h with
  | nil => intro b hb; simp [blkOf] at hb
  | ex0 b o hb hlt hc => intro c hc; simp [blkOf] at hc; subst hc; exact ⟨hb, hlt⟩
  | op b n cs hb hlt hh hl => intro c hc; simp [blkOf] at hc; subst hc; exact ⟨hb, hlt⟩
theorem Own.keep {base el : Nat} {bs : List Nat} (h : Own M base el size v cs n) (hk : Keep bs M M') (hb : ∀ b ∈ blkOf v, b ∉ bs) : Own M' base el size v cs n := by
  cases h with
  | nil => exact .nil
  | ex0 b o h1 hlt hc => exact .ex0 b o h1 (Nat.lt_of_lt_of_le hlt hk.next) (by rw [hk.cells hlt (hb b (by simp [blkOf]))]; exact hc)
  | op b n cs h1 hlt hh hl => exact .op b n cs h1 (Nat.lt_of_lt_of_le hlt hk.next) (by rw [hk.heap b hlt (hb b (by simp [blkOf]))]; exact hh) hl
theorem Own.mono {base base' el : Nat} (h : Own M base el size v cs n) (hb : base' ≤ base) : Own M base' el size v cs n := by
  cases h with
  | nil => exact .nil
  | ex0 b o h1 hlt hc => exact .ex0 b o (Nat.le_trans hb h1) hlt hc
  | op b n cs h1 hlt hh hl => exact .op b n cs (Nat.le_trans hb h1) hlt hh hl

/-- append to one's own. -/
theorem app_own {base el bytes : Nat} {zs : List AV} {zeros : Bool} {x : AV} {m : Nat} {ds : List AV} {K : PostV} (h : Own M base el size v cs n) (hbase : base ≤ M.next) (hs : 1 ≤ size) (hx : newL M size zs zeros x = some (m, ds)) (hd : ds.length = m * size)
    (h1 : ds.all oneCell = true) (hb : (n + m) * bytes ≤ 140737488355328) (hb2 : n + m ≤ 140737488355328)
    (hK : ∀ v' M', Own M' base el size v' (cs ++ ds) (n + m) → Keep (blkOf v) M M' → M.next ≤ M'.next → (v' = v ∨ ∀ b ∈ blkOf v', M.next ≤ b) → K v' M') : appW el size bytes zs zeros v x M K := by
  have hmb : m * bytes ≤ 140737488355328 := Nat.le_trans (Nat.mul_le_mul_right _ (by omega)) hb
  refine ⟨m, ds, hx, hmb, by omega, ?_⟩
  cases h with
  | nil =>
    by_cases hm : m = 0
    · subst hm
      have : ds = [] := List.eq_nil_of_length_eq_zero (by simpa using hd)
      subst this
      exact ⟨nilS, M, by simp [appM], hK _ _ .nil (Keep.refl _ _) (Nat.le_refl _) (.inl rfl)⟩
    · refine ⟨.slc M.next 0 m (.op size), M.push (.row ds true el 0), by simp only [appM, if_neg hm, h1, if_true], hK _ _ ?_ ((Keep.refl _ _).push _) (by simp [RM.push]) (.inr fun b hb => by simp [blkOf] at hb; omega)⟩
      simp only [List.nil_append, Nat.zero_add]
      exact .op _ _ _ hbase (by simp [RM.push]) (RM.push_new _) hd
  | ex0 b o hb0 hlt hc =>
    obtain ⟨l, hl, ho⟩ := hc
    by_cases hm : m = 0
    · subst hm
      have : ds = [] := List.eq_nil_of_length_eq_zero (by simpa using hd)
      subst this
      exact ⟨_, M, by simp [appM], hK _ _ (.ex0 b o hb0 hlt ⟨l, hl, ho⟩) (Keep.refl _ _) (Nat.le_refl _) (.inl rfl)⟩
    · refine ⟨.slc M.next 0 m (.op size), M.push (.row ds true el 0), ?_, hK _ _ ?_ ((Keep.refl _ _).push _) (by simp [RM.push]) (.inr fun b hb => by simp [blkOf] at hb; omega)⟩
      · have hl0 : M.loads b o (0 * size) = some [] := by rw [Nat.zero_mul]; exact loads_zero hl ho
        simp only [appM, if_neg hm]
        rw [if_neg (by omega), hl0]
        simp only [Nat.zero_add, List.nil_append]
        rw [if_pos ⟨hmb, by omega, h1⟩]
      · simp only [List.nil_append, Nat.zero_add]
        exact .op _ _ _ hbase (by simp [RM.push]) (RM.push_new _) hd
  | op b n cs hb0 hlt hh hl =>
    by_cases hm : m = 0
    · subst hm
      have : ds = [] := List.eq_nil_of_length_eq_zero (by simpa using hd)
      subst this
      exact ⟨_, M, by simp [appM], hK _ _ (by simpa using .op b n cs hb0 hlt hh hl) (Keep.refl _ _) (Nat.le_refl _) (.inl rfl)⟩
    · have hpos : 1 ≤ m * size := Nat.mul_pos (by omega) hs
      have hsum : (n + m) * size = n * size + m * size := Nat.add_mul _ _ _
      refine ⟨.slc M.next 0 (n + m) (.op size), (M.del b).push (.row (cs ++ ds) true el 0), ?_, hK _ _ ?_ (((Keep.refl _ _).del (.inr (by simp [blkOf]))).push _) (by simp [RM.push, RM.del]) (.inr fun b hb => by simp [blkOf] at hb; omega)⟩
      · simp only [appM, if_neg hm, hh, and_self, if_true]
        rw [if_neg (by omega), if_pos ⟨trivial, hb, hb2, trivial, hl, Nat.zero_le _, h1⟩]
      · exact .op _ _ _ (show base ≤ M.next from hbase) (by simp [RM.push, RM.del]) (by simp [RM.push, RM.del]) (by rw [List.length_append, hl, hd, hsum])

theorem SlR.refEq (h : SlR M size v cs n) (neg : Bool) : (v = nilS ∧ ∀ K : AV → Prop, refEqW neg 2 v nilS K = K (Bo (!neg))) ∨ (v ≠ nilS ∧ ∀ K : AV → Prop, refEqW neg 2 v nilS K = K (Bo neg)) := by
  cases h with
  | nil => exact .inl ⟨rfl, fun _ => refEqW_nil_nil neg⟩
  | emp b => exact .inr ⟨by (intro h; cases h), fun _ => refEqW_emp_nil neg b⟩
  | slc b o n cap cs hb0 hl => exact .inr ⟨by (intro h; cases h), fun _ => refEqW_slc_nil neg b o n cap⟩
/-- An empty literal of one's own. -/
theorem Own.lit {base el T : Nat} (M : RM) (h : base ≤ M.next) : Own (M.push (.row [] false T 0)) base el size (.slc M.next 0 0 (.ex 0)) [] 0 :=
  .ex0 _ _ h (by simp [RM.push]) ⟨[], by simp [RM.cells, RM.push], Nat.le_refl _⟩
theorem Own.ne_nil {base el : Nat} (h : Own M base el size v cs n) (hn : v ≠ nilS) : ∃ b o cap, v = .slc b o n cap := by
  cases h with
  | nil => exact absurd rfl hn
  | ex0 b o => exact ⟨_, _, _, rfl⟩
  | op b n cs => exact ⟨_, _, _, rfl⟩
end
end Go.Ab
/- Plain arithmetic of Go's integers. By an AI agent. -/
set_option maxRecDepth 4000
set_option linter.unusedVariables false
set_option linter.unusedSimpArgs false
namespace Go.Ab
open Go

theorem wrap_u8 (n : Nat) : IntKind.wrap .u8 (n : Int) = ((n % 256 : Nat) : Int) := by
  simp only [IntKind.wrap, IntKind.bits, IntKind.signed, IntKind.max, IntKind.min]
  simp
theorem wrap_u32 (n : Nat) : IntKind.wrap .u32 (n : Int) = ((n % 4294967296 : Nat) : Int) := by
  simp only [IntKind.wrap, IntKind.bits, IntKind.signed, IntKind.max, IntKind.min]
  simp
theorem wrap_u64 (n : Nat) : IntKind.wrap .u64 (n : Int) = ((n % 18446744073709551616 : Nat) : Int) := by
  simp only [IntKind.wrap, IntKind.bits, IntKind.signed, IntKind.max, IntKind.min]
  simp
theorem wrap_u8_id {n : Int} (h0 : 0 ≤ n) (h : n < 256) : IntKind.wrap .u8 n = n := by
  obtain ⟨m, rfl⟩ := Int.eq_ofNat_of_zero_le h0
  rw [wrap_u8, Nat.mod_eq_of_lt (by omega)]
theorem wrap_u64_id {n : Int} (h0 : 0 ≤ n) (h : n < 18446744073709551616) : IntKind.wrap .u64 n = n := by
  obtain ⟨m, rfl⟩ := Int.eq_ofNat_of_zero_le h0
  rw [wrap_u64, Nat.mod_eq_of_lt (by omega)]
theorem wrap_i64_id {n : Int} (h0 : -9223372036854775808 ≤ n) (h : n < 9223372036854775808) : IntKind.wrap .i64 n = n := by
  rw [IntKind.wrap_i64]; omega
theorem or_nat (k : Nat) (a b : Nat) : (BitVec.ofInt k (a : Int) ||| BitVec.ofInt k (b : Int)).toNat = (a ||| b) % 2 ^ k := by
  rw [BitVec.toNat_or, BitVec.ofInt_natCast, BitVec.ofInt_natCast, BitVec.toNat_ofNat, BitVec.toNat_ofNat, ← Nat.or_mod_two_pow]
theorem and_nat (k : Nat) (a b : Nat) : (BitVec.ofInt k (a : Int) &&& BitVec.ofInt k (b : Int)).toNat = (a &&& b) % 2 ^ k := by
  rw [BitVec.toNat_and, BitVec.ofInt_natCast, BitVec.ofInt_natCast, BitVec.toNat_ofNat, BitVec.toNat_ofNat, ← Nat.and_mod_two_pow]
theorem xor_nat (k : Nat) (a b : Nat) : (BitVec.ofInt k (a : Int) ^^^ BitVec.ofInt k (b : Int)).toNat = (a ^^^ b) % 2 ^ k := by
  rw [BitVec.toNat_xor, BitVec.ofInt_natCast, BitVec.ofInt_natCast, BitVec.toNat_ofNat, BitVec.toNat_ofNat, ← Nat.xor_mod_two_pow]
theorem fdiv_nat (a b : Nat) : ((a : Int).fdiv (b : Int)) = ((a / b : Nat) : Int) := by
  rw [Int.fdiv_eq_ediv_of_nonneg _ (by omega)]; rfl
def ubits : IntKind → Nat
  | .u8 => 8 | .u16 => 16 | .u32 => 32 | _ => 64
def unsig : IntKind → Bool
  | .u8 | .u16 | .u32 | .u64 => true
  | _ => false
theorem wrap_uns {k : IntKind} (h : unsig k = true) (n : Nat) : k.wrap (n : Int) = ((n % 2 ^ ubits k : Nat) : Int) := by
  cases k <;> simp [unsig] at h <;> (simp only [IntKind.wrap, IntKind.bits, IntKind.signed, ubits]; simp)
theorem bits_uns (k : IntKind) (h : unsig k = true) : k.bits = ubits k := by cases k <;> simp [unsig] at h <;> rfl
theorem orI_nat {k : IntKind} (h : unsig k = true) (a b : Nat) : orI k a b = (((a ||| b) % 2 ^ ubits k : Nat) : Int) := by
  unfold orI
  rw [or_nat, wrap_uns h, bits_uns k h, Nat.mod_mod]
theorem andI_nat {k : IntKind} (h : unsig k = true) (a b : Nat) : andI k a b = (((a &&& b) % 2 ^ ubits k : Nat) : Int) := by
  unfold andI
  rw [and_nat, wrap_uns h, bits_uns k h, Nat.mod_mod]
theorem xorI_nat {k : IntKind} (h : unsig k = true) (a b : Nat) : xorI k a b = (((a ^^^ b) % 2 ^ ubits k : Nat) : Int) := by
  unfold xorI
  rw [xor_nat, wrap_uns h, bits_uns k h, Nat.mod_mod]
theorem shrI_nat (k : IntKind) (a b : Nat) (hb : b ≤ k.bits) : shrI k a b = ((a / 2 ^ b : Nat) : Int) := by
  unfold shrI
  rw [Int.toNat_natCast, Nat.min_eq_left hb, ← fdiv_nat, Int.natCast_pow]; rfl
theorem shlI_nat {k : IntKind} (h : unsig k = true) (a b : Nat) (hb : b ≤ k.bits) : shlI k a b = ((a * 2 ^ b % 2 ^ ubits k : Nat) : Int) := by
  unfold shlI
  rw [Int.toNat_natCast, Nat.min_eq_left hb, ← wrap_uns h, Int.natCast_mul, Int.natCast_pow]
  rfl
theorem or_128 {x : Nat} (h : x < 256) : x ||| 128 = x % 128 + 128 := by
  have : ∀ x : Fin 256, x.val ||| 128 = x.val % 128 + 128 := by decide
  exact this ⟨x, h⟩
theorem u8_nat (n : Nat) : (UInt8.ofNat n).toNat = n % 256 := by simp
end Go.Ab
/- Capacities that are opened; calls that make nothing that is kept; from a world on. By an AI agent. -/
set_option linter.unusedVariables false
set_option linter.unusedSimpArgs false
namespace Go.Ab
open Go Go.RowKit

section
variable {P : Program}

/-- An open row, with its capacity. -/
theorem MRel.opened {ρ : Ren} {M : RM} {w : World} {b n : Nat} {l : List AV} {el : Nat} {u : Value} (hw : MRel P ρ M w) (hh : M.heap b = some (.row l true el 0)) (hl : l.length = n) (hv : VRel ρ (.slc b 0 n (.op 1)) u) :
    ∃ c, n ≤ c ∧ VRel ρ (.slc b 0 n (.ex c)) u ∧ MRel P ρ (M.put b (.row (l ++ List.replicate (c - n) .top) true el 0)) w := by
  obtain ⟨A, hA⟩ := hw
  obtain ⟨k, i, hb, hp, he, hk, rfl⟩ := slcO_inv hv
  rcases hA.blk b _ hh with ⟨y, hy, hle⟩ | ⟨_, e0, _⟩
  · cases y <;> first | exact hle.elim | skip
    rename_i nn tree zs opn elem fz
    obtain ⟨r1, rfl, rfl, rfl, r5⟩ := hle
    obtain ⟨ob, hob, cs, fr, rfl, hrow⟩ := hA.rel.blk b i _ hb hy
    obtain ⟨h0, hcs, hels⟩ := hrow.opn rfl
    have hk0 : k = 0 := by
      rcases Nat.eq_zero_or_pos k with e | e
      · exact e
      · have : 0 < k * i.esz := Nat.mul_pos e h0
        omega
    subst hk0
    have hsh := hrow.sh0
    rw [← he, Nat.mul_one, hsh, Nat.zero_add] at hcs
    refine ⟨i.capN, by omega, ?_, ⟨{ A with heap := A.heap.set b (.row i.capN (Tree.ofList (l ++ List.replicate (i.capN - n) .top) 0 .leaf) [] true elem 0) }, hA.next, ⟨hA.rel.dom, fun b' i' x hb' hx => ?_, fun b1 b2 i1 i2 x1 x2 p1 p2 g1 g2 e => ?_, fun b' x hx => ?_, fun b' i' x hb' hx => ?_, hA.rel.inv⟩, hA.size, fun c x hx => ?_, hA.old⟩⟩
    · have := VRel.slcS (ρ := ρ) b 0 n i.capN i hb
      rw [Nat.zero_mul] at *
      simpa using this
    · simp only [Tree.get_set] at hx
      by_cases e : b' = b
      · subst e
        rw [if_pos rfl] at hx
        cases hx
        rw [hb] at hb'; cases hb'
        refine ⟨_, hob, cs, fr, rfl, ⟨by rw [hsh]; omega, fun j x hj => ?_, fun j h1 h2 => hrow.free j h1 h2, hrow.mark, fun _ => ⟨h0, by rw [hsh, ← he]; omega, hels⟩, hsh⟩⟩
        obtain ⟨hjlt, hj2⟩ := cellAt_nozeros hj
        rw [Tree.get_ofList] at hj2
        split at hj2
        · rename_i hlt
          rw [Nat.sub_zero] at hj2
          by_cases hjl : j < l.length
          · rw [List.getElem?_append_left hjl] at hj2
            exact hrow.val j x (r5 j x hj2)
          · rw [List.getElem?_append_right (by omega), List.getElem?_replicate] at hj2
            split at hj2
            · cases hj2
              exact ⟨cs[j]'(by omega), by rw [hsh, Nat.zero_add]; simp, .top _⟩
            · cases hj2
        · simp [Tree.get] at hj2
      · rw [if_neg e] at hx
        exact hA.rel.blk b' i' x hb' hx
    · have q : ∀ {b1 x1}, (A.heap.set b (Blk.row i.capN (Tree.ofList (l ++ List.replicate (i.capN - n) .top) 0 .leaf) [] true elem 0)).get b1 = some x1 → ∃ y, A.heap.get b1 = some y := by
        intro b1 x1 h
        rw [Tree.get_set] at h
        by_cases e : b1 = b
        · subst e; exact ⟨_, hy⟩
        · rw [if_neg e] at h; exact ⟨_, h⟩
      obtain ⟨y1, e1⟩ := q g1
      obtain ⟨y2, e2⟩ := q g2
      exact hA.rel.sep _ _ _ _ _ _ p1 p2 e1 e2 e
    · simp only [Tree.get_set] at hx
      by_cases e : b' = b
      · subst e; exact hA.rel.top _ _ hy
      · rw [if_neg e] at hx; exact hA.rel.top _ _ hx
    · simp only [Tree.get_set] at hx
      by_cases e : b' = b
      · subst e; exact hA.rel.lo _ _ _ hb' hy
      · rw [if_neg e] at hx; exact hA.rel.lo _ _ _ hb' hx
    · simp only [RM.put] at hx
      simp only [Tree.get_set]
      by_cases e : c = b
      · subst e
        rw [if_pos rfl] at hx ⊢
        cases hx
        refine .inl ⟨_, rfl, by simp; omega, rfl, rfl, rfl, fun j v hj => ?_⟩
        have hjl := (List.getElem?_eq_some_iff.1 hj).1
        exact cellAt_tree (by simp at hjl; omega) (by rw [Tree.get_ofList, if_pos (by omega)]; simpa using hj)
      · rw [if_neg e] at hx ⊢
        exact hA.blk c x hx
  · cases e0

/-- A call on an open row, whatever its capacity. -/
theorem CallsR.open_cap {f : FuncId} {b n : Nat} {l : List AV} {el : Nat} {rest : List AV} {M : RM} {Q : PostV} (hP : HasBody P f) (hh : M.heap b = some (.row l true el 0)) (hl : l.length = n)
    (h : ∀ c, n ≤ c → CallsR P f (.slc b 0 n (.ex c) :: rest) (M.put b (.row (l ++ List.replicate (c - n) .top) true el 0)) Q) : CallsR P f (.slc b 0 n (.op 1) :: rest) M Q := by
  refine ⟨hP, fun ρ w us hargs hw => ?_⟩
  cases hargs with
  | cons _ u _ us hv hr =>
  obtain ⟨c, hc, hv', hw'⟩ := hw.opened hh hl hv
  refine ((h c hc).2 ρ w (u :: us) (.cons _ _ _ _ hv' hr) hw').mono fun e w' hR => ?_
  obtain ⟨v', v, M', ρ', rfl, k1, k2, k3⟩ := hR
  exact ⟨v', v, M', ρ', rfl, ⟨k1.step, k1.rel, k1.base, k1.next⟩, k2, k3⟩
end
end Go.Ab
/- Arguments that were handed in, as abstract values; a law's call, closed. By an AI agent. -/
set_option linter.unusedVariables false
set_option linter.unusedSimpArgs false
namespace Go.Ab
open Go Go.RowKit

/-- Memory as it was when the call began: it is only read. -/
def RM.old (base : Base) (w : World) : RM where
  next := base.n
  heap := fun b => if b < base.n then (match w.heap[b]? with | some (.cells c _ _) => some (.ro c) | _ => none) else none
  base := base

def ren0 (n : Nat) : Ren := fun b => if b < n then some ⟨b, 0, 0, 0⟩ else none

theorem mrel_old {P : Program} {base : Base} {w : World} (hn : base.n = w.heap.size) (hi : base.inv w) : MRel P (ren0 base.n) (RM.old base w) w := by
  refine ⟨{ next := base.n, heap := .leaf }, rfl, ⟨fun b i h => ?_, fun b i x _ h => by simp [Tree.get] at h, fun b _ i _ x _ _ _ h => by simp [Tree.get] at h, fun b x h => by simp [Tree.get] at h, fun b i x _ h => by simp [Tree.get] at h, hi⟩, by simp [RM.old, RM.lo, hn], fun b x h => .inr ?_, fun c hc => by have hc' : c < base.n := hc; simp only [ren0]; rw [if_pos hc']⟩
  · simp only [ren0] at h
    split at h <;> first | (cases h; done) | skip
    cases h
    exact ⟨by assumption, by rw [← hn]; assumption⟩
  · simp only [RM.old] at h
    split at h <;> first | (cases h; done) | skip
    rename_i hlt
    split at h <;> first | (cases h; done) | skip
    rename_i c el fr hh
    cases h
    exact ⟨c, rfl, hlt, el, fr, hh⟩

theorem RM.old_cells {base : Base} {w : World} {b : Nat} {c : Array Value} {el : TypeId} {fr : _} (hb : b < base.n) (h : w.heap[b]? = some (.cells c el fr)) : (RM.old base w).cells b = some (c.toList.map (absV base.n)) := by
  simp only [RM.cells, RM.old, if_pos hb, h]

/-- An argument. -/
def absA (lo : Nat) : Value → AV
  | .agg cs => .agg (cs.toList.map (absV lo))
  | v => absV lo v

theorem absL_rel {ρ : Ren} {lo : Nat} (h : ∀ c, c < lo → ρ c = some ⟨c, 0, 0, 0⟩) : ∀ (vs : List Value), LRel ρ (vs.map (absV lo)) vs
  | [] => .nil
  | v :: vs => .cons _ _ _ _ (absV_rel h v) (absL_rel h vs)
theorem absA_rel {ρ : Ren} {lo : Nat} (h : ∀ c, c < lo → ρ c = some ⟨c, 0, 0, 0⟩) (v : Value) : VRel ρ (absA lo v) v := by
  unfold absA
  split
  · exact .agg _ _ (absL_rel h _)
  · exact absV_rel h v
theorem absAs_rel {ρ : Ren} {lo : Nat} (h : ∀ c, c < lo → ρ c = some ⟨c, 0, 0, 0⟩) : ∀ (vs : List Value), LRel ρ (vs.map (absA lo)) vs
  | [] => .nil
  | v :: vs => .cons _ _ _ _ (absA_rel h v) (absAs_rel h vs)

/-- A law that answers true, over memory that is only read, answers true. -/
theorem CallsR.close {P : Program} {f : FuncId} {base : Base} {w : World} {us : Array Value} (hn : base.n = w.heap.size) (hi : base.inv w)
    (h : CallsR P f (us.toList.map (absA base.n)) (RM.old base w) fun v _ => v = Bo true) :
    Calls P f us w fun e w' => e = .returned (.bool true) ∧ Below w.heap.size w w' := by
  have hr := mrel_old (P := P) hn hi
  refine ((h.2 (ren0 base.n) w us.toList (absAs_rel (fun c hc => by simp only [ren0]; rw [if_pos hc]) _) hr)).mono fun e w' hR => ?_
  obtain ⟨v', v, M', ρ', rfl, k1, k2, rfl⟩ := hR
  obtain ⟨rfl, _⟩ := sc_inv k2
  refine ⟨rfl, k1.step.os, k1.step.tape, k1.step.output, k1.step.size, fun k hk => k1.step.low k ?_⟩
  show k < base.n
  rw [hn]; exact hk

/-! ### what is handed in is as its type says -/
def otherT : Option TypeDesc → Bool
  | some .bool | some (.int _) | some .string | some (.slice _) | some (.struct _) | some (.array _ _) => false
  | _ => true

/-- Cells of a type, in memory that is read. -/
inductive Fits (P : Program) (M : RM) : TypeId → List AV → Prop
  | bool (t : TypeId) (b : Bool) : P.underlying t = some .bool → Fits P M t [Bo b]
  | int (t : TypeId) (k : IntKind) (n : Int) : P.underlying t = some (.int k) → k.min ≤ n → n ≤ k.max → Fits P M t [N k n]
  | str (t : TypeId) (s : List UInt8) : P.underlying t = some .string → s.length ≤ reachBytes → Fits P M t [St s]
  | nils (t e : TypeId) : P.underlying t = some (.slice e) → Fits P M t [nilS]
  | emp (t e : TypeId) (b : Nat) : P.underlying t = some (.slice e) → Fits P M t [.emp b]
  | slc (t e : TypeId) (b o n c : Nat) (cs : List AV) : P.underlying t = some (.slice e) → b < M.next → n ≤ c → c * P.bytesOf e ≤ reachBytes → M.loads b o (n * P.cellsOf e) = some cs →
      (∀ i, i < n → Fits P M e ((cs.drop (i * P.cellsOf e)).take (P.cellsOf e))) → Fits P M t [.slc b o n (.ex c)]
  | struct (t : TypeId) (fs : Array Field) (cs : List AV) : P.underlying t = some (.struct fs) → cs.length = P.cellsOf t →
      (∀ (i : Nat) (f : Field), fs[i]? = some f → Fits P M f.type ((cs.drop f.offset).take (P.cellsOf f.type))) → Fits P M t cs
  | array (t e : TypeId) (n : Nat) (cs : List AV) : P.underlying t = some (.array n e) → cs.length = P.cellsOf t →
      (∀ i, i < n → Fits P M e ((cs.drop (i * P.cellsOf e)).take (P.cellsOf e))) → Fits P M t cs
  | other (t : TypeId) (cs : List AV) : otherT (P.underlying t) = true → Fits P M t cs
  | zero (t e : TypeId) (cs : List AV) : P.underlying t = some (.slice e) → P.cellsOf e = 0 → Fits P M t cs

theorem addr_add_zero (a : Addr) : a.add 0 = a := by simp [Addr.add]

theorem cells?_get {w : World} {base : Nat} {a : Addr} {n : Nat} {cs : List Value} (h : w.cells? base a n = some cs) : cs.length = n ∧ ∀ i, i < n → w.cell? (a.add i) = cs[i]? := by
  unfold World.cells? at h
  split at h
  · exact ⟨by simpa using mapM_some_length h, fun i hi => mapM_some_get h i i (by simp [hi])⟩
  · cases h

theorem cell?_at {w : World} {a : Addr} {v : Value} (h : w.cell? a = some v) : ∃ c el fr, w.heap[a.block]? = some (.cells c el fr) ∧ a.spot = none ∧ a.off < c.size ∧ c[a.off]? = some v := by
  unfold World.cell? at h
  split at h
  · rename_i c el fr hh
    split at h
    · cases h
    · rename_i hs
      exact ⟨c, el, fr, hh, by simpa using hs, (Array.getElem?_eq_some_iff.1 h).1, h⟩
  · cases h

section
variable {H : Type} {enc : TypeId × Value → H} {P : Program} {base : Base} {w : World}

theorem mem_weightsAll {e : TypeId} {ds : List (DataW H)} {d : DataW H} (hd : d ∈ ds) {x : Nat} (hx : x ∈ d.weights P e) : x ∈ DataW.weightsAll P e ds := by
  induction ds with
  | nil => cases hd
  | cons y ys ih =>
    simp only [DataW.weightsAll, List.mem_append]
    rcases List.mem_cons.1 hd with rfl | hd
    · exact .inl hx
    · exact .inr (ih hd)
theorem mem_weightsEach {x : Nat} : ∀ (ts : List TypeId) (ds : List (DataW H)) (i : Nat) (t : TypeId) (d : DataW H), ts[i]? = some t → ds[i]? = some d → x ∈ d.weights P t → x ∈ DataW.weightsEach P ts ds
  | [], _, _, _, _, h, _, _ => by simp at h
  | _ :: _, [], _, _, _, _, h, _ => by simp at h
  | t :: ts, d :: ds, 0, t', d', h, h', hx => by
    simp at h h'; subst h h'
    simp only [DataW.weightsEach, List.mem_append]; exact .inl hx
  | t :: ts, d :: ds, i + 1, t', d', h, h', hx => by
    simp only [DataW.weightsEach, List.mem_append]
    exact .inr (mem_weightsEach ts ds i t' d' (by simpa using h) (by simpa using h') hx)

theorem fits_of_trod (hn : base.n = w.heap.size) {held : Bool} : ∀ (fuel : Nat) (t : TypeId) (cs : List Value) (x : DataW H × List MemPlace), DataW.trod enc P w 0 (fun _ => true) held fuel t cs = some x →
    (∀ y ∈ x.1.weights P t, y ≤ reachBytes) → Fits P (RM.old base w) t (cs.map (absV base.n)) := by
  intro fuel
  induction fuel with
  | zero => intro t cs x h; simp [DataW.trod] at h
  | succ m ih =>
    intro t cs x h hw
    cases hu : P.underlying t with
    | none => exact .other _ _ (by rw [hu]; rfl)
    | some d =>
      cases d with
      | bool =>
        obtain ⟨b, rfl, rfl⟩ := DataW.trod_bool hu h
        exact .bool t b hu
      | int k =>
        obtain ⟨n, rfl, rfl, hwf⟩ := DataW.trod_int hu h
        simp only [Lit.wf, Bool.and_eq_true, decide_eq_true_eq] at hwf
        exact .int t k n hu hwf.1 hwf.2
      | string =>
        obtain ⟨s, rfl, rfl, _⟩ := DataW.trod_string hu h
        exact .str t s.data.toList hu (hw _ (by simp [DataW.weights]))
      | slice e =>
        rcases DataW.trod_slice hu h with ⟨rfl, rfl⟩ | ⟨a, len, cap, elems, rest, n, hm, rfl, rfl, _, hlc, _, hel, hget, hrest, _⟩
        · exact .nils t e hu
        · cases hm
          rcases Nat.eq_zero_or_pos (P.cellsOf e) with hz | hz
          · exact .zero t e _ hu hz
          rcases Nat.eq_zero_or_pos cap with hc | hc
          · have hl0 : len = 0 := by omega
            subst hc hl0
            exact .emp t e 0 hu
          · obtain ⟨hr1, hr2⟩ := hrest rfl
            have every : ∀ i, i < cap → ∃ es y, w.cells? 0 (a.add (i * P.cellsOf e)) (P.cellsOf e) = some es ∧ DataW.trod enc P w 0 (fun _ => true) held m e es = some y ∧ (y ∈ elems ∨ y ∈ rest) := by
              intro i hi
              by_cases hil : i < len
              · have h1 := hget i hil
                have h2 : elems[i]? = some (elems[i]'(by omega)) := by simp [hel, hil]
                rw [h2] at h1
                obtain ⟨es, e1, e2⟩ := Option.bind_eq_some_iff.1 h1
                exact ⟨es, _, e1, e2, .inl (List.getElem_mem _)⟩
              · have h1 := hr2 (i - len) (by omega)
                rw [show len + (i - len) = i by omega] at h1
                have h2 : rest[i - len]? = some (rest[i - len]'(by omega)) := by
                  rw [List.getElem?_eq_getElem]
                rw [h2] at h1
                obtain ⟨es, e1, e2⟩ := Option.bind_eq_some_iff.1 h1
                exact ⟨es, _, e1, e2, .inr (List.getElem_mem _)⟩
            obtain ⟨es0, _, k0, _, _⟩ := every 0 hc
            obtain ⟨kl0, kg0⟩ := cells?_get k0
            have hc0 := kg0 0 hz
            rw [List.getElem?_eq_getElem (by omega)] at hc0
            obtain ⟨c, el, fr, hh, hsp, _, _⟩ := cell?_at hc0
            obtain ⟨b, o, sp⟩ := a
            rw [Nat.zero_mul, addr_add_zero, addr_add_zero] at hh hsp
            simp only at hh hsp
            subst hsp
            have hblt : b < base.n := by rw [hn]; exact (Array.getElem?_eq_some_iff.1 hh).1
            have hlast : o + cap * P.cellsOf e ≤ c.size := by
              obtain ⟨es1, _, k1, _, _⟩ := every (cap - 1) (by omega)
              obtain ⟨kl1, kg1⟩ := cells?_get k1
              have hc1 := kg1 (P.cellsOf e - 1) (by omega)
              rw [List.getElem?_eq_getElem (by omega)] at hc1
              obtain ⟨c', el', fr', hh', _, hlt, _⟩ := cell?_at hc1
              rw [add_off, add_off] at hh' hlt
              simp only at hh' hlt
              rw [hh] at hh'
              cases hh'
              have : cap * P.cellsOf e = (cap - 1) * P.cellsOf e + P.cellsOf e := by
                rw [← Nat.succ_mul]; congr 1; omega
              omega
            have habs : absV base.n (.slice (some ⟨b, o, none⟩) len cap) = .slc b o len (.ex cap) := by
              obtain ⟨cap, rfl⟩ : ∃ k, cap = k + 1 := ⟨cap - 1, by omega⟩
              simp only [absV, if_pos hblt]
            have hcells := RM.old_cells hblt hh
            have hle : len * P.cellsOf e ≤ cap * P.cellsOf e := Nat.mul_le_mul_right _ hlc
            have hload : (RM.old base w).loads b o (len * P.cellsOf e) = some (((c.toList.map (absV base.n)).drop o).take (len * P.cellsOf e)) := by
              simp only [RM.loads, hcells]
              rw [if_pos (by simp; omega)]
            simp only [List.map_cons, List.map_nil, habs]
            refine .slc t e b o len cap _ hu hblt hlc ?_ hload fun i hi => ?_
            · have := hw ((elems.length + rest.length) * P.bytesOf e) (by simp [DataW.weights, hu])
              rwa [hel, hr1, show len + (cap - len) = cap by omega] at this
            · obtain ⟨es, y, k1, k2, k3⟩ := every i (by omega)
              have hlen := (cells?_get k1).1
              have hes : ((((c.toList.map (absV base.n)).drop o).take (len * P.cellsOf e)).drop (i * P.cellsOf e)).take (P.cellsOf e) = es.map (absV base.n) := by
                have hii : i * P.cellsOf e + P.cellsOf e ≤ len * P.cellsOf e := by rw [← Nat.succ_mul]; exact Nat.mul_le_mul_right _ hi
                apply List.ext_getElem?
                intro j
                by_cases hj : j < P.cellsOf e
                · have hg := (cells?_get k1).2 j hj
                  rw [List.getElem?_take, if_pos hj, List.getElem?_drop, List.getElem?_take, if_pos (by omega), List.getElem?_drop, List.getElem?_map, List.getElem?_map, ← hg]
                  rw [add_off, add_off]
                  simp only [World.cell?, hh]
                  rw [Array.getElem?_toList]
                  simp [Nat.add_assoc]
                · rw [List.getElem?_eq_none (by simp; omega), List.getElem?_eq_none (by simp; omega)]
              rw [hes]
              refine ih e es y k2 fun z hz => hw z ?_
              simp only [DataW.weights, hu, List.mem_cons, List.mem_append]
              rcases k3 with k3 | k3
              · exact .inr (.inl (mem_weightsAll (List.mem_map_of_mem k3) hz))
              · exact .inr (.inr (mem_weightsAll (List.mem_map_of_mem k3) hz))
      | struct fs =>
        obtain ⟨xs, n, hm, rfl, hl, hxl, hget⟩ := DataW.trod_struct hu h
        cases hm
        refine .struct t fs _ hu (by simpa using hl) fun i f hf => ?_
        have h1 := hget i f hf
        have hi : i < fs.size := (Array.getElem?_eq_some_iff.1 hf).1
        rw [List.getElem?_eq_getElem (by omega)] at h1
        rw [← List.map_drop, ← List.map_take]
        refine ih _ _ _ h1 fun z hz => hw z ?_
        simp only [DataW.weights, hu]
        refine mem_weightsEach _ _ i f.type _ (by simp [hf]) (by rw [List.getElem?_map, List.getElem?_eq_getElem (by omega)]; rfl) hz
      | array n e =>
        obtain ⟨xs, m', hm, rfl, hl, hxl, hget⟩ := DataW.trod_array hu h
        cases hm
        refine .array t e n _ hu (by simpa using hl) fun i hi => ?_
        have h1 := hget i hi
        rw [List.getElem?_eq_getElem (by omega)] at h1
        rw [← List.map_drop, ← List.map_take]
        refine ih _ _ _ h1 fun z hz => hw z ?_
        simp only [DataW.weights, hu]
        exact mem_weightsAll (List.mem_map_of_mem (List.getElem_mem _)) hz
      | _ => exact .other _ _ (by rw [hu]; rfl)
end

/-! ### taken apart -/
section
variable {P : Program} {M : RM} {t : TypeId} {cs : List AV}
theorem Fits.bool_inv (h : Fits P M t cs) (hu : P.underlying t = some .bool) : ∃ b, cs = [Bo b] := by
  cases h <;> simp_all [otherT]
theorem Fits.int_inv (h : Fits P M t cs) {k : IntKind} (hu : P.underlying t = some (.int k)) : ∃ n : Int, cs = [N k n] ∧ k.min ≤ n ∧ n ≤ k.max := by
  cases h with
  | int _ k' n h1 h2 h3 => rw [hu] at h1; cases h1; exact ⟨n, rfl, h2, h3⟩
  | _ => simp_all [otherT]
theorem Fits.str_inv (h : Fits P M t cs) (hu : P.underlying t = some .string) : ∃ s, cs = [St s] ∧ s.length ≤ reachBytes := by
  cases h with
  | str _ s h1 h2 => exact ⟨s, rfl, h2⟩
  | _ => simp_all [otherT]
theorem Fits.struct_inv (h : Fits P M t cs) {fs : Array Field} (hu : P.underlying t = some (.struct fs)) : cs.length = P.cellsOf t ∧ ∀ (i : Nat) (f : Field), fs[i]? = some f → Fits P M f.type ((cs.drop f.offset).take (P.cellsOf f.type)) := by
  cases h with
  | struct _ fs' _ h1 h2 h3 => rw [hu] at h1; cases h1; exact ⟨h2, h3⟩
  | _ => simp_all [otherT]
theorem Fits.slice_inv (h : Fits P M t cs) {e : TypeId} (hu : P.underlying t = some (.slice e)) (hz : 0 < P.cellsOf e) :
    ∃ v n ds, cs = [v] ∧ SlR M (P.cellsOf e) v ds n ∧ n * P.bytesOf e ≤ reachBytes ∧ ∀ i, i < n → Fits P M e ((ds.drop (i * P.cellsOf e)).take (P.cellsOf e)) := by
  cases h with
  | nils _ e' h1 => exact ⟨_, 0, [], rfl, .nil, by simp, fun i hi => absurd hi (by omega)⟩
  | emp _ e' b h1 => exact ⟨_, 0, [], rfl, .emp b, by simp, fun i hi => absurd hi (by omega)⟩
  | slc _ e' b o n c ds h1 h2 h3 h4 h5 h6 =>
    rw [hu] at h1; cases h1
    exact ⟨_, n, ds, rfl, .slc b o n _ ds h2 h5, Nat.le_trans (Nat.mul_le_mul_right _ h3) h4, h6⟩
  | zero _ e' _ h1 h2 => rw [hu] at h1; cases h1; omega
  | _ => simp_all [otherT]

/-- A row of elements, each of which is some datum's cells. -/
theorem chunks_of {α : Type} {size : Nat} (enc : α → List AV) (p : α → Prop) (hs : ∀ a, (enc a).length = size) : ∀ (n : Nat) (ds : List AV), ds.length = n * size → (∀ i, i < n → ∃ a, p a ∧ (ds.drop (i * size)).take size = enc a) →
    ∃ xs : List α, xs.length = n ∧ ds = xs.flatMap enc ∧ ∀ x ∈ xs, p x
  | 0, ds, hl, _ => ⟨[], rfl, by simpa using hl, by simp⟩
  | n + 1, ds, hl, h => by
    obtain ⟨a, pa, ha⟩ := h 0 (by omega)
    simp only [Nat.zero_mul, List.drop_zero] at ha
    have hl' : (ds.drop size).length = n * size := by rw [List.length_drop, hl, Nat.succ_mul]; omega
    obtain ⟨xs, h1, h2, h3⟩ := chunks_of enc p hs n (ds.drop size) hl' fun i hi => by
      obtain ⟨b, pb, hb⟩ := h (i + 1) (by omega)
      refine ⟨b, pb, ?_⟩
      rw [List.drop_drop, ← hb, Nat.succ_mul, Nat.add_comm]
    refine ⟨a :: xs, by simp [h1], ?_, fun x hx => ?_⟩
    · rw [List.flatMap_cons, ← h2, ← ha, List.take_append_drop]
    · rcases List.mem_cons.1 hx with rfl | hx
      · exact pa
      · exact h3 x hx
end

/-! ### all arguments of a law -/
def aggT (P : Program) (t : TypeId) : Bool :=
  match P.underlying t with
  | some (.struct _) | some (.array _ _) => true
  | _ => false
/-- An argument is as its type says. -/
def FitsA (P : Program) (M : RM) (t : TypeId) (v : AV) : Prop :=
  match aggT P t with
  | true => ∃ cs, v = .agg cs ∧ Fits P M t cs
  | false => Fits P M t [v]

theorem FitsA.agg {P : Program} {M : RM} {t : TypeId} {v : AV} (h : FitsA P M t v) (ha : aggT P t = true) : ∃ cs, v = .agg cs ∧ Fits P M t cs := by
  unfold FitsA at h; rw [ha] at h; exact h
theorem FitsA.one {P : Program} {M : RM} {t : TypeId} {v : AV} (h : FitsA P M t v) (ha : aggT P t = false) : Fits P M t [v] := by
  unfold FitsA at h; rw [ha] at h; exact h

section
variable {H : Type} {enc : TypeId × Value → H} {P : Program} {base : Base} {w : World}
theorem cell_not_agg {r : Reach} {b : Nat} {t : TypeId} {cs : Array Value} (h : Cell.okWide P w r b t (.agg cs)) : False := by
  unfold Cell.okWide at h
  split at h <;> first | (rename_i e _; cases e; done) | skip
  all_goals first | (rename_i e; cases e; done) | skip
  unfold Cell.ok at h
  split at h <;> first | exact h | simp_all

theorem fits_arg (hn : base.n = w.heap.size) {r : Reach} {b : Nat} {held : Bool} {t : TypeId} {v : Value} {d : DataW H} {ps : List MemPlace} (hv : Value.okWide P w r b t v) (h : DataW.Trod enc P w 0 (fun _ => true) held t v d ps)
    (hw : ∀ y ∈ d.weights P t, y ≤ reachBytes) : FitsA P (RM.old base w) t (absA base.n v) := by
  obtain ⟨fuel, hf⟩ := h
  have hfit := fits_of_trod hn fuel t _ _ hf hw
  unfold FitsA
  cases ha : aggT P t with
  | true =>
    have : ∃ cs, v = .agg cs := by
      unfold Value.okWide at hv
      unfold aggT at ha
      split at hv
      · obtain ⟨cs, h, _⟩ := hv; exact ⟨cs, h⟩
      · obtain ⟨cs, h, _⟩ := hv; exact ⟨cs, h⟩
      · split at ha <;> simp_all
    obtain ⟨cs, rfl⟩ := this
    exact ⟨_, rfl, hfit⟩
  | false =>
    have hc : Cell.okWide P w r b t v := by
      unfold Value.okWide at hv
      unfold aggT at ha
      split at hv
      · simp_all
      · simp_all
      · exact hv
    have : v.cells.toList = [v] ∧ absA base.n v = absV base.n v := by
      cases v with
      | agg cs => exact (cell_not_agg hc).elim
      | _ => exact ⟨rfl, rfl⟩
    rw [this.1] at hfit
    rw [this.2]
    exact hfit

theorem fits_all (hn : base.n = w.heap.size) {r : Reach} {b : Nat} {held : Bool} : ∀ {ts : List TypeId} {vs : List Value} {ds : List (DataW H)} {ps : List MemPlace}, DataW.TrodAll enc P w 0 (fun _ => true) held ts vs ds ps →
    (∀ (j : Nat) t v, ts[j]? = some t → vs[j]? = some v → Value.okWide P w r b t v) → (∀ y ∈ DataW.weightsEach P ts ds, y ≤ reachBytes) →
    ∀ (j : Nat) t v, ts[j]? = some t → vs[j]? = some v → FitsA P (RM.old base w) t (absA base.n v)
  | [], _, _, _, _, _, _, j, t, v, h, _ => by simp at h
  | t0 :: ts, vs, ds, ps, h, hv, hw, j, t, v, hj, hvj => by
    cases vs with
    | nil => simp at hvj
    | cons v0 vs =>
    cases ds with
    | nil => exact h.elim
    | cons d ds =>
    obtain ⟨p, q, h1, h2, _⟩ := h
    cases j with
    | zero =>
      simp at hj hvj; subst hj hvj
      exact fits_arg hn (hv 0 _ _ rfl rfl) h1 fun y hy => hw y (by simp [DataW.weightsEach, hy])
    | succ j =>
      exact fits_all hn h2 (fun j t v a b => hv (j + 1) t v (by simpa using a) (by simpa using b)) (fun y hy => hw y (by simp [DataW.weightsEach, hy])) j t v (by simpa using hj) (by simpa using hvj)

/-- Behind a call that leaves old memory as it was, the arguments read as they did. -/
theorem trodAll_stays (hl : laidOutB P = true) {W W' : World} {sp : Nat → Bool} (hb : Below W.heap.size W W') : ∀ {ts : List TypeId} {vs : List Value} {ds : List (DataW H)} {ps : List MemPlace},
    (∀ t ∈ ts, P.readableRec t = true ∧ t < P.types.size) → DataW.TrodAll enc P W 0 (fun _ => true) true ts vs ds ps → (∀ p ∈ ps, p.block < W.heap.size) → (∀ p ∈ ps, sp p.block = true) → DataW.TrodAll enc P W' 0 sp true ts vs ds ps
  | [], vs, ds, ps, _, h, _, _ => by
    cases vs <;> cases ds <;> first | exact h | exact h.elim
  | t :: ts, vs, ds, ps, hr, h, hlt, hsp => by
    cases vs with
    | nil => cases ds <;> exact h.elim
    | cons v vs =>
    cases ds with
    | nil => exact h.elim
    | cons d ds =>
    obtain ⟨p, q, h1, h2, rfl⟩ := h
    have hrt := hr t (List.mem_cons_self ..)
    exact ⟨p, q, WideElems.Trod_stays hl hrt.1 hrt.2 h1 (fun x hx => hb.same (hlt x (List.mem_append_left _ hx))) (fun x hx => hsp x (List.mem_append_left _ hx)),
      trodAll_stays hl hb (fun t ht => hr t (List.mem_cons_of_mem _ ht)) h2 (fun x hx => hlt x (List.mem_append_right _ hx)) (fun x hx => hsp x (List.mem_append_right _ hx)), rfl⟩
end
end Go.Ab
/- Memory in straight code: what a chain of new blocks holds. By an AI agent. -/
set_option linter.unusedVariables false
set_option linter.unusedSimpArgs false
namespace Go.Ab
open Go Go.RowKit

def RB.cells (lo : Nat) : RB → Option (List AV)
  | .row l _ _ _ => some l
  | .ro c => some (c.toList.map (absV lo))
  | _ => none
@[go_sem] theorem RB.cells_row (lo : Nat) (l : List AV) (p : Bool) (e f : Nat) : RB.cells lo (.row l p e f) = some l := rfl

theorem RM.cells_eq (M : RM) (b : Nat) : M.cells b = (M.heap b).bind (RB.cells M.lo) := by
  unfold RM.cells RB.cells
  cases M.heap b with
  | none => rfl
  | some x => cases x <;> rfl

def loadsL (l : Option (List AV)) (o k : Nat) : Option (List AV) :=
  match l with
  | some l => if o + k ≤ l.length then some ((l.drop o).take k) else none
  | none => none
@[go_sem] theorem loadsL_some (l : List AV) (o k : Nat) : loadsL (some l) o k = if o + k ≤ l.length then some ((l.drop o).take k) else none := rfl
theorem RM.loads_eq (M : RM) (b o k : Nat) : M.loads b o k = loadsL (M.cells b) o k := rfl

section
variable {M M' : RM}
@[go_sem] theorem RM.heap_push (x : RB) (c : Nat) : (M.push x).heap c = if c = M.next then some x else M.heap c := rfl
@[go_sem] theorem RM.heap_put (b : Nat) (x : RB) (c : Nat) : (M.put b x).heap c = if c = b then some x else M.heap c := rfl
@[go_sem] theorem RM.heap_del (b : Nat) (c : Nat) : (M.del b).heap c = if c = b then none else M.heap c := rfl
@[go_sem] theorem RM.push_base (x : RB) : (M.push x).base = M.base := rfl
@[go_sem] theorem RM.put_base (b : Nat) (x : RB) : (M.put b x).base = M.base := rfl
@[go_sem] theorem RM.del_base (b : Nat) : (M.del b).base = M.base := rfl
theorem RM.cells_push (x : RB) (c : Nat) : (M.push x).cells c = if c = M.next then x.cells M.lo else M.cells c := by
  simp only [RM.cells_eq, RM.heap_push]
  split <;> rfl
theorem RM.cells_put (b : Nat) (x : RB) (c : Nat) : (M.put b x).cells c = if c = b then x.cells M.lo else M.cells c := by
  simp only [RM.cells_eq, RM.heap_put]
  split <;> rfl
@[go_sem] theorem RM.cell_push (x : RB) (c o : Nat) : (M.push x).cell c o = if c = M.next then (x.cells M.lo).bind (·[o]?) else M.cell c o := by
  simp only [RM.cell, RM.cells_push]
  split <;> rfl
@[go_sem] theorem RM.cell_put (b : Nat) (x : RB) (c o : Nat) : (M.put b x).cell c o = if c = b then (x.cells M.lo).bind (·[o]?) else M.cell c o := by
  simp only [RM.cell, RM.cells_put]
  split <;> rfl
@[go_sem] theorem RM.loads_push (x : RB) (c o k : Nat) : (M.push x).loads c o k = if c = M.next then loadsL (x.cells M.lo) o k else M.loads c o k := by
  simp only [RM.loads_eq, RM.cells_push]
  split <;> rfl
@[go_sem] theorem RM.loads_put (b : Nat) (x : RB) (c o k : Nat) : (M.put b x).loads c o k = if c = b then loadsL (x.cells M.lo) o k else M.loads c o k := by
  simp only [RM.loads_eq, RM.cells_put]
  split <;> rfl

def storesL (l : List AV) (fz o : Nat) (vs : List AV) : Option (List AV) :=
  if o + vs.length ≤ l.length ∧ fz ≤ o ∧ vs.all oneCell = true then some (l.take o ++ vs ++ l.drop (o + vs.length)) else none
theorem storesL_some {l vs : List AV} {fz o : Nat} (h1 : o + vs.length ≤ l.length) (h2 : fz ≤ o) (h3 : vs.all oneCell = true) : storesL l fz o vs = some (l.take o ++ vs ++ l.drop (o + vs.length)) := if_pos ⟨h1, h2, h3⟩
@[go_sem] theorem storesL_whole {l vs : List AV} (h : vs.length = l.length) (h3 : vs.all oneCell = true) : storesL l 0 0 vs = some vs := by
  rw [storesL_some (by omega) (Nat.le_refl _) h3]
  simp [h]

theorem RM.stores_eq {b o : Nat} {vs l : List AV} {p : Bool} {e f : Nat} (h : M.heap b = some (.row l p e f)) : M.stores b o vs = (storesL l f o vs).map fun l' => M.put b (.row l' p e f) := by
  simp only [RM.stores, h, storesL]
  split <;> rfl
theorem RM.put_push {x y : RB} : (M.push x).put M.next y = M.push y := by
  simp only [RM.put, RM.push]
  congr 1
  funext c
  split <;> rfl
theorem RM.put_push_old {x y : RB} {b : Nat} (hb : b ≠ M.next) : (M.push x).put b y = (M.put b y).push x := by
  simp only [RM.put, RM.push]
  congr 1
  funext c
  by_cases h1 : c = b
  · subst h1; simp [hb]
  · simp [h1]
theorem RM.stores_push_new {l vs : List AV} {p : Bool} {e f o : Nat} : (M.push (.row l p e f)).stores M.next o vs = (storesL l f o vs).map fun l' => M.push (.row l' p e f) := by
  rw [RM.stores_eq (RM.push_new _)]
  congr 1
  funext l'
  exact RM.put_push
theorem RM.stores_put {M : RM} {b o : Nat} {vs : List AV} : M.stores b o vs = match M.heap b with
    | some (.row l p e f) => (storesL l f o vs).map fun l' => M.put b (.row l' p e f)
    | _ => none := by
  cases h : M.heap b with
  | none => simp [RM.stores, h]
  | some x =>
    cases x with
    | row l p e f => rw [RM.stores_eq h]
    | _ => simp [RM.stores, h]
@[go_sem] theorem RM.stores_push_old {x : RB} {vs : List AV} {c o : Nat} (hc : c ≠ M.next) : (M.push x).stores c o vs = (M.stores c o vs).map (·.push x) := by
  rw [RM.stores_put, RM.stores_put, RM.push_old hc]
  split
  · simp only [Option.map_map]
    congr 1
    funext l'
    exact RM.put_push_old hc
  · rfl
@[go_sem] theorem RM.stores_push {l vs : List AV} {p : Bool} {e f c o : Nat} : (M.push (.row l p e f)).stores c o vs =
    if c = M.next then (storesL l f o vs).map fun l' => M.push (.row l' p e f) else (M.stores c o vs).map (·.push (.row l p e f)) := by
  split
  · rename_i h; subst h; exact RM.stores_push_new
  · rename_i h; exact RM.stores_push_old h
@[go_sem] theorem RM.stores_put_same {b o : Nat} {l vs : List AV} {p : Bool} {e f : Nat} : (M.put b (.row l p e f)).stores b o vs = (storesL l f o vs).map fun l' => M.put b (.row l' p e f) := by
  rw [RM.stores_eq (RM.put_same _ _)]
  congr 1
  funext l'
  simp only [RM.put]
  congr 1
  funext c
  split <;> rfl
@[go_sem] theorem some_ex {α : Type} (a : α) (K : α → Prop) : (∃ x, some a = some x ∧ K x) = K a := by simp
@[go_sem] theorem optMap_some {α β : Type} (f : α → β) (x : α) : (some x).map f = some (f x) := rfl
theorem RM.put_next_eq (b : Nat) (x : RB) : (M.put b x).next = M.next := rfl

attribute [go_sem] Int.natCast_nonneg Int.toNat_natCast Nat.mul_one true_implies false_implies Bool.false_eq_true Bool.true_eq_false Bool.not_true Bool.not_false Bool.and_self Bool.and_true Bool.true_and Nat.le_refl List.append_nil List.nil_append if_true if_false Nat.lt_irrefl Nat.add_one_ne_zero true_and and_true Nat.zero_add Nat.add_zero List.drop_zero List.getElem?_cons_zero List.getElem?_cons_succ Option.bind_some List.take_succ_cons List.take_zero List.drop_succ_cons List.drop_nil List.take_nil
attribute [go_sem] boxW List.all_cons List.all_nil List.length_cons List.length_nil
@[go_sem] theorem cells_agg (cs : List AV) : (AV.agg cs).cells = cs := rfl
@[go_sem] theorem cells_sc (v : Value) : (AV.sc v).cells = [.sc v] := rfl
@[go_sem] theorem cells_ptr (b o : Nat) : (AV.ptr b o).cells = [.ptr b o] := rfl
@[go_sem] theorem cells_slc (b o n : Nat) (c : Cap) : (AV.slc b o n c).cells = [.slc b o n c] := rfl
@[go_sem] theorem cells_emp (b : Nat) : (AV.emp b).cells = [.emp b] := rfl
@[go_sem] theorem cells_map (b : Nat) : (AV.map b).cells = [.map b] := rfl
@[go_sem] theorem cells_fn (f : Fn) (xs ys : List AV) : (AV.fn f xs ys).cells = [.fn f xs ys] := rfl
@[go_sem] theorem one_sc (v : Value) : oneCell (.sc v) = true := rfl
@[go_sem] theorem one_ptr (b o : Nat) : oneCell (.ptr b o) = true := rfl
@[go_sem] theorem one_slc (b o n : Nat) (c : Cap) : oneCell (.slc b o n c) = true := rfl
@[go_sem] theorem one_emp (b : Nat) : oneCell (.emp b) = true := rfl
@[go_sem] theorem one_map (b : Nat) : oneCell (.map b) = true := rfl
@[go_sem] theorem one_fn (f : Fn) (xs ys : List AV) : oneCell (.fn f xs ys) = true := rfl

end
/-- What a block's row says, as rewriting rules. -/
theorem RM.loads_of {M : RM} {b : Nat} {l : List AV} {p : Bool} {e f : Nat} (h : M.heap b = some (.row l p e f)) (o k : Nat) : M.loads b o k = loadsL (some l) o k := by rw [RM.loads_eq, RM.cells_row h]
theorem RM.cell_of {M : RM} {b : Nat} {l : List AV} {p : Bool} {e f : Nat} (h : M.heap b = some (.row l p e f)) (o : Nat) : M.cell b o = l[o]? := RM.cell_row h
theorem RM.stores_of {M : RM} {b : Nat} {l : List AV} {p : Bool} {e f : Nat} (h : M.heap b = some (.row l p e f)) (o : Nat) (vs : List AV) : M.stores b o vs = (storesL l f o vs).map fun l' => M.put b (.row l' p e f) := RM.stores_eq h
theorem Keep.heap_of {bs : List Nat} {M M' : RM} (h : Keep bs M M') {b : Nat} {x : RB} (hh : M.heap b = some x) (hlt : b < M.next) (hb : b ∉ bs) : M'.heap b = some x := by rw [h.heap b hlt hb, hh]
end Go.Ab
/- Slices of data; append of one's own; entries of a table as contracts. By an AI agent. -/
set_option linter.unusedVariables false
set_option linter.unusedSimpArgs false
namespace Go.Ab
open Go Go.RowKit

/-- A datum's cells. -/
structure Enc (α : Type) where
  size : Nat
  cells : α → List AV
  len : ∀ a, (cells a).length = size
  one : ∀ a, (cells a).all oneCell = true

section
variable {α : Type} (E : Enc α)
def Enc.row (xs : List α) : List AV := xs.flatMap E.cells
theorem Enc.row_nil : E.row [] = [] := rfl
theorem Enc.row_cons (x : α) (xs : List α) : E.row (x :: xs) = E.cells x ++ E.row xs := rfl
theorem Enc.row_append (xs ys : List α) : E.row (xs ++ ys) = E.row xs ++ E.row ys := by simp [Enc.row]
theorem Enc.row_one (x : α) : E.row [x] = E.cells x := by simp [Enc.row]
theorem Enc.row_len : ∀ (xs : List α), (E.row xs).length = xs.length * E.size
  | [] => by simp [Enc.row]
  | x :: xs => by rw [Enc.row_cons, List.length_append, E.len, Enc.row_len xs, List.length_cons, Nat.succ_mul, Nat.add_comm]
theorem Enc.row_all : ∀ (xs : List α), (E.row xs).all oneCell = true
  | [] => by simp [Enc.row]
  | x :: xs => by rw [Enc.row_cons, List.all_append, E.one, Enc.row_all xs]; rfl
theorem Enc.row_drop : ∀ (xs : List α) (i : Nat), (E.row xs).drop (i * E.size) = E.row (xs.drop i)
  | [], i => by simp [Enc.row]
  | x :: xs, 0 => by simp
  | x :: xs, i + 1 => by
    rw [Enc.row_cons, Nat.succ_mul, Nat.add_comm, ← List.drop_drop, List.drop_left' (E.len x), Enc.row_drop xs i]
    rfl
theorem Enc.row_take : ∀ (xs : List α) (i : Nat), (E.row xs).take (i * E.size) = E.row (xs.take i)
  | [], i => by simp [Enc.row]
  | x :: xs, 0 => by simp [Enc.row]
  | x :: xs, i + 1 => by
    rw [Enc.row_cons, Nat.succ_mul, Nat.add_comm, List.take_append, List.take_of_length_le (by rw [E.len]; omega), E.len, Nat.add_sub_cancel_left, Enc.row_take xs i]
    rfl
theorem Enc.row_get {xs : List α} {i : Nat} (hi : i < xs.length) : ((E.row xs).drop (i * E.size)).take E.size = E.cells xs[i] := by
  rw [Enc.row_drop, List.drop_eq_getElem_cons hi, Enc.row_cons]
  rw [List.take_append_of_le_length (by rw [E.len]; exact Nat.le_refl _), List.take_of_length_le (by rw [E.len]; exact Nat.le_refl _)]

/-- A slice that is read, of data. -/
abbrev Sl (M : RM) (v : AV) (xs : List α) : Prop := SlR M E.size v (E.row xs) xs.length
/-- A slice of one's own, of data. -/
abbrev Ow (M : RM) (base el : Nat) (v : AV) (xs : List α) : Prop := Own M base el E.size v (E.row xs) xs.length

variable {E} {M M' : RM} {v : AV} {xs : List α}
theorem Sl.elem (h : Sl E M v xs) {i : Nat} (hi : i < xs.length) : ∃ b o, b < M.next ∧ b ∈ blkOf v ∧ (∀ (kd : IntKind) (K : AV → Prop), idxS v (N kd (i : Int)) E.size K = K (.ptr b o)) ∧ M.loads b o E.size = some (E.cells xs[i]) := by
  obtain ⟨b, o, cap, rfl, hb, hl⟩ := h.pos (by omega)
  have hsum : i * E.size + E.size ≤ xs.length * E.size := by rw [← Nat.succ_mul]; exact Nat.mul_le_mul_right _ hi
  refine ⟨b, o + i * E.size, hb, by simp [blkOf], fun kd K => ?_, ?_⟩
  · rw [idxS_slc]
    simp only [Int.toNat_natCast]
    exact propext ⟨fun h => h.2.2, fun h => ⟨by omega, by omega, h⟩⟩
  · rw [loads_sub hl (i * E.size) E.size hsum, E.row_get hi]

theorem Sl.at (h : Sl E M v xs) {i : Nat} (sz : Nat) (j : Int) (hi : i < xs.length) (hsz : E.size = sz := by rfl) (hj : j = (i : Int) := by rfl) : ∃ b o, b < M.next ∧ b ∈ blkOf v ∧ (∀ (kd : IntKind) (K : AV → Prop), idxS v (N kd j) sz K = K (.ptr b o)) ∧ M.loads b o sz = some (E.cells xs[i]) := by
  subst hsz hj; exact h.elem hi

theorem cell_of_loads {b o k : Nat} {cs : List AV} (h : M.loads b o k = some cs) {j : Nat} {x : AV} (hj : cs[j]? = some x) : M.cell b (o + j) = some x := by
  have hlt : j < k := by rw [← loads_len h]; exact (List.getElem?_eq_some_iff.1 hj).1
  rw [loads_get h j hlt, hj]
theorem cell0_of_loads {b o k : Nat} {cs : List AV} (h : M.loads b o k = some cs) {x : AV} (hj : cs[0]? = some x) : M.cell b o = some x := cell_of_loads h hj
theorem loads_part {b o k : Nat} {cs : List AV} (h : M.loads b o k = some cs) (j m : Nat) (hm : j + m ≤ k) : M.loads b (o + j) m = some ((cs.drop j).take m) := loads_sub h j m hm

/-- A slice is appended to one's own. -/
theorem app_all {base T bytes : Nat} {zs : List AV} {u : AV} {ys : List α} {K : PostV} (ho : Ow E M base T v xs) (hb : base ≤ M.next) (hs : 1 ≤ E.size) (hu : Sl E M u ys)
    (hn : (xs.length + ys.length) * bytes ≤ 140737488355328) (hn2 : xs.length + ys.length ≤ 140737488355328)
    (hK : ∀ v' M', Ow E M' base T v' (xs ++ ys) → Keep (blkOf v) M M' → M.next ≤ M'.next → (v' = v ∨ ∀ b ∈ blkOf v', M.next ≤ b) → K v' M') :
    appW T E.size bytes zs false v u M K := by
  refine app_own ho hb hs (SlR.newL hu _) (E.row_len ys) (E.row_all ys) hn hn2 ?_
  intro v' M' h1 h2 h3 h4
  refine hK v' M' ?_ h2 h3 h4
  rw [← E.row_append] at h1
  simpa [Ow] using h1

theorem loads_head {b o k : Nat} {cs : List AV} (h : M.loads b o k = some cs) (m : Nat) (hm : m ≤ k) : M.loads b o m = some (cs.take m) := loads_sub h 0 m (by omega)

/-- A literal's row, read. -/
theorem Sl.new {T c : Nat} {p : Bool} (ys : List α) : Sl E (M.push (.row (E.row ys) p T 0)) (.slc M.next 0 ys.length (.ex c)) ys :=
  .slc _ _ _ _ _ (by simp [RM.push]) (by rw [RM.loads_row (RM.push_new _) (by rw [E.row_len]; omega), List.drop_zero, ← E.row_len, List.take_length])
/-- One element is appended to one's own. -/
theorem app_one {base T bytes : Nat} {zs : List AV} {a : α} {K : PostV} (ho : Ow E M base T v xs) (hb : base ≤ M.next) (hs : 1 ≤ E.size)
    (hn : (xs.length + 1) * bytes ≤ 140737488355328) (hn2 : xs.length + 1 ≤ 140737488355328)
    (hK : ∀ v' M', Ow E M' base T v' (xs ++ [a]) → Keep (blkOf v) M M' → M.next ≤ M'.next → (v' = v ∨ ∀ b ∈ blkOf v', M.next ≤ b) → K v' M') :
    appW T E.size bytes zs false v (.slc M.next 0 1 (.ex 1)) (M.push (.row (E.cells a) false T 0)) K := by
  have hk : Keep [] M (M.push (.row (E.cells a) false T 0)) := (Keep.refl _ _).push _
  refine app_all (ys := [a]) (Own.keep ho hk (by simp)) (Nat.le_trans hb hk.next) hs (by rw [← E.row_one]; exact Sl.new [a]) hn hn2 ?_
  intro v' M' h1 h2 h3 h4
  exact hK v' M' h1 ((hk.mono (by simp)).trans h2) (Nat.le_trans hk.next h3) (h4.imp id fun h b hb => Nat.le_trans hk.next (h b hb))
@[go_sem] theorem rows0 {T : Nat} {zs : List AV} {K : RB → (Nat → AV) → Prop} : rowsW T 0 zs [] K = K (.row [] false T 0) (fun b => .slc b 0 0 (.ex 0)) := by
  apply propext; unfold rowsW
  constructor
  · rintro ⟨l, h, hk⟩; cases h; exact hk
  · intro hk; exact ⟨_, rfl, hk⟩
theorem rows1 {T size : Nat} {zs : List AV} {x : AV} {K : RB → (Nat → AV) → Prop} (h : x.cells.length = size) (h1 : x.cells.all oneCell = true) (hz : zs.length = size) :
    rowsW T 1 zs [(0, size, x)] K = K (.row x.cells false T 0) (fun b => .slc b 0 1 (.ex 1)) := by
  have : fillO (repL zs 1) [(0, size, x)] = some x.cells := by
    simp only [fillO, repL, List.append_nil, h1, h, Nat.zero_add, hz, Nat.le_refl, and_self, if_true, List.take_zero, List.nil_append]
    rw [List.drop_of_length_le (by omega), List.append_nil]
  apply propext; unfold rowsW
  constructor
  · rintro ⟨l, h, hk⟩; rw [this] at h; cases h; exact hk
  · intro hk; exact ⟨_, this, hk⟩
/-- A new literal of no elements, for append. -/
theorem Ow.lit (E : Enc α) {T : Nat} (M : RM) : Ow E (M.push (.row [] false T 0)) M.next T (.slc M.next 0 0 (.ex 0)) [] := Own.lit M (Nat.le_refl _)

theorem i64_succ {i : Nat} (h : i < 9223372036854775807) : IntKind.wrap .i64 ((i : Int) + 1) = ((i + 1 : Nat) : Int) := by
  rw [wrap_i64_id (by omega) (by omega)]; rfl
end

@[go_sem] theorem flatEq_nil : flatEq [] [] [] = some true := rfl
@[go_sem] theorem flatEq_int (ks : List Nat) (k : IntKind) (a b : Int) (xs ys : List AV) : flatEq (1 :: ks) (N k a :: xs) (N k b :: ys) = if a = b then flatEq ks xs ys else some false := by
  simp only [flatEq, cellEq, if_true]
  by_cases h : a = b
  · simp [h]
  · have : (a == b) = false := by simp [h]
    simp [this, h]
@[go_sem] theorem flatEq_str (ks : List Nat) (a b : List UInt8) (xs ys : List AV) : flatEq (2 :: ks) (St a :: xs) (St b :: ys) = if a = b then flatEq ks xs ys else some false := by
  simp only [flatEq, cellEq]
  by_cases h : a = b
  · simp [h]
  · have : (a == b) = false := by simp [h]
    simp [this, h]
@[go_sem] theorem flatEq_bool (ks : List Nat) (a b : Bool) (xs ys : List AV) : flatEq (3 :: ks) (Bo a :: xs) (Bo b :: ys) = if a = b then flatEq ks xs ys else some false := by
  simp only [flatEq, cellEq]
  by_cases h : a = b
  · simp [h]
  · have : (a == b) = false := by simp [h]
    simp [this, h]
/-- Comparison of flat structs. -/
theorem aggEqW_of {neg : Bool} {ks : List Nat} {cs ds : List AV} {r : Bool} {K : AV → Prop} (h1 : cs.length = ks.length) (h2 : ds.length = ks.length) (h : flatEq ks cs ds = some r) : aggEqW neg ks (.agg cs) (.agg ds) K = K (Bo (r != neg)) := by
  rw [aggEqW_agg]
  apply propext
  constructor
  · rintro ⟨_, _, r', h', hk⟩; rw [h] at h'; cases h'; exact hk
  · intro hk; exact ⟨h1, h2, r, h, hk⟩

/-! ### operations behind one guard, joined -/
theorem fuseM (x : AV) (w : Bool) (f g : PostV → Prop) (F G : AV → RM → PostV → Prop) (k : PostV) :
    guardM x w f g (fun v M => guardM x w (F v M) (G v M) k) = guardM x w (fun k' => f fun v M => F v M k') (fun k' => g fun v M => G v M k') k := by
  unfold guardM guardW
  split
  · split <;> simp_all
  · rfl
  · rfl
theorem fuseK (x : AV) (w : Bool) (f g : KR → Prop) (F G : AV → RM → Option Nat → KR → Prop) (k : KR) :
    guardK x w f g (fun v M b => guardK x w (F v M b) (G v M b) k) = guardK x w (fun k' => f fun v M b => F v M b k') (fun k' => g fun v M b => G v M b k') k := by
  unfold guardK guardW
  split
  · split <;> simp_all
  · rfl
  · rfl

theorem fuseKM (x : AV) (w : Bool) (f g : KR → Prop) (F G : AV → RM → Option Nat → PostV → Prop) (k : PostV) :
    guardK x w f g (fun v M b => guardM x w (F v M b) (G v M b) k) = guardM x w (fun k' => f fun v M b => F v M b k') (fun k' => g fun v M b => G v M b k') k := by
  unfold guardK guardM guardW
  split
  · split <;> simp_all
  · rfl
  · rfl
theorem fuseMK (x : AV) (w : Bool) (f g : PostV → Prop) (F G : AV → RM → KR → Prop) (k : KR) :
    guardM x w f g (fun v M => guardK x w (F v M) (G v M) k) = guardK x w (fun k' => f fun v M => F v M k') (fun k' => g fun v M => G v M k') k := by
  unfold guardK guardM guardW
  split
  · split <;> simp_all
  · rfl
  · rfl

/-- A loop by an invariant and a measure; the next round is not looked into. -/
theorem loopW_ind {body : (List AV → RM → Prop) → List AV → RM → Prop} {xs : List AV} {M : RM} (I : Nat → List AV → RM → Prop) (n : Nat) (h0 : I n xs M)
    (hb : ∀ (next : List AV → RM → Prop) m ys M', (∀ m' zs M'', m' < m → I m' zs M'' → next zs M'') → I m ys M' → body next ys M') : loopW body xs M :=
  ⟨I, n, h0, fun m ys M' hI => hb _ m ys M' (fun m' zs M'' hlt h => ⟨m', hlt, h⟩) hI⟩

/-- A table's answer that is plain, as a contract. -/
theorem callsR_tab {P : Program} {I : World → Prop} {T : Table} (hT : TabOk P I T) {f : FuncId} {args : List AV} {v : AV} {M : RM} {Q : PostV} (hP : HasBody P f) (hl : ∀ A, tabOf T f args A = some (v, A))
    (hI : ∀ w, M.base.inv w → I w) (hQ : Q v M) : CallsR P f args M Q := by
  refine ⟨hP, fun ρ w us hargs hw => ?_⟩
  obtain ⟨A, hA⟩ := hw
  refine (tabOf_sound (base := M.base) hI T hT f args A v A (hl A) ρ w us hargs hA.rel hA.size).mono fun e w' hR => ?_
  obtain ⟨ρ', v', rfl, hst, hw', _, hv⟩ := hR
  refine ⟨v', v, M, ρ', rfl, after_of hA hst hw' rfl hA.next (Nat.le_refl _) (fun b x hx => ?_), hv, hQ⟩
  rcases hA.blk b x hx with h | ⟨c, rfl, _⟩
  · exact .inl h
  · exact .inr ⟨c, rfl, hx⟩
end Go.Ab
/- Bytes and texts. By an AI agent. -/
set_option linter.unusedVariables false
set_option linter.unusedSimpArgs false
namespace Go.Ab
open Go Go.RowKit

abbrev By (b : UInt8) : AV := N .u8 (b.toNat : Int)
def BY : Enc UInt8 := ⟨1, fun b => [By b], fun _ => rfl, fun _ => rfl⟩
theorem BY_row (s : List UInt8) : BY.row s = s.map By := by
  induction s with
  | nil => rfl
  | cons b s ih => rw [Enc.row_cons, ih]; rfl
def STR : Enc (List UInt8) := ⟨1, fun s => [St s], fun _ => rfl, fun _ => rfl⟩
theorem STR_row (s : List (List UInt8)) : STR.row s = s.map (fun s => St s) := by
  induction s with
  | nil => rfl
  | cons b s ih => rw [Enc.row_cons, ih]; rfl
def INT : Enc Int := ⟨1, fun n => [N .i64 n], fun _ => rfl, fun _ => rfl⟩
theorem INT_row (s : List Int) : INT.row s = s.map (fun s => N .i64 s) := by
  induction s with
  | nil => rfl
  | cons b s ih => rw [Enc.row_cons, ih]; rfl
def U64 : Enc Nat := ⟨1, fun n => [N .u64 (n : Int)], fun _ => rfl, fun _ => rfl⟩
theorem U64_row (s : List Nat) : U64.row s = s.map (fun (s : Nat) => N .u64 (s : Int)) := by
  induction s with
  | nil => rfl
  | cons b s ih => rw [Enc.row_cons, ih]; rfl

theorem mapO_bytes : ∀ (s : List UInt8), mapO byteOf (s.map By) = some s
  | [] => rfl
  | b :: s => by
    simp only [List.map_cons, mapO, byteOf, mapO_bytes s]
    simp

section
variable {α : Type} {E : Enc α} {M M' : RM} {v : AV} {xs : List α}

/-- A slice of bytes, as a text. -/
theorem Sl.str {s : List UInt8} (h : Sl BY M v s) {K : AV → Prop} : strOfW M v K = K (St s) :=
  strOfW_some (SlR.toStr h (by rw [BY_row]; exact mapO_bytes s))

/-- An element of one cell. -/
theorem Sl.at1 (h : Sl E M v xs) {i : Nat} (j : Int) (hi : i < xs.length) (hsz : E.size = 1 := by rfl) (hj : j = (i : Int) := by rfl) :
    ∃ b o, b < M.next ∧ b ∈ blkOf v ∧ (∀ (kd : IntKind) (K : AV → Prop), idxS v (N kd j) 1 K = K (.ptr b o)) ∧ ∀ x, E.cells xs[i] = [x] → M.cell b o = some x := by
  obtain ⟨b, o, h1, h2, h3, h4⟩ := Sl.at h 1 j hi hsz hj
  exact ⟨b, o, h1, h2, h3, fun x hx => cell0_of_loads h4 (by rw [hx]; rfl)⟩

/-! ### a row that is written: a whole block of data -/
/-- A slice that is a whole block, of data. -/
structure Rw (E : Enc α) (M : RM) (b : Nat) (opn : Bool) (el : Nat) (xs : List α) : Prop where
  heap : M.heap b = some (.row (E.row xs) opn el 0)
  lt : b < M.next

theorem Rw.sl {b el : Nat} {p : Bool} {cap : Cap} (h : Rw E M b p el xs) : Sl E M (.slc b 0 xs.length cap) xs := by
  refine .slc _ _ _ _ _ h.lt ?_
  rw [RM.loads_row h.heap (by rw [E.row_len]; omega), List.drop_zero, ← E.row_len, List.take_length]
theorem Rw.keep {b el : Nat} {p : Bool} {bs : List Nat} (h : Rw E M b p el xs) (hk : Keep bs M M') (hb : b ∉ bs) : Rw E M' b p el xs :=
  ⟨hk.heap_of h.heap h.lt hb, Nat.lt_of_lt_of_le h.lt hk.next⟩
theorem Rw.new {el : Nat} {p : Bool} (M : RM) (xs : List α) : Rw E (M.push (.row (E.row xs) p el 0)) M.next p el xs :=
  ⟨RM.push_new _, by simp [RM.push]⟩
theorem Rw.load {b el : Nat} {p : Bool} (h : Rw E M b p el xs) {i : Nat} (hi : i < xs.length) : M.loads b (i * E.size) E.size = some (E.cells xs[i]) := by
  have hsum : i * E.size + E.size ≤ xs.length * E.size := by rw [← Nat.succ_mul]; exact Nat.mul_le_mul_right _ hi
  rw [RM.loads_row h.heap (by rw [E.row_len]; exact hsum), E.row_get hi]
theorem Enc.row_set (E : Enc α) {xs : List α} {i : Nat} (hi : i < xs.length) (x : α) : E.row (xs.set i x) = (E.row xs).take (i * E.size) ++ E.cells x ++ (E.row xs).drop (i * E.size + E.size) := by
  rw [E.row_take, ← Nat.succ_mul, E.row_drop, List.set_eq_take_append_cons_drop, if_pos hi, E.row_append, E.row_cons, List.append_assoc]
theorem Rw.store {b el : Nat} {p : Bool} (h : Rw E M b p el xs) {i : Nat} (hi : i < xs.length) (x : α) :
    M.stores b (i * E.size) (E.cells x) = some (M.put b (.row (E.row (xs.set i x)) p el 0)) ∧ Rw E (M.put b (.row (E.row (xs.set i x)) p el 0)) b p el (xs.set i x) := by
  have hsum : i * E.size + E.size ≤ xs.length * E.size := by rw [← Nat.succ_mul]; exact Nat.mul_le_mul_right _ hi
  refine ⟨?_, RM.put_same _ _, h.lt⟩
  rw [RM.stores_row h.heap (by rw [E.len, E.row_len]; exact hsum) (Nat.zero_le _) (E.one x), E.row_set hi, E.len]
/-- The same for elements of one cell. -/
theorem Rw.load1 {b el : Nat} {p : Bool} (h : Rw E M b p el xs) {i : Nat} (hi : i < xs.length) (hsz : E.size = 1 := by rfl) {x : AV} (hx : E.cells xs[i] = [x] := by rfl) : M.cell b i = some x := by
  have := h.load hi
  rw [hsz, Nat.mul_one] at this
  exact cell0_of_loads this (by rw [hx]; rfl)
theorem Rw.store1 {b el : Nat} {p : Bool} (h : Rw E M b p el xs) {i : Nat} (hi : i < xs.length) (x : α) (hsz : E.size = 1 := by rfl) {u : AV} (hx : E.cells x = [u] := by rfl) :
    M.stores b i [u] = some (M.put b (.row (E.row (xs.set i x)) p el 0)) ∧ Rw E (M.put b (.row (E.row (xs.set i x)) p el 0)) b p el (xs.set i x) := by
  have := h.store hi x
  rw [hsz, Nat.mul_one, hx] at this
  exact this
end

@[go_sem] theorem bytesW_St (el : Nat) (s : List UInt8) (K : RB → (Nat → AV) → Prop) : bytesW el (St s) K = K (.row (BY.row s) true el 0) (fun b => .slc b 0 s.length (.op 1)) := by
  rw [BY_row]
  apply propext; unfold bytesW
  constructor
  · rintro ⟨s', h, hk⟩; cases h; exact hk
  · intro hk; exact ⟨s, rfl, hk⟩

/-! ### A to Z as a to z -/
def lowB (b : UInt8) : UInt8 := if 65 ≤ b.toNat ∧ b.toNat ≤ 90 then b + 32 else b
def low (s : List UInt8) : List UInt8 := s.map lowB
def LowC (c : CallT) : Prop := ∀ {M : RM} {s : List UInt8} {Q : PostV}, s.length < 9223372036854775807 → (∀ M', Keep [] M M' → Q (St (low s)) M') → c [St s] M Q

/-- As far as place i. -/
def upTo (f : UInt8 → UInt8) (i : Nat) (s : List UInt8) : List UInt8 := (s.take i).map f ++ s.drop i
theorem upTo_zero (f : UInt8 → UInt8) (s : List UInt8) : upTo f 0 s = s := by simp [upTo]
theorem upTo_all (f : UInt8 → UInt8) (s : List UInt8) : upTo f s.length s = s.map f := by simp [upTo]
theorem upTo_len (f : UInt8 → UInt8) (i : Nat) (s : List UInt8) : (upTo f i s).length = s.length := by
  simp [upTo]; omega
theorem upTo_get (f : UInt8 → UInt8) {i : Nat} {s : List UInt8} (hi : i < s.length) : (upTo f i s)[i]? = some s[i] := by
  simp only [upTo]
  rw [List.getElem?_append_right (by simp; omega)]
  simp
  rw [Nat.min_eq_left (by omega), Nat.sub_self, Nat.add_zero, List.getElem?_eq_getElem hi]
theorem upTo_set (f : UInt8 → UInt8) {i : Nat} {s : List UInt8} (hi : i < s.length) : (upTo f i s).set i (f s[i]) = upTo f (i + 1) s := by
  simp only [upTo]
  have hl : ((s.take i).map f).length = i := by simp; omega
  rw [List.set_append_right _ _ (by omega), hl, Nat.sub_self, List.drop_eq_getElem_cons hi, List.set_cons_zero, List.take_succ_eq_append_getElem hi, List.map_append, List.append_assoc]
  rfl
theorem upTo_same (f : UInt8 → UInt8) {i : Nat} {s : List UInt8} (hi : i < s.length) (h : f s[i] = s[i]) : upTo f (i + 1) s = upTo f i s := by
  rw [← upTo_set f hi, h]
  apply List.ext_getElem?
  intro j
  rw [List.getElem?_set]
  split
  · rename_i e; subst e
    rw [upTo_get f hi]; simp [upTo_len, hi]
  · rfl
theorem u8_lt (b : UInt8) : b.toNat < 256 := b.toNat_lt
end Go.Ab
/- Blocks below a number; one's own slices behind stores elsewhere. By an AI agent. -/
set_option linter.unusedVariables false
set_option linter.unusedSimpArgs false
namespace Go.Ab
open Go Go.RowKit

/-- Blocks below n but some are as they were. -/
structure KeepTo (n : Nat) (bs : List Nat) (M M' : RM) : Prop where
  base : M'.base = M.base
  next : M.next ≤ M'.next
  heap : ∀ c, c < n → c ∉ bs → M'.heap c = M.heap c
theorem KeepTo.refl (n : Nat) (bs : List Nat) (M : RM) : KeepTo n bs M M := ⟨rfl, Nat.le_refl _, fun _ _ _ => rfl⟩
theorem KeepTo.trans {n : Nat} {bs : List Nat} {M M1 M2 : RM} (h : KeepTo n bs M M1) (k : KeepTo n bs M1 M2) : KeepTo n bs M M2 :=
  ⟨k.base.trans h.base, Nat.le_trans h.next k.next, fun c h1 h2 => (k.heap c h1 h2).trans (h.heap c h1 h2)⟩
theorem Keep.to {bs cs : List Nat} {n : Nat} {M M' : RM} (h : Keep bs M M') (hn : n ≤ M.next) (hb : ∀ b ∈ bs, n ≤ b ∨ b ∈ cs) : KeepTo n cs M M' :=
  ⟨h.base, h.next, fun c h1 h2 => h.heap c (Nat.lt_of_lt_of_le h1 hn) (fun hm => by rcases hb c hm with h3 | h3; omega; exact h2 h3)⟩
/-- What happened since to blocks made since. -/
theorem Keep.then_to {bs cs : List Nat} {n : Nat} {M0 M M' : RM} (h : Keep bs M0 M) (k : KeepTo n cs M M') (hn : M0.next ≤ n) (hc : ∀ c ∈ cs, M0.next ≤ c ∨ c ∈ bs) : Keep bs M0 M' :=
  ⟨k.base.trans h.base, Nat.le_trans h.next k.next, fun c h1 h2 => by
    rw [k.heap c (Nat.lt_of_lt_of_le h1 hn) (fun hm => by rcases hc c hm with h3 | h3; omega; exact h2 h3), h.heap c h1 h2]⟩
theorem KeepTo.heap_of {n : Nat} {bs : List Nat} {M M' : RM} (h : KeepTo n bs M M') {b : Nat} {x : RB} (hh : M.heap b = some x) (hlt : b < n) (hb : b ∉ bs) : M'.heap b = some x := by rw [h.heap b hlt hb, hh]

theorem Own.same {M M' : RM} {n el size n0 : Nat} {v : AV} {cs : List AV} (h : Own M n0 el size v cs n) (hn : M'.next = M.next) (hb : ∀ c ∈ blkOf v, M'.heap c = M.heap c) (hbase : M'.base = M.base) : Own M' n0 el size v cs n := by
  cases h with
  | nil => exact .nil
  | ex0 b o h1 h2 h3 => exact .ex0 b o h1 (by omega) (by simpa [RM.cells_eq, hb b (by simp [blkOf]), RM.lo, hbase] using h3)
  | op b n cs h1 h2 h3 h4 => exact .op b n cs h1 (by omega) (by rw [hb b (by simp [blkOf]), h3]) h4
theorem Own.one {M : RM} {n el size n0 : Nat} {v : AV} {cs : List AV} (h : Own M n0 el size v cs n) : oneCell v = true := by
  cases h <;> rfl

/-- 'awake' answers true, and leaves memory as it is. -/
def AwakeC (B : Base) (c : CallT) : Prop := ∀ {M : RM} {Q : PostV}, M.base = B → Q (Bo true) M → c [] M Q

theorem Own.cells {M : RM} {n el size n0 : Nat} {v : AV} {cs : List AV} (h : Own M n0 el size v cs n) : v.cells = [v] := by
  cases h <;> rfl
end Go.Ab
/- Contracts: strings.Builder. By an AI agent. -/
set_option linter.unusedVariables false
set_option linter.unusedSimpArgs false
namespace Go.Ab.Vl
open Go Go.Ab

/-- A builder that holds bytes. -/
structure Bld (TB T8 n0 : Nat) (M : RM) (b : Nat) (xs : List UInt8) : Prop where
  lt : b < n0
  hn : n0 ≤ M.next
  row : ∃ addr buf, M.heap b = some (.row [addr, buf] false TB 0) ∧ (addr = .sc (.pointer none) ∨ addr = .ptr b 0) ∧ Ow BY M n0 T8 buf xs ∧ (xs = [] → buf = nilS)

def NoEscC (x : CallT) : Prop := ∀ {v : AV} {M : RM} {Q : PostV}, Q v M → x [v] M Q
def CheckC (TB : Nat) (c : CallT) : Prop := ∀ {M : RM} {b : Nat} {addr buf : AV} {Q : PostV}, M.heap b = some (.row [addr, buf] false TB 0) → (addr = .sc (.pointer none) ∨ addr = .ptr b 0) → oneCell buf = true →
  (∀ M', M'.heap b = some (.row [.ptr b 0, buf] false TB 0) → M'.next = M.next → M'.base = M.base → (∀ c, c ≠ b → M'.heap c = M.heap c) → Q (.tup []) M') → c [.ptr b 0] M Q

theorem check_spec {TB : Nat} {x : CallT} (hx : NoEscC x) : CheckC TB fun args M Q => ∃ a0, args = [a0] ∧ W_strings_Builder_copyCheck x TB a0 M Q := by
  intro M b addr buf Q hh ha hb hQ
  refine ⟨_, rfl, ?_⟩
  unfold W_strings_Builder_copyCheck
  rcases ha with rfl | rfl
  · simp only [go_sem, RM.cell_of hh]
    refine ⟨_, 0, _, _, _, _, rfl, hh, by simp, hx ⟨_, _, _, _, rfl, hh, rfl, ?_⟩⟩
    simp only [go_sem, RM.stores_of hh]
    rw [storesL_some (by simp) (by simp) (by simp [oneCell])]
    simp only [go_sem]
    refine hQ _ (by simp [go_sem]) rfl rfl fun c hc => by simp [go_sem, hc]
  · simp only [go_sem, RM.cell_of hh]
    have : ∀ K : AV → Prop, refEqW true 1 (.ptr b 0) (.ptr b 0) K = K (Bo false) := fun K => (refEqW_some (r := true) rfl (by simp [refEq])).trans rfl
    rw [this]
    simp only [go_sem]
    exact hQ _ hh rfl rfl fun _ _ => rfl

def WriteByteC (TB T8 : Nat) (c : CallT) : Prop := ∀ {n0 : Nat} {M : RM} {b : Nat} {xs : List UInt8} {x : UInt8} {Q : PostV}, Bld TB T8 n0 M b xs → xs.length + 1 ≤ 140737488355328 →
  (∀ M', Bld TB T8 n0 M' b (xs ++ [x]) → KeepTo n0 [b] M M' → Q (.sc .nilIface) M') → c [.ptr b 0, By x] M Q

theorem writeByte_spec {TB T8 : Nat} {c : CallT} (hc : CheckC TB c) : WriteByteC TB T8 fun args M Q => ∃ a0 a1, args = [a0, a1] ∧ W_strings_Builder_WriteByte c T8 a0 a1 M Q := by
  intro n0 M b xs x Q hB hl hQ
  obtain ⟨addr, buf, hh, ha, ho, he⟩ := hB.row
  refine ⟨_, _, rfl, ?_⟩
  unfold W_strings_Builder_WriteByte
  refine hc hh ha ho.one fun M1 h1 hnx hbs hot => ?_
  have hlt := hB.lt
  have hn := hB.hn
  have ho1 : Ow BY M1 n0 T8 buf xs := Own.same ho hnx (fun c hc => hot c (by have := ho.blk c hc; omega)) hbs
  simp only [go_sem, RM.cell_of h1]
  rw [rows1 (x := By x) (size := 1) rfl rfl rfl]
  simp only [newW_eq]
  refine app_one (E := BY) (a := x) ho1 (by omega) (Nat.le_refl _) (by omega) hl fun v' M2 h2 k2 hnx2 hv => ?_
  have hb2 : b ∉ blkOf buf := fun hm => by have := ho.blk b hm; omega
  have hh2 := k2.heap_of h1 (by omega) hb2
  simp only [go_sem, RM.stores_of hh2]
  rw [Own.cells h2, storesL_some (by simp) (by simp) (by simp [Own.one h2])]
  simp only [go_sem]
  have hne : ∀ c ∈ blkOf v', c ≠ b := fun c hm => by have := h2.blk c hm; omega
  refine hQ _ ⟨hlt, by show n0 ≤ M2.next; omega, .ptr b 0, v', RM.put_same _ _, .inr rfl, Own.same h2 rfl (fun c hm => by simp [go_sem, hne c hm]) rfl, by simp⟩ ⟨?_, ?_, fun c h3 h4 => ?_⟩
  · exact k2.base.trans hbs
  · show M.next ≤ M2.next
    omega
  · have h4 : c ≠ b := by simpa using h4
    simp only [go_sem, if_neg h4]
    rw [k2.heap c (by omega) (fun hm => by have := ho.blk c hm; omega), hot c h4]

def WriteStringC (TB T8 : Nat) (c : CallT) : Prop := ∀ {n0 : Nat} {M : RM} {b : Nat} {xs s : List UInt8} {Q : PostV}, Bld TB T8 n0 M b xs → xs.length + s.length ≤ 140737488355328 →
  (∀ M', Bld TB T8 n0 M' b (xs ++ s) → KeepTo n0 [b] M M' → Q (.tup [N .i64 s.length, .sc .nilIface]) M') → c [.ptr b 0, St s] M Q

theorem writeString_spec {TB T8 : Nat} {c : CallT} (hc : CheckC TB c) : WriteStringC TB T8 fun args M Q => ∃ a0 a1, args = [a0, a1] ∧ W_strings_Builder_WriteString c T8 a0 a1 M Q := by
  intro n0 M b xs s Q hB hl hQ
  obtain ⟨addr, buf, hh, ha, ho, he⟩ := hB.row
  refine ⟨_, _, rfl, ?_⟩
  unfold W_strings_Builder_WriteString
  refine hc hh ha ho.one fun M1 h1 hnx hbs hot => ?_
  have hlt := hB.lt
  have hn := hB.hn
  have ho1 : Ow BY M1 n0 T8 buf xs := Own.same ho hnx (fun c hc => hot c (by have := ho.blk c hc; omega)) hbs
  simp only [go_sem, RM.cell_of h1]
  have hnew : newL M1 1 [N .u8 0] false (St s) = some (s.length, BY.row s) := by
    simp only [newL, BY_row, if_true]
  by_cases hne0 : xs ++ s = []
  · obtain ⟨rfl, rfl⟩ := List.append_eq_nil_iff.1 hne0
    have hb0 := he rfl
    subst hb0
    refine ⟨0, [], hnew, by omega, by omega, nilS, M1, by simp [appM], ?_⟩
    simp only [go_sem, RM.stores_of h1]
    rw [storesL_some (by simp) (by simp) (by simp [oneCell])]
    simp only [go_sem]
    refine hQ _ ⟨hlt, by show n0 ≤ M1.next; omega, .ptr b 0, nilS, by simp [go_sem], .inr rfl, .nil, fun _ => rfl⟩ ⟨hbs, by show M.next ≤ M1.next; omega, fun c h3 h4 => ?_⟩
    have h4 : c ≠ b := by simpa using h4
    simp only [go_sem, if_neg h4]
    exact hot c h4
  refine app_own ho1 (by omega) (Nat.le_refl _) hnew (by rw [BY.row_len]; rfl) (BY.row_all s) (by omega) (by omega) fun v' M2 h2 k2 hnx2 hv => ?_
  rw [← BY.row_append] at h2
  have h2 : Ow BY M2 n0 T8 v' (xs ++ s) := by
    show Own M2 n0 T8 1 v' (BY.row (xs ++ s)) (xs ++ s).length
    rw [List.length_append]; exact h2
  have hb2 : b ∉ blkOf buf := fun hm => by have := ho.blk b hm; omega
  have hh2 := k2.heap_of h1 (by omega) hb2
  simp only [go_sem, RM.stores_of hh2]
  rw [Own.cells h2, storesL_some (by simp) (by simp) (by simp [Own.one h2])]
  simp only [go_sem]
  have hne : ∀ c ∈ blkOf v', c ≠ b := fun c hm => by have := h2.blk c hm; omega
  refine hQ _ ⟨hlt, by show n0 ≤ M2.next; omega, .ptr b 0, v', RM.put_same _ _, .inr rfl, Own.same h2 rfl (fun c hm => by simp [go_sem, hne c hm]) rfl, fun e => absurd e hne0⟩ ⟨?_, ?_, fun c h3 h4 => ?_⟩
  · exact k2.base.trans hbs
  · show M.next ≤ M2.next
    omega
  · have h4 : c ≠ b := by simpa using h4
    simp only [go_sem, if_neg h4]
    rw [k2.heap c (by omega) (fun hm => by have := ho.blk c hm; omega), hot c h4]

def StringC (TB T8 : Nat) (c : CallT) : Prop := ∀ {n0 : Nat} {M : RM} {b : Nat} {xs : List UInt8} {Q : PostV}, Bld TB T8 n0 M b xs → xs.length ≤ 4611686018427387904 →
  (∀ M', KeepTo n0 [] M M' → Q (St xs) M') → c [.ptr b 0] M Q

theorem string_spec {TB T8 : Nat} : StringC TB T8 fun args M Q => ∃ a0, args = [a0] ∧ W_strings_Builder_String T8 a0 M Q := by
  intro n0 M b xs Q hB hl hQ
  obtain ⟨addr, buf, hh, ha, ho, he⟩ := hB.row
  refine ⟨_, rfl, ?_⟩
  unfold W_strings_Builder_String
  simp only [go_sem, RM.cell_of hh]
  by_cases hx : xs = []
  · subst hx
    have hb0 := he rfl
    subst hb0
    simp only [sdataW, go_sem]
    exact .inr ⟨rfl, rfl, hQ _ (KeepTo.refl _ _ _)⟩
  · obtain ⟨nn, hnn⟩ : ∃ nn, xs.length = nn + 1 := ⟨xs.length - 1, by have := List.length_pos_iff.2 hx; omega⟩
    have hcs : mapO byteOf (BY.row xs) = some xs := by rw [BY_row]; exact mapO_bytes xs
    have hl8 : (BY.row xs).length = nn + 1 := by rw [BY.row_len, hnn]; exact Nat.mul_one _
    have ho' : Own M n0 T8 1 buf (BY.row xs) (nn + 1) := by rw [← hnn]; exact ho
    generalize BY.row xs = cs at hcs hl8 ho'
    cases ho' with
    | op c n cs h1 h2 h3 h4 =>
      simp only [sdataW, go_sem]
      refine .inl ⟨c, nn, cs, true, 0, xs, rfl, rfl, by omega, h3, by omega, by rw [List.take_of_length_le (by omega)]; exact hcs, hQ _ ⟨rfl, Nat.le_refl _, fun d hd _ => ?_⟩⟩
      simp only [go_sem]
      rw [if_neg (by omega)]
/-- A new builder. -/
theorem Bld.new {TB T8 n0 b : Nat} {M : RM} (hh : M.heap b = some (.row [.sc (.pointer none), nilS] false TB 0)) (hb : b < n0) (hn : n0 ≤ M.next) : Bld TB T8 n0 M b [] :=
  ⟨hb, hn, _, _, hh, .inl rfl, .nil, fun _ => rfl⟩
end Go.Ab.Vl
