/- Part 4 of the ground of the proofs of this seat (texts WDot to R13). By an AI agent. -/
import Derived.Test.YtkmkfgepdlkdkaaJ3
import Derived.ChangeShapes
import Derived.OpenShut
import Derived.WideKeyArgs
import GoSem.ClaimJoined
/- Functions of the program as predicates (printed by a program of ours). By an AI agent. -/
set_option maxRecDepth 100000
set_option linter.unusedVariables false
set_option linter.unusedSimpArgs false
namespace Go.Ab.Dot
open Go Go.Ab

/-- gosem.cut.init -/
def W_gosem_cut_init (x_gosem_cut : CallT) (M0 : RM) (Q : PostV) : Prop :=
 x_gosem_cut [] M0 fun t0 M =>
 Q (.tup []) M

/-- rolodex/rolodexlaw13.DotKnown -/
def W_rolodex_rolodexlaw13_DotKnown (c_rolodex_rolodexlaw13_awake : CallT) (c_rolodex_dot_New : CallT) (T_uint8 : Nat) (c_rolodex_dot_Decode : CallT) (c_rolodex_dot_Set_Add : CallT) (c_rolodex_dot_Set_Parts : CallT) (c_rolodex_dot_Good : CallT) (M0 : RM) (Q : PostV) : Prop :=
 c_rolodex_rolodexlaw13_awake [] M0 fun t8 M =>
 notW t8 fun t9 =>
 condW t9 (
 Q (Bo false) M) (
 c_rolodex_dot_New [] M fun t10 M_0 =>
 rowsW T_uint8 4 [(N .u8 0)] [(0, 1, (N .u8 1)), (1, 1, (N .u8 0)), (2, 1, (N .u8 0)), (3, 1, (N .u8 0))] fun r f =>
 newW r f M_0 fun t12 M_1 =>
 c_rolodex_dot_Decode [t12] M_1 fun t13 M_2 =>
 extW t13 0 fun t14 =>
 extW t13 1 fun t15 =>
 rowsW T_uint8 5 [(N .u8 0)] [(0, 1, (N .u8 1)), (1, 1, (N .u8 0)), (2, 1, (N .u8 0)), (3, 1, (N .u8 1)), (4, 1, (N .u8 1))] fun r_3 f_4 =>
 newW r_3 f_4 M_2 fun t17 M_5 =>
 c_rolodex_dot_Decode [t17] M_5 fun t18 M_6 =>
 extW t18 0 fun t19 =>
 extW t18 1 fun t20 =>
 rowsW T_uint8 1 [(N .u8 0)] [(0, 1, (N .u8 0))] fun r_7 f_8 =>
 newW r_7 f_8 M_6 fun t22 M_9 =>
 c_rolodex_dot_Decode [t22] M_9 fun t23 M_10 =>
 extW t23 0 fun t24 =>
 extW t23 1 fun t25 =>
 buildW [(N .i64 0), (N .u64 0)] [(0, 1, (N .i64 16)), (1, 1, (N .u64 1))] fun t27 =>
 c_rolodex_dot_Set_Add [t10, t27] M_10 fun t28 M_11 =>
 intW .eql t28 (N .i64 1) fun t29 =>
 guardM t29 true (fun k => k t10 M_11) (fun k => k .undef M_11) fun t31 M_12 =>
 guardM t29 true (fun k_13 => buildW [(N .i64 0), (N .u64 0)] [(1, 1, (N .u64 0))] fun t32 =>
 k_13 t32 M_12) (fun k => k .undef M_12) fun t32_14 M_15 =>
 guardM t29 true (fun k_16 => c_rolodex_dot_Set_Add [t31, t32_14] M_15 fun t33 M_17 =>
 k_16 t33 M_17) (fun k => k .undef M_15) fun t33_18 M_19 =>
 guardM t29 true (fun k_20 => intW .eql t33_18 (N .i64 1) fun t34 =>
 k_20 t34 M_19) (fun k => k .undef M_19) fun t34_21 M_22 =>
 pickW t29 t34_21 (Bo false) fun t35 =>
 guardM t35 true (fun k_23 => k_23 t10 M_22) (fun k => k .undef M_22) fun t37 M_24 =>
 guardM t35 true (fun k_25 => buildW [(N .i64 0), (N .u64 0)] [(1, 1, (N .u64 1099511627777))] fun t38 =>
 k_25 t38 M_24) (fun k => k .undef M_24) fun t38_26 M_27 =>
 guardM t35 true (fun k_28 => c_rolodex_dot_Set_Add [t37, t38_26] M_27 fun t39 M_29 =>
 k_28 t39 M_29) (fun k => k .undef M_27) fun t39_30 M_31 =>
 guardM t35 true (fun k_32 => intW .eql t39_30 (N .i64 1) fun t40 =>
 k_32 t40 M_31) (fun k => k .undef M_31) fun t40_33 M_34 =>
 pickW t35 t40_33 (Bo false) fun t41 =>
 guardM t41 true (fun k_35 => k_35 t10 M_34) (fun k => k .undef M_34) fun t43 M_36 =>
 guardM t41 true (fun k_37 => buildW [(N .i64 0), (N .u64 0)] [(1, 1, (N .u64 1099511627776))] fun t44 =>
 k_37 t44 M_36) (fun k => k .undef M_36) fun t44_38 M_39 =>
 guardM t41 true (fun k_40 => c_rolodex_dot_Set_Add [t43, t44_38] M_39 fun t45 M_41 =>
 k_40 t45 M_41) (fun k => k .undef M_39) fun t45_42 M_43 =>
 guardM t41 true (fun k_44 => intW .eql t45_42 (N .i64 0) fun t46 =>
 k_44 t46 M_43) (fun k => k .undef M_43) fun t46_45 M_46 =>
 pickW t41 t46_45 (Bo false) fun t47 =>
 guardM t47 true (fun k_47 => k_47 t15 M_46) (fun k => k .undef M_46) fun t49 M_48 =>
 guardM t47 true (fun k_49 => intW .eql t49 (N .i64 14) fun t50 =>
 k_49 t50 M_48) (fun k => k .undef M_48) fun t50_50 M_51 =>
 pickW t47 t50_50 (Bo false) fun t51 =>
 guardM t51 true (fun k_52 => k_52 t20 M_51) (fun k => k .undef M_51) fun t53 M_53 =>
 guardM t51 true (fun k_54 => intW .eql t53 (N .i64 14) fun t54 =>
 k_54 t54 M_53) (fun k => k .undef M_53) fun t54_55 M_56 =>
 pickW t51 t54_55 (Bo false) fun t55 =>
 guardM t55 true (fun k_57 => k_57 t25 M_56) (fun k => k .undef M_56) fun t57 M_58 =>
 guardM t55 true (fun k_59 => intW .eql t57 (N .i64 0) fun t58 =>
 k_59 t58 M_58) (fun k => k .undef M_58) fun t58_60 M_61 =>
 pickW t55 t58_60 (Bo false) fun t59 =>
 guardM t59 true (fun k_62 => k_62 t24 M_61) (fun k => k .undef M_61) fun t61 M_63 =>
 guardM t59 true (fun k_64 => c_rolodex_dot_Set_Parts [t61] M_63 fun t62 M_65 =>
 k_64 t62 M_65) (fun k => k .undef M_63) fun t62_66 M_67 =>
 guardM t59 true (fun k_68 => lenW t62_66 fun t63 =>
 k_68 t63 M_67) (fun k => k .undef M_67) fun t63_69 M_70 =>
 guardM t59 true (fun k_71 => intW .eql t63_69 (N .i64 0) fun t64 =>
 k_71 t64 M_70) (fun k => k .undef M_70) fun t64_72 M_73 =>
 pickW t59 t64_72 (Bo false) fun t65 =>
 guardM t65 true (fun k_74 => buildW [(N .i64 0), (N .u64 0)] [(0, 1, (N .i64 (-1))), (1, 1, (N .u64 1))] fun t67 =>
 k_74 t67 M_73) (fun k => k .undef M_73) fun t67_75 M_76 =>
 guardM t65 true (fun k_77 => c_rolodex_dot_Good [t67_75] M_76 fun t68 M_78 =>
 k_77 t68 M_78) (fun k => k .undef M_76) fun t68_79 M_80 =>
 guardM t65 true (fun k_81 => notW t68_79 fun t69 =>
 k_81 t69 M_80) (fun k => k .undef M_80) fun t69_82 M_83 =>
 pickW t65 t69_82 (Bo false) fun t70 =>
 Q t70 M_83)

/-- rolodex/rolodexlaw13.DotSets -/
def W_rolodex_rolodexlaw13_DotSets (T_api_Dot : Nat) (c_rolodex_rolodexlaw13_awake : CallT) (c_rolodex_dot_New : CallT) (c_rolodex_dot_Set_Add : CallT) (c_rolodex_rolodexref13_Good : CallT) (c_rolodex_dot_Good : CallT) (c_rolodex_rolodexref13_Add : CallT) (c_rolodex_dot_Set_Copy : CallT) (c_rolodex_dot_Set_Encode : CallT) (c_rolodex_dot_Decode : CallT) (c_rolodex_rolodexlaw13_is : CallT) (c_rolodex_dot_Set_Has : CallT) (c_rolodex_rolodexref13_Has : CallT) (a0 a1 : AV) (M0 : RM) (Q : PostV) : Prop :=
 boxW T_api_Dot a1 fun r f =>
 newW r f M0 fun t3 M =>
 c_rolodex_rolodexlaw13_awake [] M fun t12 M_0 =>
 notW t12 fun t13 =>
 condW t13 (
 Q (Bo false) M_0) (
 lenW a0 fun t15 =>
 intW .gtr t15 (N .i64 200) fun t16 =>
 condW t16 (
 Q (Bo true) M_0) (
 c_rolodex_dot_New [] M_0 fun t17 M_1 =>
 loopW (fun next xs M_2 => -- [6, 7]
 lenW a0 fun t20 =>
 intW .lss (nthD xs 1) t20 fun t21 =>
 condW t21 (
 joinW (fun J =>
 idxS a0 (nthD xs 1) 2 fun t27 =>
 loadN M_2 t27 2 fun t28 =>
 c_rolodex_dot_Set_Add [t17, t28] M_2 fun t29 M_3 =>
 idxS a0 (nthD xs 1) 2 fun t32 =>
 loadN M_3 t32 2 fun t33 =>
 idxS a0 (nthD xs 1) 2 fun t37 =>
 loadN M_3 t37 2 fun t38 =>
 c_rolodex_rolodexref13_Good [t33] M_3 fun t34 M_4 =>
 loadN M_4 t37 2 fun t38_55 =>
 (t38_55 = t38 ∧ c_rolodex_dot_Good [t38] M_4 fun t39 M_5 =>
 boolEqW true t34 t39 fun t40 =>
 guardK t40 false (fun k => k t29 M_5 none) (fun k => k .undef M_5 none) fun t42 M_6 b =>
 guardK t40 false (fun k_7 => intW .eql t42 (N .i64 0) fun t43 =>
 k_7 t43 M_6 none) (fun k => k .undef M_6 none) fun t43_8 M_9 b_10 =>
 guardK t40 false (fun k_11 => k_11 a0 M_9 none) (fun k => k .undef M_9 none) fun t44 M_12 b_13 =>
 guardK t40 false (fun k_14 => k_14 (nthD xs 1) M_12 none) (fun k => k .undef M_12 none) fun t45 M_15 b_16 =>
 guardK t40 false (fun k_17 => idxS t44 t45 2 fun t46 =>
 k_17 t46 M_15 none) (fun k => k .undef M_15 none) fun t46_18 M_19 b_20 =>
 guardK t40 false (fun k_21 => loadN M_19 t46_18 2 fun t47 =>
 k_21 t47 M_19 none) (fun k => k .undef M_19 none) fun t47_22 M_23 b_24 =>
 guardM t40 false (fun k_25 => c_rolodex_rolodexref13_Good [t47_22] M_23 fun t48 M_26 =>
 k_25 t48 M_26) (fun k => k .undef M_23) fun t48_27 M_28 =>
 guardK t40 false (fun k_29 => boolEqW true t43_8 t48_27 fun t49 =>
 k_29 t49 M_28 none) (fun k => k .undef M_28 none) fun t49_30 M_31 b_32 =>
 pickW t40 (Bo true) t49_30 fun t50 =>
 guardK t50 false (fun k_33 => k_33 t29 M_31 none) (fun k => k .undef M_31 none) fun t52 M_34 b_35 =>
 guardK t50 false (fun k_36 => intW .neq t52 (N .i64 0) fun t53 =>
 k_36 t53 M_34 none) (fun k => k .undef M_34 none) fun t53_37 M_38 b_39 =>
 guardK t50 false (fun k_40 => k_40 t53_37 M_38 none) (fun k => k .undef M_38 none) fun t54 M_41 b_42 =>
 guardK t54 true (fun k_43 => k_43 t29 M_41 none) (fun k => k .undef M_41 none) fun t55 M_44 b_45 =>
 guardK t54 true (fun k_46 => intW .neq t55 (N .i64 1) fun t56 =>
 k_46 t56 M_44 none) (fun k => k .undef M_44 none) fun t56_47 M_48 b_49 =>
 guardK t50 false (fun k_50 => pickW t54 t56_47 (Bo false) fun t57 =>
 k_50 t57 M_48 none) (fun k => k .undef M_48 none) fun t57_51 M_52 b_53 =>
 pickW t50 (Bo true) t57_51 fun t58 =>
 condW t58 (
 Q (Bo false) M_52) (
 intW .eql t29 (N .i64 0) fun t60 =>
 condW t60 (
 idxS a0 (nthD xs 1) 2 fun t64 =>
 loadN M_52 t64 2 fun t65 =>
 c_rolodex_rolodexref13_Add [(nthD xs 0), t65] M_52 fun t66 M_54 =>
 J [t66] M_54) (
 J [(nthD xs 0)] M_52)))) (fun xs_56 M_57 => -- [6]
 intW .add (nthD xs 1) (N .i64 1) fun t23 =>
 next [(nthD xs_56 0), t23] M_57)) (
 c_rolodex_dot_Set_Copy [t17] M_2 fun t68 M_58 =>
 c_rolodex_dot_Set_Encode [t17] M_58 fun t71 M_59 =>
 c_rolodex_dot_Decode [t71] M_59 fun t72 M_60 =>
 extW t72 0 fun t73 =>
 extW t72 1 fun t74 =>
 intW .neq t74 (N .i64 0) fun t76 =>
 guardK t76 false (fun k_61 => k_61 t17 M_60 none) (fun k => k .undef M_60 none) fun t78 M_62 b_63 =>
 guardK t76 false (fun k_64 => k_64 (nthD xs 0) M_62 none) (fun k => k .undef M_62 none) fun t79 M_65 b_66 =>
 guardM t76 false (fun k_67 => c_rolodex_rolodexlaw13_is [t78, t79] M_65 fun t80 M_68 =>
 k_67 t80 M_68) (fun k => k .undef M_65) fun t80_69 M_70 =>
 guardK t76 false (fun k_71 => notW t80_69 fun t81 =>
 k_71 t81 M_70 none) (fun k => k .undef M_70 none) fun t81_72 M_73 b_74 =>
 pickW t76 (Bo true) t81_72 fun t82 =>
 guardK t82 false (fun k_75 => k_75 t68 M_73 none) (fun k => k .undef M_73 none) fun t84 M_76 b_77 =>
 guardK t82 false (fun k_78 => k_78 (nthD xs 0) M_76 none) (fun k => k .undef M_76 none) fun t85 M_79 b_80 =>
 guardM t82 false (fun k_81 => c_rolodex_rolodexlaw13_is [t84, t85] M_79 fun t86 M_82 =>
 k_81 t86 M_82) (fun k => k .undef M_79) fun t86_83 M_84 =>
 guardK t82 false (fun k_85 => notW t86_83 fun t87 =>
 k_85 t87 M_84 none) (fun k => k .undef M_84 none) fun t87_86 M_87 b_88 =>
 pickW t82 (Bo true) t87_86 fun t88 =>
 guardK t88 false (fun k_89 => k_89 t73 M_87 none) (fun k => k .undef M_87 none) fun t90 M_90 b_91 =>
 guardK t88 false (fun k_92 => k_92 (nthD xs 0) M_90 none) (fun k => k .undef M_90 none) fun t91 M_93 b_94 =>
 guardM t88 false (fun k_95 => c_rolodex_rolodexlaw13_is [t90, t91] M_93 fun t92 M_96 =>
 k_95 t92 M_96) (fun k => k .undef M_93) fun t92_97 M_98 =>
 guardK t88 false (fun k_99 => notW t92_97 fun t93 =>
 k_99 t93 M_98 none) (fun k => k .undef M_98 none) fun t93_100 M_101 b_102 =>
 pickW t88 (Bo true) t93_100 fun t94 =>
 guardK t94 false (fun k_103 => k_103 t17 M_101 none) (fun k => k .undef M_101 none) fun t96 M_104 b_105 =>
 guardK t94 false (fun k_106 => loadN M_104 t3 2 fun t97 =>
 k_106 t97 M_104 none) (fun k => k .undef M_104 none) fun t97_107 M_108 b_109 =>
 guardK t94 false (fun k_110 => k_110 (nthD xs 0) M_108 none) (fun k => k .undef M_108 none) fun t99 M_111 b_112 =>
 guardK t94 false (fun k_113 => loadN M_111 t3 2 fun t100 =>
 k_113 t100 M_111 none) (fun k => k .undef M_111 none) fun t100_114 M_115 b_116 =>
 guardM t94 false (fun k_117 => c_rolodex_dot_Set_Has [t96, t97_107] M_115 fun t98 M_118 =>
 k_117 t98 M_118) (fun k => k .undef M_115) fun t98_119 M_120 =>
 guardP t94 false (fun k_121 => loadN M_120 t3 2 fun t100_122 =>
 (t100_122 = t100_114 ∧ k_121)) (fun k => k) (guardM t94 false (fun k_123 => c_rolodex_rolodexref13_Has [t99, t100_114] M_120 fun t101 M_124 =>
 k_123 t101 M_124) (fun k => k .undef M_120) fun t101_125 M_126 =>
 guardK t94 false (fun k_127 => boolEqW true t98_119 t101_125 fun t102 =>
 k_127 t102 M_126 none) (fun k => k .undef M_126 none) fun t102_128 M_129 b_130 =>
 pickW t94 (Bo true) t102_128 fun t103 =>
 condW t103 (
 Q (Bo false) M_129) (
 buildW [(N .i64 0), (N .u64 0)] [(0, 1, (N .i64 1)), (1, 1, (N .u64 77777))] fun t105 =>
 c_rolodex_dot_Set_Add [t68, t105] M_129 fun t106 M_131 =>
 c_rolodex_rolodexlaw13_is [t17, (nthD xs 0)] M_131 fun t109 M_132 =>
 Q t109 M_132)))) [(.sc (.slice none 0 0)), (N .i64 0)] M_1))

/-- rolodex/rolodexlaw13.DotJoins -/
def W_rolodex_rolodexlaw13_DotJoins (c_rolodex_rolodexlaw13_awake : CallT) (c_rolodex_rolodexlaw13_of : CallT) (c_rolodex_rolodexref13_Add : CallT) (c_rolodex_dot_Set_Copy : CallT) (c_rolodex_dot_Set_Join : CallT) (c_rolodex_rolodexlaw13_is : CallT) (c_rolodex_dot_Set_Within : CallT) (a0 a1 a2 : AV) (M0 : RM) (Q : PostV) : Prop :=
 c_rolodex_rolodexlaw13_awake [] M0 fun t21 M =>
 notW t21 fun t22 =>
 condW t22 (
 Q (Bo false) M) (
 lenW a0 fun t24 =>
 intW .gtr t24 (N .i64 80) fun t25 =>
 guardM t25 false (fun k => k a1 M) (fun k => k .undef M) fun t27 M_0 =>
 guardM t25 false (fun k_1 => lenW t27 fun t28 =>
 k_1 t28 M_0) (fun k => k .undef M_0) fun t28_2 M_3 =>
 guardM t25 false (fun k_4 => intW .gtr t28_2 (N .i64 80) fun t29 =>
 k_4 t29 M_3) (fun k => k .undef M_3) fun t29_5 M_6 =>
 pickW t25 (Bo true) t29_5 fun t30 =>
 guardM t30 false (fun k_7 => k_7 a2 M_6) (fun k => k .undef M_6) fun t32 M_8 =>
 guardM t30 false (fun k_9 => lenW t32 fun t33 =>
 k_9 t33 M_8) (fun k => k .undef M_8) fun t33_10 M_11 =>
 guardM t30 false (fun k_12 => intW .gtr t33_10 (N .i64 80) fun t34 =>
 k_12 t34 M_11) (fun k => k .undef M_11) fun t34_13 M_14 =>
 pickW t30 (Bo true) t34_13 fun t35 =>
 condW t35 (
 Q (Bo true) M_14) (
 c_rolodex_rolodexlaw13_of [a0] M_14 fun t38 M_15 =>
 extW t38 0 fun t39 =>
 extW t38 1 fun t40 =>
 c_rolodex_rolodexlaw13_of [a1] M_15 fun t43 M_16 =>
 extW t43 0 fun t44 =>
 extW t43 1 fun t45 =>
 c_rolodex_rolodexlaw13_of [a2] M_16 fun t48 M_17 =>
 extW t48 0 fun t49 =>
 extW t48 1 fun t50 =>
 loopW (fun next xs M_18 => -- [13, 14]
 lenW t45 fun t54 =>
 intW .lss (nthD xs 1) t54 fun t55 =>
 condW t55 (
 idxS t45 (nthD xs 1) 2 fun t61 =>
 loadN M_18 t61 2 fun t62 =>
 c_rolodex_rolodexref13_Add [(nthD xs 0), t62] M_18 fun t63 M_19 =>
 intW .add (nthD xs 1) (N .i64 1) fun t57 =>
 next [t63, t57] M_19) (
 loopW (fun next_20 xs_21 M_22 => -- [13, 16]
 lenW t50 fun t67 =>
 intW .lss (nthD xs_21 1) t67 fun t68 =>
 condW t68 (
 idxS t50 (nthD xs_21 1) 2 fun t74 =>
 loadN M_22 t74 2 fun t75 =>
 c_rolodex_rolodexref13_Add [(nthD xs_21 0), t75] M_22 fun t76 M_23 =>
 intW .add (nthD xs_21 1) (N .i64 1) fun t70 =>
 next_20 [t76, t70] M_23) (
 c_rolodex_dot_Set_Copy [t39] M_22 fun t78 M_24 =>
 c_rolodex_dot_Set_Join [t78, t44] M_24 fun t81 M_25 =>
 c_rolodex_dot_Set_Copy [t78] M_25 fun t83 M_26 =>
 c_rolodex_dot_Set_Join [t83, t49] M_26 fun t86 M_27 =>
 c_rolodex_dot_Set_Copy [t49] M_27 fun t88 M_28 =>
 c_rolodex_dot_Set_Join [t88, t44] M_28 fun t91 M_29 =>
 c_rolodex_dot_Set_Join [t88, t39] M_29 fun t94 M_30 =>
 c_rolodex_dot_Set_Join [t88, t88] M_30 fun t97 M_31 =>
 c_rolodex_dot_Set_Join [t88, t44] M_31 fun t100 M_32 =>
 lenW (nthD xs 0) fun t102 =>
 lenW t45 fun t104 =>
 intW .eql t102 t104 fun t105 =>
 c_rolodex_rolodexlaw13_is [t78, (nthD xs 0)] M_32 fun t108 M_33 =>
 guardM t108 true (fun k_34 => k_34 t83 M_33) (fun k => k .undef M_33) fun t110 M_35 =>
 guardM t108 true (fun k_36 => k_36 (nthD xs_21 0) M_35) (fun k => k .undef M_35) fun t111 M_37 =>
 guardM t108 true (fun k_38 => c_rolodex_rolodexlaw13_is [t110, t111] M_37 fun t112 M_39 =>
 k_38 t112 M_39) (fun k => k .undef M_37) fun t112_40 M_41 =>
 pickW t108 t112_40 (Bo false) fun t113 =>
 guardM t113 true (fun k_42 => k_42 t88 M_41) (fun k => k .undef M_41) fun t115 M_43 =>
 guardM t113 true (fun k_44 => k_44 (nthD xs_21 0) M_43) (fun k => k .undef M_43) fun t116 M_45 =>
 guardM t113 true (fun k_46 => c_rolodex_rolodexlaw13_is [t115, t116] M_45 fun t117 M_47 =>
 k_46 t117 M_47) (fun k => k .undef M_45) fun t117_48 M_49 =>
 pickW t113 t117_48 (Bo false) fun t118 =>
 guardM t118 true (fun k_50 => k_50 t39 M_49) (fun k => k .undef M_49) fun t120 M_51 =>
 guardM t118 true (fun k_52 => k_52 t40 M_51) (fun k => k .undef M_51) fun t121 M_53 =>
 guardM t118 true (fun k_54 => c_rolodex_rolodexlaw13_is [t120, t121] M_53 fun t122 M_55 =>
 k_54 t122 M_55) (fun k => k .undef M_53) fun t122_56 M_57 =>
 pickW t118 t122_56 (Bo false) fun t123 =>
 guardM t123 true (fun k_58 => k_58 t44 M_57) (fun k => k .undef M_57) fun t125 M_59 =>
 guardM t123 true (fun k_60 => k_60 t45 M_59) (fun k => k .undef M_59) fun t126 M_61 =>
 guardM t123 true (fun k_62 => c_rolodex_rolodexlaw13_is [t125, t126] M_61 fun t127 M_63 =>
 k_62 t127 M_63) (fun k => k .undef M_61) fun t127_64 M_65 =>
 pickW t123 t127_64 (Bo false) fun t128 =>
 guardM t128 true (fun k_66 => k_66 t49 M_65) (fun k => k .undef M_65) fun t130 M_67 =>
 guardM t128 true (fun k_68 => k_68 t50 M_67) (fun k => k .undef M_67) fun t131 M_69 =>
 guardM t128 true (fun k_70 => c_rolodex_rolodexlaw13_is [t130, t131] M_69 fun t132 M_71 =>
 k_70 t132 M_71) (fun k => k .undef M_69) fun t132_72 M_73 =>
 pickW t128 t132_72 (Bo false) fun t133 =>
 guardM t133 true (fun k_74 => k_74 t39 M_73) (fun k => k .undef M_73) fun t135 M_75 =>
 guardM t133 true (fun k_76 => k_76 t83 M_75) (fun k => k .undef M_75) fun t136 M_77 =>
 guardM t133 true (fun k_78 => c_rolodex_dot_Set_Within [t135, t136] M_77 fun t137 M_79 =>
 k_78 t137 M_79) (fun k => k .undef M_77) fun t137_80 M_81 =>
 pickW t133 t137_80 (Bo false) fun t138 =>
 guardM t138 true (fun k_82 => k_82 t44 M_81) (fun k => k .undef M_81) fun t140 M_83 =>
 guardM t138 true (fun k_84 => k_84 t78 M_83) (fun k => k .undef M_83) fun t141 M_85 =>
 guardM t138 true (fun k_86 => c_rolodex_dot_Set_Within [t140, t141] M_85 fun t142 M_87 =>
 k_86 t142 M_87) (fun k => k .undef M_85) fun t142_88 M_89 =>
 pickW t138 t142_88 (Bo false) fun t143 =>
 guardM t143 true (fun k_90 => k_90 t78 M_89) (fun k => k .undef M_89) fun t145 M_91 =>
 guardM t143 true (fun k_92 => k_92 t88 M_91) (fun k => k .undef M_91) fun t146 M_93 =>
 guardM t143 true (fun k_94 => c_rolodex_dot_Set_Within [t145, t146] M_93 fun t147 M_95 =>
 k_94 t147 M_95) (fun k => k .undef M_93) fun t147_96 M_97 =>
 pickW t143 t147_96 (Bo false) fun t148 =>
 guardM t148 true (fun k_98 => k_98 t39 M_97) (fun k => k .undef M_97) fun t150 M_99 =>
 guardM t148 true (fun k_100 => k_100 t44 M_99) (fun k => k .undef M_99) fun t151 M_101 =>
 guardM t148 true (fun k_102 => c_rolodex_dot_Set_Within [t150, t151] M_101 fun t152 M_103 =>
 k_102 t152 M_103) (fun k => k .undef M_101) fun t152_104 M_105 =>
 guardM t148 true (fun k_106 => k_106 t105 M_105) (fun k => k .undef M_105) fun t153 M_107 =>
 guardM t148 true (fun k_108 => boolEqW false t152_104 t153 fun t154 =>
 k_108 t154 M_107) (fun k => k .undef M_107) fun t154_109 M_110 =>
 pickW t148 t154_109 (Bo false) fun t155 =>
 Q t155 M_110)) [(nthD xs 0), (N .i64 0)] M_18)) [t40, (N .i64 0)] M_17))

/-- rolodex/rolodexlaw13.DotBytes -/
def W_rolodex_rolodexlaw13_DotBytes (c_rolodex_rolodexlaw13_awake : CallT) (c_rolodex_rolodexlaw13_bytes : CallT) (c_rolodex_rolodexlaw13_of : CallT) (c_rolodex_dot_Set_Encode : CallT) (a0 a1 a2 a3 : AV) (M0 : RM) (Q : PostV) : Prop :=
 c_rolodex_rolodexlaw13_awake [] M0 fun t12 M =>
 notW t12 fun t13 =>
 guardM t13 false (fun k => k a0 M) (fun k => k .undef M) fun t15 M_0 =>
 guardM t13 false (fun k_1 => c_rolodex_rolodexlaw13_bytes [t15] M_0 fun t16 M_2 =>
 k_1 t16 M_2) (fun k => k .undef M_0) fun t16_3 M_4 =>
 guardM t13 false (fun k_5 => notW t16_3 fun t17 =>
 k_5 t17 M_4) (fun k => k .undef M_4) fun t17_6 M_7 =>
 pickW t13 (Bo true) t17_6 fun t18 =>
 condW t18 (
 Q (Bo false) M_7) (
 lenW a1 fun t20 =>
 intW .gtr t20 (N .i64 40) fun t21 =>
 condW t21 (
 Q (Bo true) M_7) (
 c_rolodex_rolodexlaw13_of [a1] M_7 fun t24 M_8 =>
 extW t24 0 fun t25 =>
 extW t24 1 fun t26 =>
 c_rolodex_dot_Set_Encode [t25] M_8 fun t28 M_9 =>
 joinW (fun J =>
 intW .geq a2 (N .i64 0) fun t30 =>
 guardM t30 true (fun k_10 => k_10 a2 M_9) (fun k => k .undef M_9) fun t32 M_11 =>
 guardM t30 true (fun k_12 => k_12 t28 M_11) (fun k => k .undef M_11) fun t33 M_13 =>
 guardM t30 true (fun k_14 => lenW t33 fun t34 =>
 k_14 t34 M_13) (fun k => k .undef M_13) fun t34_15 M_16 =>
 guardM t30 true (fun k_17 => intW .lss t32 t34_15 fun t35 =>
 k_17 t35 M_16) (fun k => k .undef M_16) fun t35_18 M_19 =>
 pickW t30 t35_18 (Bo false) fun t36 =>
 condW t36 (
 idxS t28 a2 1 fun t41 =>
 load1 M_19 t41 fun t42 =>
 intW .xor t42 a3 fun t44 =>
 idxS t28 a2 1 fun t45 =>
 storeW M_19 t45 t44 1 fun M_20 =>
 J [] M_20) (
 J [] M_19)) (fun xs M_21 => -- []
 c_rolodex_rolodexlaw13_bytes [t28] M_21 fun t47 M_22 =>
 Q t47 M_22)))

/-- rolodex/rolodexlaw13.DotOrder -/
def W_rolodex_rolodexlaw13_DotOrder (T_api_Dot : Nat) (c_rolodex_rolodexlaw13_awake : CallT) (c_rolodex_dot_Less : CallT) (c_rolodex_rolodexref13_Less : CallT) (a0 a1 a2 : AV) (M0 : RM) (Q : PostV) : Prop :=
 boxW T_api_Dot a0 fun r f =>
 newW r f M0 fun t3 M =>
 boxW T_api_Dot a1 fun r_0 f_1 =>
 newW r_0 f_1 M fun t4 M_2 =>
 boxW T_api_Dot a2 fun r_3 f_4 =>
 newW r_3 f_4 M_2 fun t5 M_5 =>
 c_rolodex_rolodexlaw13_awake [] M_5 fun t9 M_6 =>
 notW t9 fun t10 =>
 condW t10 (
 Q (Bo false) M_6) (
 loadN M_6 t3 2 fun t11 =>
 loadN M_6 t4 2 fun t12 =>
 c_rolodex_dot_Less [t11, t12] M_6 fun t13 M_7 =>
 loadN M_7 t4 2 fun t14 =>
 loadN M_7 t3 2 fun t15 =>
 c_rolodex_dot_Less [t14, t15] M_7 fun t16 M_8 =>
 loadN M_8 t3 2 fun t18 =>
 loadN M_8 t4 2 fun t19 =>
 c_rolodex_rolodexref13_Less [t18, t19] M_8 fun t20 M_9 =>
 boolEqW false t13 t20 fun t21 =>
 guardM t21 true (fun k => k t13 M_9) (fun k => k .undef M_9) fun t23 M_10 =>
 guardM t21 true (fun k_11 => k_11 t23 M_10) (fun k => k .undef M_10) fun t24 M_12 =>
 guardM t24 true (fun k_13 => k_13 t16 M_12) (fun k => k .undef M_12) fun t25 M_14 =>
 guardM t21 true (fun k_15 => pickW t24 t25 (Bo false) fun t26 =>
 k_15 t26 M_14) (fun k => k .undef M_14) fun t26_16 M_17 =>
 guardM t21 true (fun k_18 => notW t26_16 fun t27 =>
 k_18 t27 M_17) (fun k => k .undef M_17) fun t27_19 M_20 =>
 pickW t21 t27_19 (Bo false) fun t28 =>
 guardM t28 true (fun k_21 => k_21 t13 M_20) (fun k => k .undef M_20) fun t30 M_22 =>
 guardM t28 true (fun k_23 => k_23 t30 M_22) (fun k => k .undef M_22) fun t31 M_24 =>
 guardM t31 false (fun k_25 => k_25 t16 M_24) (fun k => k .undef M_24) fun t32 M_26 =>
 guardM t28 true (fun k_27 => pickW t31 (Bo true) t32 fun t33 =>
 k_27 t33 M_26) (fun k => k .undef M_26) fun t33_28 M_29 =>
 guardM t28 true (fun k_30 => loadN M_29 t3 2 fun t34 =>
 k_30 t34 M_29) (fun k => k .undef M_29) fun t34_31 M_32 =>
 guardM t28 true (fun k_33 => loadN M_32 t4 2 fun t35 =>
 k_33 t35 M_32) (fun k => k .undef M_32) fun t35_34 M_35 =>
 guardM t28 true (fun k_36 => aggEqW true [1, 1] t34_31 t35_34 fun t36 =>
 k_36 t36 M_35) (fun k => k .undef M_35) fun t36_37 M_38 =>
 guardM t28 true (fun k_39 => boolEqW false t33_28 t36_37 fun t37 =>
 k_39 t37 M_38) (fun k => k .undef M_38) fun t37_40 M_41 =>
 pickW t28 t37_40 (Bo false) fun t38 =>
 guardM t38 true (fun k_42 => k_42 t13 M_41) (fun k => k .undef M_41) fun t40 M_43 =>
 guardM t38 true (fun k_44 => k_44 t40 M_43) (fun k => k .undef M_43) fun t41 M_45 =>
 guardM t41 true (fun k_46 => loadN M_45 t4 2 fun t42 =>
 k_46 t42 M_45) (fun k => k .undef M_45) fun t42_47 M_48 =>
 guardM t41 true (fun k_49 => loadN M_48 t5 2 fun t43 =>
 k_49 t43 M_48) (fun k => k .undef M_48) fun t43_50 M_51 =>
 guardM t41 true (fun k_52 => c_rolodex_dot_Less [t42_47, t43_50] M_51 fun t44 M_53 =>
 k_52 t44 M_53) (fun k => k .undef M_51) fun t44_54 M_55 =>
 guardM t38 true (fun k_56 => pickW t41 t44_54 (Bo false) fun t45 =>
 k_56 t45 M_55) (fun k => k .undef M_55) fun t45_57 M_58 =>
 guardM t38 true (fun k_59 => k_59 t45_57 M_58) (fun k => k .undef M_58) fun t46 M_60 =>
 guardM t46 true (fun k_61 => loadN M_60 t3 2 fun t47 =>
 k_61 t47 M_60) (fun k => k .undef M_60) fun t47_62 M_63 =>
 guardM t46 true (fun k_64 => loadN M_63 t5 2 fun t48 =>
 k_64 t48 M_63) (fun k => k .undef M_63) fun t48_65 M_66 =>
 guardM t46 true (fun k_67 => c_rolodex_dot_Less [t47_62, t48_65] M_66 fun t49 M_68 =>
 k_67 t49 M_68) (fun k => k .undef M_66) fun t49_69 M_70 =>
 guardM t46 true (fun k_71 => notW t49_69 fun t50 =>
 k_71 t50 M_70) (fun k => k .undef M_70) fun t50_72 M_73 =>
 guardM t38 true (fun k_74 => pickW t46 t50_72 (Bo false) fun t51 =>
 k_74 t51 M_73) (fun k => k .undef M_73) fun t51_75 M_76 =>
 guardM t38 true (fun k_77 => notW t51_75 fun t52 =>
 k_77 t52 M_76) (fun k => k .undef M_76) fun t52_78 M_79 =>
 pickW t38 t52_78 (Bo false) fun t53 =>
 Q t53 M_79)

/-- rolodex/rolodexlaw13.DotGrows -/
def W_rolodex_rolodexlaw13_DotGrows (c_rolodex_rolodexlaw13_awake : CallT) (c_rolodex_dot_New : CallT) (c_rolodex_dot_Set_Copy : CallT) (c_rolodex_dot_Set_Has : CallT) (c_rolodex_dot_Set_Add : CallT) (c_rolodex_dot_Set_Within : CallT) (c_rolodex_dot_Good : CallT) (a0 : AV) (M0 : RM) (Q : PostV) : Prop :=
 c_rolodex_rolodexlaw13_awake [] M0 fun t9 M =>
 notW t9 fun t10 =>
 condW t10 (
 Q (Bo false) M) (
 lenW a0 fun t12 =>
 intW .gtr t12 (N .i64 60) fun t13 =>
 condW t13 (
 Q (Bo true) M) (
 c_rolodex_dot_New [] M fun t14 M_0 =>
 loopW (fun next xs M_1 => -- [4]
 lenW a0 fun t17 =>
 intW .lss (nthD xs 0) t17 fun t18 =>
 condW t18 (
 c_rolodex_dot_Set_Copy [t14] M_1 fun t22 M_2 =>
 idxS a0 (nthD xs 0) 2 fun t26 =>
 loadN M_2 t26 2 fun t27 =>
 c_rolodex_dot_Set_Has [t14, t27] M_2 fun t28 M_3 =>
 idxS a0 (nthD xs 0) 2 fun t32 =>
 loadN M_3 t32 2 fun t33 =>
 c_rolodex_dot_Set_Add [t14, t33] M_3 fun t34 M_4 =>
 c_rolodex_dot_Set_Within [t22, t14] M_4 fun t37 M_5 =>
 notW t37 fun t38 =>
 guardM t38 false (fun k => k t34 M_5) (fun k => k .undef M_5) fun t40 M_6 =>
 guardM t38 false (fun k_7 => intW .eql t40 (N .i64 0) fun t41 =>
 k_7 t41 M_6) (fun k => k .undef M_6) fun t41_8 M_9 =>
 guardM t38 false (fun k_10 => k_10 t41_8 M_9) (fun k => k .undef M_9) fun t42 M_11 =>
 guardM t42 true (fun k_12 => k_12 t14 M_11) (fun k => k .undef M_11) fun t43 M_13 =>
 guardM t42 true (fun k_14 => k_14 a0 M_13) (fun k => k .undef M_13) fun t44 M_15 =>
 guardM t42 true (fun k_16 => k_16 (nthD xs 0) M_15) (fun k => k .undef M_15) fun t45 M_17 =>
 guardM t42 true (fun k_18 => idxS t44 t45 2 fun t46 =>
 k_18 t46 M_17) (fun k => k .undef M_17) fun t46_19 M_20 =>
 guardM t42 true (fun k_21 => loadN M_20 t46_19 2 fun t47 =>
 k_21 t47 M_20) (fun k => k .undef M_20) fun t47_22 M_23 =>
 guardM t42 true (fun k_24 => c_rolodex_dot_Set_Has [t43, t47_22] M_23 fun t48 M_25 =>
 k_24 t48 M_25) (fun k => k .undef M_23) fun t48_26 M_27 =>
 guardM t42 true (fun k_28 => notW t48_26 fun t49 =>
 k_28 t49 M_27) (fun k => k .undef M_27) fun t49_29 M_30 =>
 guardM t38 false (fun k_31 => pickW t42 t49_29 (Bo false) fun t50 =>
 k_31 t50 M_30) (fun k => k .undef M_30) fun t50_32 M_33 =>
 pickW t38 (Bo true) t50_32 fun t51 =>
 guardM t51 false (fun k_34 => k_34 t34 M_33) (fun k => k .undef M_33) fun t53 M_35 =>
 guardM t51 false (fun k_36 => intW .eql t53 (N .i64 0) fun t54 =>
 k_36 t54 M_35) (fun k => k .undef M_35) fun t54_37 M_38 =>
 guardM t51 false (fun k_39 => k_39 t54_37 M_38) (fun k => k .undef M_38) fun t55 M_40 =>
 guardM t55 true (fun k_41 => k_41 t14 M_40) (fun k => k .undef M_40) fun t56 M_42 =>
 guardM t55 true (fun k_43 => k_43 t22 M_42) (fun k => k .undef M_42) fun t57 M_44 =>
 guardM t55 true (fun k_45 => c_rolodex_dot_Set_Within [t56, t57] M_44 fun t58 M_46 =>
 k_45 t58 M_46) (fun k => k .undef M_44) fun t58_47 M_48 =>
 guardM t55 true (fun k_49 => k_49 t28 M_48) (fun k => k .undef M_48) fun t59 M_50 =>
 guardM t55 true (fun k_51 => boolEqW true t58_47 t59 fun t60 =>
 k_51 t60 M_50) (fun k => k .undef M_50) fun t60_52 M_53 =>
 guardM t51 false (fun k_54 => pickW t55 t60_52 (Bo false) fun t61 =>
 k_54 t61 M_53) (fun k => k .undef M_53) fun t61_55 M_56 =>
 pickW t51 (Bo true) t61_55 fun t62 =>
 guardM t62 false (fun k_57 => k_57 t34 M_56) (fun k => k .undef M_56) fun t64 M_58 =>
 guardM t62 false (fun k_59 => intW .neq t64 (N .i64 0) fun t65 =>
 k_59 t65 M_58) (fun k => k .undef M_58) fun t65_60 M_61 =>
 guardM t62 false (fun k_62 => k_62 t65_60 M_61) (fun k => k .undef M_61) fun t66 M_63 =>
 guardM t66 true (fun k_64 => k_64 t14 M_63) (fun k => k .undef M_63) fun t67 M_65 =>
 guardM t66 true (fun k_66 => k_66 t22 M_65) (fun k => k .undef M_65) fun t68 M_67 =>
 guardM t66 true (fun k_68 => c_rolodex_dot_Set_Within [t67, t68] M_67 fun t69 M_69 =>
 k_68 t69 M_69) (fun k => k .undef M_67) fun t69_70 M_71 =>
 guardM t66 true (fun k_72 => notW t69_70 fun t70 =>
 k_72 t70 M_71) (fun k => k .undef M_71) fun t70_73 M_74 =>
 guardM t62 false (fun k_75 => pickW t66 t70_73 (Bo false) fun t71 =>
 k_75 t71 M_74) (fun k => k .undef M_74) fun t71_76 M_77 =>
 pickW t62 (Bo true) t71_76 fun t72 =>
 condW t72 (
 Q (Bo false) M_77) (
 loopW (fun next_78 xs_79 M_80 => -- [8]
 intW .lss (nthD xs_79 0) (nthD xs 0) fun t75 =>
 condW t75 (
 idxS a0 (nthD xs_79 0) 2 fun t80 =>
 loadN M_80 t80 2 fun t81 =>
 c_rolodex_dot_Good [t81] M_80 fun t82 M_81 =>
 guardM t82 true (fun k_82 => k_82 t14 M_81) (fun k => k .undef M_81) fun t84 M_83 =>
 guardM t82 true (fun k_84 => k_84 a0 M_83) (fun k => k .undef M_83) fun t85 M_85 =>
 guardM t82 true (fun k_86 => k_86 (nthD xs_79 0) M_85) (fun k => k .undef M_85) fun t86 M_87 =>
 guardM t82 true (fun k_88 => idxS t85 t86 2 fun t87 =>
 k_88 t87 M_87) (fun k => k .undef M_87) fun t87_89 M_90 =>
 guardM t82 true (fun k_91 => loadN M_90 t87_89 2 fun t88 =>
 k_91 t88 M_90) (fun k => k .undef M_90) fun t88_92 M_93 =>
 guardM t82 true (fun k_94 => c_rolodex_dot_Set_Has [t84, t88_92] M_93 fun t89 M_95 =>
 k_94 t89 M_95) (fun k => k .undef M_93) fun t89_96 M_97 =>
 guardM t82 true (fun k_98 => notW t89_96 fun t90 =>
 k_98 t90 M_97) (fun k => k .undef M_97) fun t90_99 M_100 =>
 pickW t82 t90_99 (Bo false) fun t91 =>
 condW t91 (
 Q (Bo false) M_100) (
 intW .add (nthD xs_79 0) (N .i64 1) fun t77 =>
 next_78 [t77] M_100)) (
 intW .add (nthD xs 0) (N .i64 1) fun t20 =>
 next [t20] M_80)) [(N .i64 0)] M_77)) (
 Q (Bo true) M_1)) [(N .i64 0)] M_0))

/-- rolodex/rolodexlaw13.DotParts -/
def W_rolodex_rolodexlaw13_DotParts (c_rolodex_rolodexlaw13_awake : CallT) (c_rolodex_rolodexlaw13_of : CallT) (c_rolodex_dot_Set_Parts : CallT) (c_rolodex_dot_New : CallT) (c_rolodex_dot_Set_Add : CallT) (c_rolodex_dot_Set_Encode : CallT) (c_rolodex_dot_Set_Within : CallT) (a0 a1 : AV) (M0 : RM) (Q : PostV) : Prop :=
 c_rolodex_rolodexlaw13_awake [] M0 fun t16 M =>
 notW t16 fun t17 =>
 condW t17 (
 Q (Bo false) M) (
 lenW a0 fun t19 =>
 intW .gtr t19 (N .i64 60) fun t20 =>
 guardM t20 false (fun k => k a1 M) (fun k => k .undef M) fun t22 M_0 =>
 guardM t20 false (fun k_1 => lenW t22 fun t23 =>
 k_1 t23 M_0) (fun k => k .undef M_0) fun t23_2 M_3 =>
 guardM t20 false (fun k_4 => intW .gtr t23_2 (N .i64 60) fun t24 =>
 k_4 t24 M_3) (fun k => k .undef M_3) fun t24_5 M_6 =>
 pickW t20 (Bo true) t24_5 fun t25 =>
 condW t25 (
 Q (Bo true) M_6) (
 c_rolodex_rolodexlaw13_of [a0] M_6 fun t28 M_7 =>
 extW t28 0 fun t29 =>
 extW t28 1 fun t30 =>
 c_rolodex_rolodexlaw13_of [a1] M_7 fun t33 M_8 =>
 extW t33 0 fun t34 =>
 extW t33 1 fun t35 =>
 c_rolodex_dot_Set_Parts [t29] M_8 fun t37 M_9 =>
 c_rolodex_dot_New [] M_9 fun t38 M_10 =>
 loopW (fun next xs M_11 => -- [11]
 lenW t37 fun t41 =>
 intW .lss (nthD xs 0) t41 fun t42 =>
 condW t42 (
 idxS t37 (nthD xs 0) 3 fun t47 =>
 fldW t47 1 fun t48 =>
 load1 M_11 t48 fun t49 =>
 intW .gtr (nthD xs 0) (N .i64 0) fun t51 =>
 guardK t51 true (fun k_12 => k_12 t37 M_11 none) (fun k => k .undef M_11 none) fun t53 M_13 b =>
 guardK t51 true (fun k_14 => k_14 (nthD xs 0) M_13 none) (fun k => k .undef M_13 none) fun t54 M_15 b_16 =>
 guardK t51 true (fun k_17 => idxS t53 t54 3 fun t55 =>
 k_17 t55 M_15 none) (fun k => k .undef M_15 none) fun t55_18 M_19 b_20 =>
 guardK t51 true (fun k_21 => fldW t55_18 0 fun t56 =>
 k_21 t56 M_19 none) (fun k => k .undef M_19 none) fun t56_22 M_23 b_24 =>
 guardK t51 true (fun k_25 => load1 M_23 t56_22 fun t57 =>
 k_25 t57 M_23 none) (fun k => k .undef M_23 none) fun t57_26 M_27 b_28 =>
 guardK t51 true (fun k_29 => k_29 t37 M_27 none) (fun k => k .undef M_27 none) fun t58 M_30 b_31 =>
 guardK t51 true (fun k_32 => k_32 (nthD xs 0) M_30 none) (fun k => k .undef M_30 none) fun t59 M_33 b_34 =>
 guardK t51 true (fun k_35 => intW .sub t59 (N .i64 1) fun t60 =>
 k_35 t60 M_33 none) (fun k => k .undef M_33 none) fun t60_36 M_37 b_38 =>
 guardK t51 true (fun k_39 => idxS t58 t60_36 3 fun t61 =>
 k_39 t61 M_37 none) (fun k => k .undef M_37 none) fun t61_40 M_41 b_42 =>
 guardK t51 true (fun k_43 => fldW t61_40 0 fun t62 =>
 k_43 t62 M_41 none) (fun k => k .undef M_41 none) fun t62_44 M_45 b_46 =>
 guardK t51 true (fun k_47 => load1 M_45 t62_44 fun t63 =>
 k_47 t63 M_45 none) (fun k => k .undef M_45 none) fun t63_48 M_49 b_50 =>
 guardK t51 true (fun k_51 => intW .leq t57_26 t63_48 fun t64 =>
 k_51 t64 M_49 none) (fun k => k .undef M_49 none) fun t64_52 M_53 b_54 =>
 pickW t51 t64_52 (Bo false) fun t65 =>
 guardK t65 false (fun k_55 => k_55 t37 M_53 none) (fun k => k .undef M_53 none) fun t67 M_56 b_57 =>
 guardK t65 false (fun k_58 => k_58 (nthD xs 0) M_56 none) (fun k => k .undef M_56 none) fun t68 M_59 b_60 =>
 guardK t65 false (fun k_61 => idxS t67 t68 3 fun t69 =>
 k_61 t69 M_59 none) (fun k => k .undef M_59 none) fun t69_62 M_63 b_64 =>
 guardK t65 false (fun k_65 => fldW t69_62 1 fun t70 =>
 k_65 t70 M_63 none) (fun k => k .undef M_63 none) fun t70_66 M_67 b_68 =>
 guardK t65 false (fun k_69 => load1 M_67 t70_66 fun t71 =>
 k_69 t71 M_67 none) (fun k => k .undef M_67 none) fun t71_70 M_71 b_72 =>
 guardK t65 false (fun k_73 => intW .gtr t71_70 (N .u64 1000) fun t72 =>
 k_73 t72 M_71 none) (fun k => k .undef M_71 none) fun t72_74 M_75 b_76 =>
 pickW t65 (Bo true) t72_74 fun t73 =>
 guardK t73 false (fun k_77 => k_77 t37 M_75 none) (fun k => k .undef M_75 none) fun t75 M_78 b_79 =>
 guardK t73 false (fun k_80 => k_80 (nthD xs 0) M_78 none) (fun k => k .undef M_78 none) fun t76 M_81 b_82 =>
 guardK t73 false (fun k_83 => idxS t75 t76 3 fun t77 =>
 k_83 t77 M_81 none) (fun k => k .undef M_81 none) fun t77_84 M_85 b_86 =>
 guardK t73 false (fun k_87 => fldW t77_84 1 fun t78 =>
 k_87 t78 M_85 none) (fun k => k .undef M_85 none) fun t78_88 M_89 b_90 =>
 guardK t73 false (fun k_91 => load1 M_89 t78_88 fun t79 =>
 k_91 t79 M_89 none) (fun k => k .undef M_89 none) fun t79_92 M_93 b_94 =>
 guardK t73 false (fun k_95 => intW .eql t79_92 (N .u64 0) fun t80 =>
 k_95 t80 M_93 none) (fun k => k .undef M_93 none) fun t80_96 M_97 b_98 =>
 guardK t73 false (fun k_99 => k_99 t80_96 M_97 none) (fun k => k .undef M_97 none) fun t81 M_100 b_101 =>
 guardK t81 true (fun k_102 => k_102 t37 M_100 none) (fun k => k .undef M_100 none) fun t82 M_103 b_104 =>
 guardK t81 true (fun k_105 => k_105 (nthD xs 0) M_103 none) (fun k => k .undef M_103 none) fun t83 M_106 b_107 =>
 guardK t81 true (fun k_108 => idxS t82 t83 3 fun t84 =>
 k_108 t84 M_106 none) (fun k => k .undef M_106 none) fun t84_109 M_110 b_111 =>
 guardK t81 true (fun k_112 => fldW t84_109 2 fun t85 =>
 k_112 t85 M_110 none) (fun k => k .undef M_110 none) fun t85_113 M_114 b_115 =>
 guardK t81 true (fun k_116 => load1 M_114 t85_113 fun t86 =>
 k_116 t86 M_114 none) (fun k => k .undef M_114 none) fun t86_117 M_118 b_119 =>
 guardK t81 true (fun k_120 => lenW t86_117 fun t87 =>
 k_120 t87 M_118 none) (fun k => k .undef M_118 none) fun t87_121 M_122 b_123 =>
 guardK t81 true (fun k_124 => intW .eql t87_121 (N .i64 0) fun t88 =>
 k_124 t88 M_122 none) (fun k => k .undef M_122 none) fun t88_125 M_126 b_127 =>
 guardK t73 false (fun k_128 => pickW t81 t88_125 (Bo false) fun t89 =>
 k_128 t89 M_126 none) (fun k => k .undef M_126 none) fun t89_129 M_130 b_131 =>
 pickW t73 (Bo true) t89_129 fun t90 =>
 condW t90 (
 idxS t37 (nthD xs 0) 3 fun t93 =>
 fldW t93 1 fun t94 =>
 load1 M_130 t94 fun t95 =>
 intW .gtr t95 (N .u64 1000) fun t96 =>
 Q t96 M_130) (
 loopW (fun next_132 xs_133 M_134 => -- [13]
 idxS t37 (nthD xs 0) 3 fun t100 =>
 fldW t100 1 fun t101 =>
 load1 M_134 t101 fun t102 =>
 intW .leq (nthD xs_133 0) t102 fun t103 =>
 condW t103 (
 idxS t37 (nthD xs 0) 3 fun t109 =>
 fldW t109 0 fun t110 =>
 load1 M_134 t110 fun t111 =>
 buildW [(N .i64 0), (N .u64 0)] [(0, 1, t111), (1, 1, (nthD xs_133 0))] fun t113 =>
 c_rolodex_dot_Set_Add [t38, t113] M_134 fun t114 M_135 =>
 intW .add (nthD xs_133 0) (N .u64 1) fun t105 =>
 next_132 [t105] M_135) (
 loopW (fun next_136 xs_137 M_138 => -- [12, 14]
 idxS t37 (nthD xs 0) 3 fun t118 =>
 fldW t118 2 fun t119 =>
 load1 M_138 t119 fun t120 =>
 lenW t120 fun t121 =>
 intW .lss (nthD xs_137 1) t121 fun t122 =>
 condW t122 (
 idxS t37 (nthD xs 0) 3 fun t127 =>
 fldW t127 2 fun t128 =>
 load1 M_138 t128 fun t129 =>
 idxS t129 (nthD xs_137 1) 1 fun t131 =>
 load1 M_138 t131 fun t132 =>
 intW .leq t132 (nthD xs_137 0) fun t134 =>
 guardM t134 false (fun k_139 => k_139 (nthD xs_137 1) M_138) (fun k => k .undef M_138) fun t136 M_140 =>
 guardM t134 false (fun k_141 => intW .eql t136 (N .i64 0) fun t137 =>
 k_141 t137 M_140) (fun k => k .undef M_140) fun t137_142 M_143 =>
 guardM t134 false (fun k_144 => k_144 t137_142 M_143) (fun k => k .undef M_143) fun t138 M_145 =>
 guardM t138 true (fun k_146 => k_146 t37 M_145) (fun k => k .undef M_145) fun t139 M_147 =>
 guardM t138 true (fun k_148 => k_148 (nthD xs 0) M_147) (fun k => k .undef M_147) fun t140 M_149 =>
 guardM t138 true (fun k_150 => idxS t139 t140 3 fun t141 =>
 k_150 t141 M_149) (fun k => k .undef M_149) fun t141_151 M_152 =>
 guardM t138 true (fun k_153 => fldW t141_151 2 fun t142 =>
 k_153 t142 M_152) (fun k => k .undef M_152) fun t142_154 M_155 =>
 guardM t138 true (fun k_156 => load1 M_155 t142_154 fun t143 =>
 k_156 t143 M_155) (fun k => k .undef M_155) fun t143_157 M_158 =>
 guardM t138 true (fun k_159 => k_159 (nthD xs_137 1) M_158) (fun k => k .undef M_158) fun t144 M_160 =>
 guardM t138 true (fun k_161 => idxS t143_157 t144 1 fun t145 =>
 k_161 t145 M_160) (fun k => k .undef M_160) fun t145_162 M_163 =>
 guardM t138 true (fun k_164 => load1 M_163 t145_162 fun t146 =>
 k_164 t146 M_163) (fun k => k .undef M_163) fun t146_165 M_166 =>
 guardM t138 true (fun k_167 => k_167 (nthD xs_137 0) M_166) (fun k => k .undef M_166) fun t147 M_168 =>
 guardM t138 true (fun k_169 => intW .add t147 (N .u64 1) fun t148 =>
 k_169 t148 M_168) (fun k => k .undef M_168) fun t148_170 M_171 =>
 guardM t138 true (fun k_172 => intW .eql t146_165 t148_170 fun t149 =>
 k_172 t149 M_171) (fun k => k .undef M_171) fun t149_173 M_174 =>
 guardM t134 false (fun k_175 => pickW t138 t149_173 (Bo false) fun t150 =>
 k_175 t150 M_174) (fun k => k .undef M_174) fun t150_176 M_177 =>
 pickW t134 (Bo true) t150_176 fun t151 =>
 condW t151 (
 Q (Bo false) M_177) (
 idxS t37 (nthD xs 0) 3 fun t154 =>
 fldW t154 2 fun t155 =>
 load1 M_177 t155 fun t156 =>
 idxS t156 (nthD xs_137 1) 1 fun t158 =>
 load1 M_177 t158 fun t159 =>
 idxS t37 (nthD xs 0) 3 fun t163 =>
 fldW t163 0 fun t164 =>
 load1 M_177 t164 fun t165 =>
 buildW [(N .i64 0), (N .u64 0)] [(0, 1, t165), (1, 1, t159)] fun t167 =>
 c_rolodex_dot_Set_Add [t38, t167] M_177 fun t168 M_178 =>
 intW .add (nthD xs_137 1) (N .i64 1) fun t124 =>
 next_136 [t159, t124] M_178)) (
 intW .add (nthD xs 0) (N .i64 1) fun t44 =>
 next [t44] M_138)) [t49, (N .i64 0)] M_134)) [(N .u64 1)] M_130)) (
 c_rolodex_dot_Set_Encode [t29] M_11 fun t170 M_179 =>
 strOfW M_179 t170 fun t171 =>
 c_rolodex_dot_Set_Encode [t34] M_179 fun t173 M_180 =>
 strOfW M_180 t170 fun t171_216 =>
 (t171_216 = t171 ∧ strOfW M_180 t173 fun t174 =>
 strW .eql t171 t174 fun t175 =>
 c_rolodex_dot_Set_Within [t38, t29] M_180 fun t178 M_181 =>
 guardM t178 true (fun k_182 => k_182 t29 M_181) (fun k => k .undef M_181) fun t180 M_183 =>
 guardM t178 true (fun k_184 => k_184 t38 M_183) (fun k => k .undef M_183) fun t181 M_185 =>
 guardM t178 true (fun k_186 => c_rolodex_dot_Set_Within [t180, t181] M_185 fun t182 M_187 =>
 k_186 t182 M_187) (fun k => k .undef M_185) fun t182_188 M_189 =>
 pickW t178 t182_188 (Bo false) fun t183 =>
 guardM t183 true (fun k_190 => k_190 t175 M_189) (fun k => k .undef M_189) fun t185 M_191 =>
 guardM t183 true (fun k_192 => k_192 t29 M_191) (fun k => k .undef M_191) fun t186 M_193 =>
 guardM t183 true (fun k_194 => k_194 t34 M_193) (fun k => k .undef M_193) fun t187 M_195 =>
 guardM t183 true (fun k_196 => c_rolodex_dot_Set_Within [t186, t187] M_195 fun t188 M_197 =>
 k_196 t188 M_197) (fun k => k .undef M_195) fun t188_198 M_199 =>
 guardM t183 true (fun k_200 => k_200 t188_198 M_199) (fun k => k .undef M_199) fun t189 M_201 =>
 guardM t189 true (fun k_202 => k_202 t34 M_201) (fun k => k .undef M_201) fun t190 M_203 =>
 guardM t189 true (fun k_204 => k_204 t29 M_203) (fun k => k .undef M_203) fun t191 M_205 =>
 guardM t189 true (fun k_206 => c_rolodex_dot_Set_Within [t190, t191] M_205 fun t192 M_207 =>
 k_206 t192 M_207) (fun k => k .undef M_205) fun t192_208 M_209 =>
 guardM t183 true (fun k_210 => pickW t189 t192_208 (Bo false) fun t193 =>
 k_210 t193 M_209) (fun k => k .undef M_209) fun t193_211 M_212 =>
 guardM t183 true (fun k_213 => boolEqW false t185 t193_211 fun t194 =>
 k_213 t194 M_212) (fun k => k .undef M_212) fun t194_214 M_215 =>
 pickW t183 t194_214 (Bo false) fun t195 =>
 Q t195 M_215))) [(N .i64 0)] M_10))

/-- rolodex/rolodexlaw13.awake -/
def W_rolodex_rolodexlaw13_awake (c_rolodex_dot_New : CallT) (c_rolodex_dot_Set_Add : CallT) (c_rolodex_dot_Set_Parts : CallT) (c_rolodex_dot_Set_Copy : CallT) (c_rolodex_dot_Set_Encode : CallT) (c_rolodex_dot_Decode : CallT) (c_rolodex_dot_Set_Join : CallT) (c_rolodex_dot_Set_Within : CallT) (c_rolodex_dot_Set_Has : CallT) (c_rolodex_dot_Less : CallT) (c_rolodex_dot_Good : CallT) (M0 : RM) (Q : PostV) : Prop :=
 c_rolodex_dot_New [] M0 fun t8 M =>
 refEqW false 1 t8 (.sc (.pointer none)) fun t10 =>
 condW t10 (
 Q (Bo false) M) (
 buildW [(N .i64 0), (N .u64 0)] [(0, 1, (N .i64 2)), (1, 1, (N .u64 1))] fun t12 =>
 c_rolodex_dot_Set_Add [t8, t12] M fun t13 M_0 =>
 buildW [(N .i64 0), (N .u64 0)] [(0, 1, (N .i64 2)), (1, 1, (N .u64 3))] fun t15 =>
 c_rolodex_dot_Set_Add [t8, t15] M_0 fun t16 M_1 =>
 buildW [(N .i64 0), (N .u64 0)] [(0, 1, (N .i64 2)), (1, 1, (N .u64 4))] fun t18 =>
 c_rolodex_dot_Set_Add [t8, t18] M_1 fun t19 M_2 =>
 buildW [(N .i64 0), (N .u64 0)] [(0, 1, (N .i64 0)), (1, 1, (N .u64 5))] fun t21 =>
 c_rolodex_dot_Set_Add [t8, t21] M_2 fun t22 M_3 =>
 c_rolodex_dot_Set_Parts [t8] M_3 fun t24 M_4 =>
 buildW [(N .i64 0), (N .u64 0)] [(0, 1, (N .i64 2)), (1, 1, (N .u64 2))] fun t26 =>
 c_rolodex_dot_Set_Add [t8, t26] M_4 fun t27 M_5 =>
 c_rolodex_dot_Set_Parts [t8] M_5 fun t29 M_6 =>
 c_rolodex_dot_Set_Copy [t8] M_6 fun t31 M_7 =>
 c_rolodex_dot_Set_Encode [t8] M_7 fun t34 M_8 =>
 c_rolodex_dot_Decode [t34] M_8 fun t35 M_9 =>
 extW t35 0 fun t36 =>
 extW t35 1 fun t37 =>
 refEqW false 1 t31 (.sc (.pointer none)) fun t39 =>
 guardM t39 false (fun k => k t36 M_9) (fun k => k .undef M_9) fun t41 M_10 =>
 guardM t39 false (fun k_11 => refEqW false 1 t41 (.sc (.pointer none)) fun t42 =>
 k_11 t42 M_10) (fun k => k .undef M_10) fun t42_12 M_13 =>
 pickW t39 (Bo true) t42_12 fun t43 =>
 guardM t43 false (fun k_14 => k_14 t24 M_13) (fun k => k .undef M_13) fun t45 M_15 =>
 guardM t43 false (fun k_16 => lenW t45 fun t46 =>
 k_16 t46 M_15) (fun k => k .undef M_15) fun t46_17 M_18 =>
 guardM t43 false (fun k_19 => intW .neq t46_17 (N .i64 2) fun t47 =>
 k_19 t47 M_18) (fun k => k .undef M_18) fun t47_20 M_21 =>
 pickW t43 (Bo true) t47_20 fun t48 =>
 guardM t48 false (fun k_22 => k_22 t29 M_21) (fun k => k .undef M_21) fun t50 M_23 =>
 guardM t48 false (fun k_24 => lenW t50 fun t51 =>
 k_24 t51 M_23) (fun k => k .undef M_23) fun t51_25 M_26 =>
 guardM t48 false (fun k_27 => intW .neq t51_25 (N .i64 2) fun t52 =>
 k_27 t52 M_26) (fun k => k .undef M_26) fun t52_28 M_29 =>
 pickW t48 (Bo true) t52_28 fun t53 =>
 condW t53 (
 Q (Bo false) M_29) (
 c_rolodex_dot_Set_Join [t31, t36] M_29 fun t56 M_30 =>
 intW .eql t13 (N .i64 0) fun t58 =>
 guardM t58 true (fun k_31 => k_31 t24 M_30) (fun k => k .undef M_30) fun t60 M_32 =>
 guardM t58 true (fun k_33 => idxS t60 (N .i64 1) 3 fun t61 =>
 k_33 t61 M_32) (fun k => k .undef M_32) fun t61_34 M_35 =>
 guardM t58 true (fun k_36 => fldW t61_34 2 fun t62 =>
 k_36 t62 M_35) (fun k => k .undef M_35) fun t62_37 M_38 =>
 guardM t58 true (fun k_39 => load1 M_38 t62_37 fun t63 =>
 k_39 t63 M_38) (fun k => k .undef M_38) fun t63_40 M_41 =>
 guardM t58 true (fun k_42 => lenW t63_40 fun t64 =>
 k_42 t64 M_41) (fun k => k .undef M_41) fun t64_43 M_44 =>
 guardM t58 true (fun k_45 => intW .eql t64_43 (N .i64 2) fun t65 =>
 k_45 t65 M_44) (fun k => k .undef M_44) fun t65_46 M_47 =>
 pickW t58 t65_46 (Bo false) fun t66 =>
 guardM t66 true (fun k_48 => k_48 t29 M_47) (fun k => k .undef M_47) fun t68 M_49 =>
 guardM t66 true (fun k_50 => idxS t68 (N .i64 1) 3 fun t69 =>
 k_50 t69 M_49) (fun k => k .undef M_49) fun t69_51 M_52 =>
 guardM t66 true (fun k_53 => fldW t69_51 1 fun t70 =>
 k_53 t70 M_52) (fun k => k .undef M_52) fun t70_54 M_55 =>
 guardM t66 true (fun k_56 => load1 M_55 t70_54 fun t71 =>
 k_56 t71 M_55) (fun k => k .undef M_55) fun t71_57 M_58 =>
 guardM t66 true (fun k_59 => intW .eql t71_57 (N .u64 4) fun t72 =>
 k_59 t72 M_58) (fun k => k .undef M_58) fun t72_60 M_61 =>
 pickW t66 t72_60 (Bo false) fun t73 =>
 guardM t73 true (fun k_62 => k_62 t8 M_61) (fun k => k .undef M_61) fun t75 M_63 =>
 guardM t73 true (fun k_64 => c_rolodex_dot_Set_Encode [t75] M_63 fun t76 M_65 =>
 k_64 t76 M_65) (fun k => k .undef M_63) fun t76_66 M_67 =>
 guardM t73 true (fun k_68 => strOfW M_67 t76_66 fun t77 =>
 k_68 t77 M_67) (fun k => k .undef M_67) fun t77_69 M_70 =>
 guardM t73 true (fun k_71 => strW .eql t77_69 (St [2, 0, 0, 1, 5, 2, 4, 0]) fun t78 =>
 k_71 t78 M_70) (fun k => k .undef M_70) fun t78_72 M_73 =>
 pickW t73 t78_72 (Bo false) fun t79 =>
 guardM t79 true (fun k_74 => k_74 t37 M_73) (fun k => k .undef M_73) fun t81 M_75 =>
 guardM t79 true (fun k_76 => intW .eql t81 (N .i64 0) fun t82 =>
 k_76 t82 M_75) (fun k => k .undef M_75) fun t82_77 M_78 =>
 pickW t79 t82_77 (Bo false) fun t83 =>
 guardM t83 true (fun k_79 => k_79 t36 M_78) (fun k => k .undef M_78) fun t85 M_80 =>
 guardM t83 true (fun k_81 => k_81 t8 M_80) (fun k => k .undef M_80) fun t86 M_82 =>
 guardM t83 true (fun k_83 => c_rolodex_dot_Set_Within [t85, t86] M_82 fun t87 M_84 =>
 k_83 t87 M_84) (fun k => k .undef M_82) fun t87_85 M_86 =>
 pickW t83 t87_85 (Bo false) fun t88 =>
 guardM t88 true (fun k_87 => k_87 t8 M_86) (fun k => k .undef M_86) fun t90 M_88 =>
 guardM t88 true (fun k_89 => k_89 t36 M_88) (fun k => k .undef M_88) fun t91 M_90 =>
 guardM t88 true (fun k_91 => c_rolodex_dot_Set_Within [t90, t91] M_90 fun t92 M_92 =>
 k_91 t92 M_92) (fun k => k .undef M_90) fun t92_93 M_94 =>
 pickW t88 t92_93 (Bo false) fun t93 =>
 guardM t93 true (fun k_95 => k_95 t8 M_94) (fun k => k .undef M_94) fun t95 M_96 =>
 guardM t93 true (fun k_97 => buildW [(N .i64 0), (N .u64 0)] [(0, 1, (N .i64 0)), (1, 1, (N .u64 5))] fun t96 =>
 k_97 t96 M_96) (fun k => k .undef M_96) fun t96_98 M_99 =>
 guardM t93 true (fun k_100 => c_rolodex_dot_Set_Has [t95, t96_98] M_99 fun t97 M_101 =>
 k_100 t97 M_101) (fun k => k .undef M_99) fun t97_102 M_103 =>
 pickW t93 t97_102 (Bo false) fun t98 =>
 guardM t98 true (fun k_104 => k_104 t8 M_103) (fun k => k .undef M_103) fun t100 M_105 =>
 guardM t98 true (fun k_106 => buildW [(N .i64 0), (N .u64 0)] [(0, 1, (N .i64 0)), (1, 1, (N .u64 1))] fun t101 =>
 k_106 t101 M_105) (fun k => k .undef M_105) fun t101_107 M_108 =>
 guardM t98 true (fun k_109 => c_rolodex_dot_Set_Has [t100, t101_107] M_108 fun t102 M_110 =>
 k_109 t102 M_110) (fun k => k .undef M_108) fun t102_111 M_112 =>
 guardM t98 true (fun k_113 => notW t102_111 fun t103 =>
 k_113 t103 M_112) (fun k => k .undef M_112) fun t103_114 M_115 =>
 pickW t98 t103_114 (Bo false) fun t104 =>
 guardM t104 true (fun k_116 => k_116 t31 M_115) (fun k => k .undef M_115) fun t106 M_117 =>
 guardM t104 true (fun k_118 => c_rolodex_dot_Set_Parts [t106] M_117 fun t107 M_119 =>
 k_118 t107 M_119) (fun k => k .undef M_117) fun t107_120 M_121 =>
 guardM t104 true (fun k_122 => lenW t107_120 fun t108 =>
 k_122 t108 M_121) (fun k => k .undef M_121) fun t108_123 M_124 =>
 guardM t104 true (fun k_125 => intW .eql t108_123 (N .i64 2) fun t109 =>
 k_125 t109 M_124) (fun k => k .undef M_124) fun t109_126 M_127 =>
 pickW t104 t109_126 (Bo false) fun t110 =>
 guardM t110 true (fun k_128 => buildW [(N .i64 0), (N .u64 0)] [(0, 1, (N .i64 3)), (1, 1, (N .u64 1))] fun t112 =>
 k_128 t112 M_127) (fun k => k .undef M_127) fun t112_129 M_130 =>
 guardM t110 true (fun k_131 => buildW [(N .i64 0), (N .u64 0)] [(0, 1, (N .i64 1)), (1, 1, (N .u64 2))] fun t113 =>
 k_131 t113 M_130) (fun k => k .undef M_130) fun t113_132 M_133 =>
 guardM t110 true (fun k_134 => c_rolodex_dot_Less [t112_129, t113_132] M_133 fun t114 M_135 =>
 k_134 t114 M_135) (fun k => k .undef M_133) fun t114_136 M_137 =>
 pickW t110 t114_136 (Bo false) fun t115 =>
 guardM t115 true (fun k_138 => buildW [(N .i64 0), (N .u64 0)] [(1, 1, (N .u64 1))] fun t117 =>
 k_138 t117 M_137) (fun k => k .undef M_137) fun t117_139 M_140 =>
 guardM t115 true (fun k_141 => c_rolodex_dot_Good [t117_139] M_140 fun t118 M_142 =>
 k_141 t118 M_142) (fun k => k .undef M_140) fun t118_143 M_144 =>
 pickW t115 t118_143 (Bo false) fun t119 =>
 Q t119 M_144))

/-- rolodex/dot.New -/
def W_rolodex_dot_New (T_dot_Set : Nat) (M0 : RM) (Q : PostV) : Prop :=
 buildW [(N .u64 0), (.sc (.slice none 0 0)), (N .u64 0), (.sc (.slice none 0 0)), (N .u64 0), (.sc (.slice none 0 0)), (N .u64 0), (.sc (.slice none 0 0)), (N .u64 0), (.sc (.slice none 0 0)), (N .u64 0), (.sc (.slice none 0 0)), (N .u64 0), (.sc (.slice none 0 0)), (N .u64 0), (.sc (.slice none 0 0)), (N .u64 0), (.sc (.slice none 0 0)), (N .u64 0), (.sc (.slice none 0 0)), (N .u64 0), (.sc (.slice none 0 0)), (N .u64 0), (.sc (.slice none 0 0)), (N .u64 0), (.sc (.slice none 0 0)), (N .u64 0), (.sc (.slice none 0 0)), (N .u64 0), (.sc (.slice none 0 0)), (N .u64 0), (.sc (.slice none 0 0))] [] fun t1 =>
 boxW T_dot_Set t1 fun r f =>
 newW r f M0 fun t2 M =>
 Q t2 M

/-- rolodex/dot.Decode -/
def W_rolodex_dot_Decode (c_rolodex_bin_Read : CallT) (c_rolodex_dot_New : CallT) (c_rolodex_bin_Reader_Int : CallT) (c_rolodex_bin_Reader_Uint : CallT) (c_rolodex_bin_Reader_Err : CallT) (T_uint64 : Nat) (c_rolodex_bin_Reader_End : CallT) (c_rolodex_dot_Set_formed : CallT) (c_rolodex_dot_Set_Encode : CallT) (c_bytes_Equal : CallT) (a0 : AV) (M0 : RM) (Q : PostV) : Prop :=
 c_rolodex_bin_Read [a0] M0 fun t10 M =>
 c_rolodex_dot_New [] M fun t11 M_0 =>
 c_rolodex_bin_Reader_Int [t10, (N .i64 16)] M_0 fun t13 M_1 =>
 loopW (fun next xs M_2 => -- [14]
 intW .lss (nthD xs 0) t13 fun t15 =>
 condW t15 (
 ptrW t11 fun t19 =>
 fldW t19 0 fun t20 =>
 c_rolodex_bin_Reader_Int [t10, (N .i64 15)] M_2 fun t18 M_3 =>
 idxA t20 t18 16 2 fun t21 =>
 c_rolodex_bin_Reader_Uint [t10] M_3 fun t24 M_4 =>
 ptrW t21 fun t25 =>
 fldW t25 0 fun t26 =>
 storeW M_4 t26 t24 1 fun M_5 =>
 ptrW t21 fun t28 =>
 fldW t28 0 fun t29 =>
 load1 M_5 t29 fun t30 =>
 c_rolodex_bin_Reader_Int [t10, (N .i64 4096)] M_5 fun t32 M_6 =>
 loopW (fun next_7 xs_8 M_9 => -- [7, 33]
 intW .lss (nthD xs_8 1) t32 fun t34 =>
 condW t34 (
 c_rolodex_bin_Reader_Uint [t10] M_9 fun t36 M_10 =>
 c_rolodex_bin_Reader_Err [t10] M_10 fun t38 M_11 =>
 intW .neq t38 (N .i64 0) fun t39 =>
 guardM t39 false (fun k => k t36 M_11) (fun k => k .undef M_11) fun t41 M_12 =>
 guardM t39 false (fun k_13 => intW .gtr t41 (N .u64 1099511627776) fun t42 =>
 k_13 t42 M_12) (fun k => k .undef M_12) fun t42_14 M_15 =>
 pickW t39 (Bo true) t42_14 fun t43 =>
 guardM t43 false (fun k_16 => k_16 (nthD xs_8 0) M_15) (fun k => k .undef M_15) fun t45 M_17 =>
 guardM t43 false (fun k_18 => intW .gtr t45 (N .u64 1099511627776) fun t46 =>
 k_18 t46 M_17) (fun k => k .undef M_17) fun t46_19 M_20 =>
 pickW t43 (Bo true) t46_19 fun t47 =>
 condW t47 (
 Q (.tup [(.sc (.pointer none)), (N .i64 14)]) M_20) (
 intW .add (nthD xs_8 0) t36 fun t50 =>
 ptrW t21 fun t53 =>
 fldW t53 1 fun t54 =>
 load1 M_20 t54 fun t55 =>
 rowsW T_uint64 1 [(N .u64 0)] [(0, 1, t50)] fun r f =>
 newW r f M_20 fun t57 M_21 =>
 appW T_uint64 1 8 [(N .u64 0)] false t55 t57 M_21 fun t58 M_22 =>
 ptrW t21 fun t59 =>
 fldW t59 1 fun t60 =>
 storeW M_22 t60 t58 1 fun M_23 =>
 intW .add (nthD xs_8 1) (N .i64 1) fun t61 =>
 next_7 [t50, t61] M_23)) (
 ptrW t21 fun t63 =>
 fldW t63 0 fun t64 =>
 load1 M_9 t64 fun t65 =>
 intW .gtr t65 (N .u64 1099511627776) fun t66 =>
 guardM t66 false (fun k_24 => k_24 (nthD xs_8 0) M_9) (fun k => k .undef M_9) fun t68 M_25 =>
 guardM t66 false (fun k_26 => intW .gtr t68 (N .u64 1099511627776) fun t69 =>
 k_26 t69 M_25) (fun k => k .undef M_25) fun t69_27 M_28 =>
 pickW t66 (Bo true) t69_27 fun t70 =>
 condW t70 (
 Q (.tup [(.sc (.pointer none)), (N .i64 14)]) M_28) (
 intW .add (nthD xs 0) (N .i64 1) fun t71 =>
 next [t71] M_28))) [t30, (N .i64 0)] M_6) (
 c_rolodex_bin_Reader_End [t10] M_2 fun t73 M_29 =>
 intW .neq t73 (N .i64 0) fun t74 =>
 guardM t74 false (fun k_30 => k_30 t11 M_29) (fun k => k .undef M_29) fun t76 M_31 =>
 guardM t74 false (fun k_32 => c_rolodex_dot_Set_formed [t76] M_31 fun t77 M_33 =>
 k_32 t77 M_33) (fun k => k .undef M_31) fun t77_34 M_35 =>
 guardM t74 false (fun k_36 => notW t77_34 fun t78 =>
 k_36 t78 M_35) (fun k => k .undef M_35) fun t78_37 M_38 =>
 pickW t74 (Bo true) t78_37 fun t79 =>
 guardM t79 false (fun k_39 => k_39 t11 M_38) (fun k => k .undef M_38) fun t81 M_40 =>
 guardM t79 false (fun k_41 => c_rolodex_dot_Set_Encode [t81] M_40 fun t82 M_42 =>
 k_41 t82 M_42) (fun k => k .undef M_40) fun t82_43 M_44 =>
 guardM t79 false (fun k_45 => k_45 a0 M_44) (fun k => k .undef M_44) fun t83 M_46 =>
 guardM t79 false (fun k_47 => c_bytes_Equal [t82_43, t83] M_46 fun t84 M_48 =>
 k_47 t84 M_48) (fun k => k .undef M_46) fun t84_49 M_50 =>
 guardM t79 false (fun k_51 => notW t84_49 fun t85 =>
 k_51 t85 M_50) (fun k => k .undef M_50) fun t85_52 M_53 =>
 pickW t79 (Bo true) t85_52 fun t86 =>
 condW t86 (
 Q (.tup [(.sc (.pointer none)), (N .i64 14)]) M_53) (
 Q (.tup [t11, (N .i64 0)]) M_53))) [(N .i64 0)] M_1

/-- (*rolodex/dot.Set).Add -/
def W_rolodex_dot_Set_Add (T_api_Dot : Nat) (c_rolodex_dot_Good : CallT) (c_rolodex_dot_part_add : CallT) (a0 a1 : AV) (M0 : RM) (Q : PostV) : Prop :=
 boxW T_api_Dot a1 fun r f =>
 newW r f M0 fun t3 M =>
 loadN M t3 2 fun t6 =>
 c_rolodex_dot_Good [t6] M fun t7 M_0 =>
 notW t7 fun t8 =>
 condW t8 (
 Q (N .i64 1) M_0) (
 fldW t3 0 fun t11 =>
 load1 M_0 t11 fun t12 =>
 ptrW a0 fun t13 =>
 fldW t13 0 fun t14 =>
 idxA t14 t12 16 2 fun t15 =>
 fldW t3 1 fun t16 =>
 load1 M_0 t16 fun t17 =>
 c_rolodex_dot_part_add [t15, t17] M_0 fun t18 M_1 =>
 notW t18 fun t19 =>
 condW t19 (
 Q (N .i64 2) M_1) (
 Q (N .i64 0) M_1))

/-- (*rolodex/dot.Set).Parts -/
def W_rolodex_dot_Set_Parts (T_dot_part : Nat) (c_slices_Clone_uint64_uint64 : CallT) (T_dot_Part : Nat) (a0 : AV) (M0 : RM) (Q : PostV) : Prop :=
 ptrW a0 fun t7 =>
 fldW t7 0 fun t8 =>
 loadN M0 t8 32 fun t9 =>
 loopW (fun next xs M => -- [3, 10]
 intW .lss (nthD xs 1) (N .i64 16) fun t11 =>
 condW t11 (
 joinW (fun J =>
 idxPN t9 (nthD xs 1) 16 2 fun t13 =>
 newW (.row [(N .u64 0), (.sc (.slice none 0 0))] false T_dot_part 0) (fun b => .ptr b 0) M fun t5 M_0 =>
 storeW M_0 t5 t13 2 fun M_1 =>
 fldW t5 0 fun t14 =>
 load1 M_1 t14 fun t15 =>
 intW .gtr t15 (N .u64 0) fun t16 =>
 guardM t16 false (fun k => fldW t5 1 fun t18 =>
 k t18 M_1) (fun k => k .undef M_1) fun t18_2 M_3 =>
 guardM t16 false (fun k_4 => load1 M_3 t18_2 fun t19 =>
 k_4 t19 M_3) (fun k => k .undef M_3) fun t19_5 M_6 =>
 guardM t16 false (fun k_7 => lenW t19_5 fun t20 =>
 k_7 t20 M_6) (fun k => k .undef M_6) fun t20_8 M_9 =>
 guardM t16 false (fun k_10 => intW .gtr t20_8 (N .i64 0) fun t21 =>
 k_10 t21 M_9) (fun k => k .undef M_9) fun t21_11 M_12 =>
 pickW t16 (Bo true) t21_11 fun t22 =>
 condW t22 (
 fldW t5 0 fun t25 =>
 load1 M_12 t25 fun t26 =>
 fldW t5 1 fun t27 =>
 load1 M_12 t27 fun t28 =>
 c_slices_Clone_uint64_uint64 [t28] M_12 fun t29 M_13 =>
 load1 M_13 t25 fun t26_16 =>
 (t26_16 = t26 ∧ buildW [(N .i64 0), (N .u64 0), (.sc (.slice none 0 0))] [(0, 1, (nthD xs 1)), (1, 1, t26), (2, 1, t29)] fun t30 =>
 rowsW T_dot_Part 1 [(N .i64 0), (N .u64 0), (.sc (.slice none 0 0))] [(0, 3, t30)] fun r f =>
 newR r f M_13 fun t31 M_14 b =>
 appW T_dot_Part 3 40 [(N .i64 0), (N .u64 0), (.sc (.slice none 0 0))] false (nthD xs 0) t31 M_14 fun t32 M_15 =>
 J [t32] M_15)) (
 J [(nthD xs 0)] M_12)) (fun xs_17 M_18 => -- [3]
 intW .add (nthD xs 1) (N .i64 1) fun t33 =>
 next [(nthD xs_17 0), t33] M_18)) (
 Q (nthD xs 0) M)) [(.sc (.slice none 0 0)), (N .i64 0)] M0

/-- rolodex/dot.Good -/
def W_rolodex_dot_Good (T_api_Dot : Nat) (a0 : AV) (M0 : RM) (Q : PostV) : Prop :=
 boxW T_api_Dot a0 fun r f =>
 newW r f M0 fun t1 M =>
 fldW t1 0 fun t3 =>
 load1 M t3 fun t4 =>
 intW .geq t4 (N .i64 0) fun t5 =>
 guardM t5 true (fun k => fldW t1 0 fun t7 =>
 k t7 M) (fun k => k .undef M) fun t7_0 M_1 =>
 guardM t5 true (fun k_2 => load1 M_1 t7_0 fun t8 =>
 k_2 t8 M_1) (fun k => k .undef M_1) fun t8_3 M_4 =>
 guardM t5 true (fun k_5 => intW .lss t8_3 (N .i64 16) fun t9 =>
 k_5 t9 M_4) (fun k => k .undef M_4) fun t9_6 M_7 =>
 pickW t5 t9_6 (Bo false) fun t10 =>
 guardM t10 true (fun k_8 => fldW t1 1 fun t12 =>
 k_8 t12 M_7) (fun k => k .undef M_7) fun t12_9 M_10 =>
 guardM t10 true (fun k_11 => load1 M_10 t12_9 fun t13 =>
 k_11 t13 M_10) (fun k => k .undef M_10) fun t13_12 M_13 =>
 guardM t10 true (fun k_14 => intW .geq t13_12 (N .u64 1) fun t14 =>
 k_14 t14 M_13) (fun k => k .undef M_13) fun t14_15 M_16 =>
 pickW t10 t14_15 (Bo false) fun t15 =>
 guardM t15 true (fun k_17 => fldW t1 1 fun t17 =>
 k_17 t17 M_16) (fun k => k .undef M_16) fun t17_18 M_19 =>
 guardM t15 true (fun k_20 => load1 M_19 t17_18 fun t18 =>
 k_20 t18 M_19) (fun k => k .undef M_19) fun t18_21 M_22 =>
 guardM t15 true (fun k_23 => intW .leq t18_21 (N .u64 1099511627776) fun t19 =>
 k_23 t19 M_22) (fun k => k .undef M_22) fun t19_24 M_25 =>
 pickW t15 t19_24 (Bo false) fun t20 =>
 Q t20 M_25

/-- rolodex/rolodexref13.Good -/
def W_rolodex_rolodexref13_Good (T_api_Dot : Nat) (a0 : AV) (M0 : RM) (Q : PostV) : Prop :=
 boxW T_api_Dot a0 fun r f =>
 newW r f M0 fun t1 M =>
 fldW t1 0 fun t3 =>
 load1 M t3 fun t4 =>
 intW .geq t4 (N .i64 0) fun t5 =>
 guardM t5 true (fun k => fldW t1 0 fun t7 =>
 k t7 M) (fun k => k .undef M) fun t7_0 M_1 =>
 guardM t5 true (fun k_2 => load1 M_1 t7_0 fun t8 =>
 k_2 t8 M_1) (fun k => k .undef M_1) fun t8_3 M_4 =>
 guardM t5 true (fun k_5 => intW .lss t8_3 (N .i64 16) fun t9 =>
 k_5 t9 M_4) (fun k => k .undef M_4) fun t9_6 M_7 =>
 pickW t5 t9_6 (Bo false) fun t10 =>
 guardM t10 true (fun k_8 => fldW t1 1 fun t12 =>
 k_8 t12 M_7) (fun k => k .undef M_7) fun t12_9 M_10 =>
 guardM t10 true (fun k_11 => load1 M_10 t12_9 fun t13 =>
 k_11 t13 M_10) (fun k => k .undef M_10) fun t13_12 M_13 =>
 guardM t10 true (fun k_14 => intW .geq t13_12 (N .u64 1) fun t14 =>
 k_14 t14 M_13) (fun k => k .undef M_13) fun t14_15 M_16 =>
 pickW t10 t14_15 (Bo false) fun t15 =>
 guardM t15 true (fun k_17 => fldW t1 1 fun t17 =>
 k_17 t17 M_16) (fun k => k .undef M_16) fun t17_18 M_19 =>
 guardM t15 true (fun k_20 => load1 M_19 t17_18 fun t18 =>
 k_20 t18 M_19) (fun k => k .undef M_19) fun t18_21 M_22 =>
 guardM t15 true (fun k_23 => intW .leq t18_21 (N .u64 1099511627776) fun t19 =>
 k_23 t19 M_22) (fun k => k .undef M_22) fun t19_24 M_25 =>
 pickW t15 t19_24 (Bo false) fun t20 =>
 Q t20 M_25

/-- rolodex/rolodexref13.Add -/
def W_rolodex_rolodexref13_Add (T_api_Dot : Nat) (c_rolodex_rolodexref13_Has : CallT) (c_rolodex_rolodexref13_ahead : CallT) (a0 a1 : AV) (M0 : RM) (Q : PostV) : Prop :=
 boxW T_api_Dot a1 fun r f =>
 newW r f M0 fun t3 M =>
 loadN M t3 2 fun t7 =>
 c_rolodex_rolodexref13_Has [a0, t7] M fun t8 M_0 =>
 condW t8 (
 Q a0 M_0) (
 loopW (fun next xs M_1 => -- [5]
 lenW a0 fun t12 =>
 intW .lss (nthD xs 0) t12 fun t13 =>
 guardK t13 true (fun k => k a0 M_1 none) (fun k => k .undef M_1 none) fun t15 M_2 b =>
 guardK t13 true (fun k_3 => k_3 (nthD xs 0) M_2 none) (fun k => k .undef M_2 none) fun t16 M_4 b_5 =>
 guardK t13 true (fun k_6 => idxS t15 t16 2 fun t17 =>
 k_6 t17 M_4 none) (fun k => k .undef M_4 none) fun t17_7 M_8 b_9 =>
 guardK t13 true (fun k_10 => loadN M_8 t17_7 2 fun t18 =>
 k_10 t18 M_8 none) (fun k => k .undef M_8 none) fun t18_11 M_12 b_13 =>
 guardK t13 true (fun k_14 => loadN M_12 t3 2 fun t19 =>
 k_14 t19 M_12 none) (fun k => k .undef M_12 none) fun t19_15 M_16 b_17 =>
 guardM t13 true (fun k_18 => c_rolodex_rolodexref13_ahead [t18_11, t19_15] M_16 fun t20 M_19 =>
 k_18 t20 M_19) (fun k => k .undef M_16) fun t20_20 M_21 =>
 pickW t13 t20_20 (Bo false) fun t21 =>
 condW t21 (
 intW .add (nthD xs 0) (N .i64 1) fun t23 =>
 next [t23] M_21) (
 rowsW T_api_Dot 0 [(N .i64 0), (N .u64 0)] [] fun r_22 f_23 =>
 newR r_22 f_23 M_21 fun t24 M_24 b_25 =>
 getW (subS 2 a0 none (some (nthD xs 0)) none) fun t27 =>
 loadN M_24 t3 2 fun t29 =>
 rowsW T_api_Dot 1 [(N .i64 0), (N .u64 0)] [(0, 2, t29)] fun r_26 f_27 =>
 newR r_26 f_27 M_24 fun t30 M_28 b_29 =>
 getW (subS 2 a0 (some (nthD xs 0)) none none) fun t34 =>
 appW T_api_Dot 2 16 [(N .i64 0), (N .u64 0)] false t24 t27 M_28 fun t28 M_30 =>
 loadN M_30 t3 2 fun t29_37 =>
 (t29_37 = t29 ∧ rowsW T_api_Dot 1 [(N .i64 0), (N .u64 0)] [(0, 2, t29)] fun r_35 f_36 =>
 (sameB b_29 M_30 r_35 f_36 t30 ∧ getW (subS 2 a0 (some (nthD xs 0)) none none) fun t34_34 =>
 (t34_34 = t34 ∧ appW T_api_Dot 2 16 [(N .i64 0), (N .u64 0)] false t28 t30 M_30 fun t31 M_31 =>
 getW (subS 2 a0 (some (nthD xs 0)) none none) fun t34_33 =>
 (t34_33 = t34 ∧ appW T_api_Dot 2 16 [(N .i64 0), (N .u64 0)] false t31 t34 M_31 fun t35 M_32 =>
 Q t35 M_32)))))) [(N .i64 0)] M_0)

/-- (*rolodex/dot.Set).Copy -/
def W_rolodex_dot_Set_Copy (c_rolodex_dot_New : CallT) (c_rolodex_dot_Set_Join : CallT) (a0 : AV) (M0 : RM) (Q : PostV) : Prop :=
 c_rolodex_dot_New [] M0 fun t4 M =>
 c_rolodex_dot_Set_Join [t4, a0] M fun t7 M_0 =>
 Q t4 M_0

/-- (*rolodex/dot.Set).Encode -/
def W_rolodex_dot_Set_Encode (c_rolodex_dot_Set_Parts : CallT) (c_rolodex_bin_Uint : CallT) (T_dot_Part : Nat) (a0 : AV) (M0 : RM) (Q : PostV) : Prop :=
 c_rolodex_dot_Set_Parts [a0] M0 fun t11 M =>
 lenW t11 fun t13 =>
 cvtW .u64 t13 fun t14 =>
 c_rolodex_bin_Uint [(.sc (.slice none 0 0)), t14] M fun t15 M_0 =>
 lenW t11 fun t17 =>
 loopW (fun next xs M_1 => -- [4, 18]
 intW .lss (nthD xs 1) t17 fun t19 =>
 condW t19 (
 idxS t11 (nthD xs 1) 3 fun t20 =>
 loadN M_1 t20 3 fun t21 =>
 newW (.row [(N .i64 0), (N .u64 0), (.sc (.slice none 0 0))] false T_dot_Part 0) (fun b => .ptr b 0) M_1 fun t6 M_2 =>
 storeW M_2 t6 t21 3 fun M_3 =>
 fldW t6 0 fun t23 =>
 load1 M_3 t23 fun t24 =>
 cvtW .u64 t24 fun t25 =>
 fldW t6 1 fun t27 =>
 load1 M_3 t27 fun t28 =>
 fldW t6 2 fun t30 =>
 load1 M_3 t30 fun t31 =>
 lenW t31 fun t32 =>
 cvtW .u64 t32 fun t33 =>
 c_rolodex_bin_Uint [(nthD xs 0), t25] M_3 fun t26 M_4 =>
 load1 M_4 t27 fun t28_13 =>
 (t28_13 = t28 ∧ load1 M_4 t30 fun t31_12 =>
 (t31_12 = t31 ∧ c_rolodex_bin_Uint [t26, t28] M_4 fun t29 M_5 =>
 load1 M_5 t30 fun t31_11 =>
 (t31_11 = t31 ∧ c_rolodex_bin_Uint [t29, t33] M_5 fun t34 M_6 =>
 fldW t6 1 fun t35 =>
 load1 M_6 t35 fun t36 =>
 fldW t6 2 fun t37 =>
 load1 M_6 t37 fun t38 =>
 lenW t38 fun t39 =>
 loopW (fun next_7 xs_8 M_9 => -- [4, 7, 40]
 intW .lss (nthD xs_8 2) t39 fun t41 =>
 condW t41 (
 idxS t38 (nthD xs_8 2) 1 fun t42 =>
 load1 M_9 t42 fun t43 =>
 intW .sub t43 (nthD xs_8 1) fun t47 =>
 c_rolodex_bin_Uint [(nthD xs_8 0), t47] M_9 fun t48 M_10 =>
 intW .add (nthD xs_8 2) (N .i64 1) fun t50 =>
 next_7 [t48, t43, t50] M_10) (
 intW .add (nthD xs 1) (N .i64 1) fun t51 =>
 next [(nthD xs_8 0), t51] M_9)) [t34, t36, (N .i64 0)] M_6)))) (
 Q (nthD xs 0) M_1)) [t15, (N .i64 0)] M_0

/-- rolodex/rolodexlaw13.is -/
def W_rolodex_rolodexlaw13_is (c_rolodex_dot_Set_Parts : CallT) (c_rolodex_rolodexref13_Parts : CallT) (c_rolodex_dot_Set_Encode : CallT) (c_rolodex_rolodexref13_Encode : CallT) (a0 a1 : AV) (M0 : RM) (Q : PostV) : Prop :=
 c_rolodex_dot_Set_Parts [a0] M0 fun t10 M =>
 c_rolodex_rolodexref13_Parts [a1] M fun t12 M_0 =>
 lenW t10 fun t14 =>
 lenW t12 fun t16 =>
 intW .neq t14 t16 fun t17 =>
 guardK t17 false (fun k => k a0 M_0 none) (fun k => k .undef M_0 none) fun t19 M_1 b =>
 guardK t17 false (fun k_2 => k_2 a1 M_1 none) (fun k => k .undef M_1 none) fun t22 M_3 b_4 =>
 guardM t17 false (fun k_5 => c_rolodex_dot_Set_Encode [t19] M_3 fun t20 M_6 =>
 k_5 t20 M_6) (fun k => k .undef M_3) fun t20_7 M_8 =>
 guardK t17 false (fun k_9 => strOfW M_8 t20_7 fun t21 =>
 k_9 t21 M_8 none) (fun k => k .undef M_8 none) fun t21_10 M_11 b_12 =>
 guardM t17 false (fun k_13 => c_rolodex_rolodexref13_Encode [t22] M_11 fun t23 M_14 =>
 k_13 t23 M_14) (fun k => k .undef M_11) fun t23_15 M_16 =>
 guardP t17 false (fun k_17 => strOfW M_16 t20_7 fun t21_18 =>
 (t21_18 = t21_10 ∧ k_17)) (fun k => k) (guardK t17 false (fun k_19 => strOfW M_16 t23_15 fun t24 =>
 k_19 t24 M_16 none) (fun k => k .undef M_16 none) fun t24_20 M_21 b_22 =>
 guardK t17 false (fun k_23 => strW .neq t21_10 t24_20 fun t25 =>
 k_23 t25 M_21 none) (fun k => k .undef M_21 none) fun t25_24 M_25 b_26 =>
 pickW t17 (Bo true) t25_24 fun t26 =>
 condW t26 (
 Q (Bo false) M_25) (
 loopW (fun next xs M_27 => -- [7]
 lenW t10 fun t29 =>
 intW .lss (nthD xs 0) t29 fun t30 =>
 condW t30 (
 idxS t10 (nthD xs 0) 3 fun t35 =>
 fldW t35 0 fun t36 =>
 load1 M_27 t36 fun t37 =>
 idxS t12 (nthD xs 0) 3 fun t40 =>
 fldW t40 0 fun t41 =>
 load1 M_27 t41 fun t42 =>
 intW .neq t37 t42 fun t43 =>
 guardK t43 false (fun k_28 => k_28 t10 M_27 none) (fun k => k .undef M_27 none) fun t45 M_29 b_30 =>
 guardK t43 false (fun k_31 => k_31 (nthD xs 0) M_29 none) (fun k => k .undef M_29 none) fun t46 M_32 b_33 =>
 guardK t43 false (fun k_34 => idxS t45 t46 3 fun t47 =>
 k_34 t47 M_32 none) (fun k => k .undef M_32 none) fun t47_35 M_36 b_37 =>
 guardK t43 false (fun k_38 => fldW t47_35 1 fun t48 =>
 k_38 t48 M_36 none) (fun k => k .undef M_36 none) fun t48_39 M_40 b_41 =>
 guardK t43 false (fun k_42 => load1 M_40 t48_39 fun t49 =>
 k_42 t49 M_40 none) (fun k => k .undef M_40 none) fun t49_43 M_44 b_45 =>
 guardK t43 false (fun k_46 => k_46 t12 M_44 none) (fun k => k .undef M_44 none) fun t50 M_47 b_48 =>
 guardK t43 false (fun k_49 => k_49 (nthD xs 0) M_47 none) (fun k => k .undef M_47 none) fun t51 M_50 b_51 =>
 guardK t43 false (fun k_52 => idxS t50 t51 3 fun t52 =>
 k_52 t52 M_50 none) (fun k => k .undef M_50 none) fun t52_53 M_54 b_55 =>
 guardK t43 false (fun k_56 => fldW t52_53 1 fun t53 =>
 k_56 t53 M_54 none) (fun k => k .undef M_54 none) fun t53_57 M_58 b_59 =>
 guardK t43 false (fun k_60 => load1 M_58 t53_57 fun t54 =>
 k_60 t54 M_58 none) (fun k => k .undef M_58 none) fun t54_61 M_62 b_63 =>
 guardK t43 false (fun k_64 => intW .neq t49_43 t54_61 fun t55 =>
 k_64 t55 M_62 none) (fun k => k .undef M_62 none) fun t55_65 M_66 b_67 =>
 pickW t43 (Bo true) t55_65 fun t56 =>
 guardK t56 false (fun k_68 => k_68 t10 M_66 none) (fun k => k .undef M_66 none) fun t58 M_69 b_70 =>
 guardK t56 false (fun k_71 => k_71 (nthD xs 0) M_69 none) (fun k => k .undef M_69 none) fun t59 M_72 b_73 =>
 guardK t56 false (fun k_74 => idxS t58 t59 3 fun t60 =>
 k_74 t60 M_72 none) (fun k => k .undef M_72 none) fun t60_75 M_76 b_77 =>
 guardK t56 false (fun k_78 => fldW t60_75 2 fun t61 =>
 k_78 t61 M_76 none) (fun k => k .undef M_76 none) fun t61_79 M_80 b_81 =>
 guardK t56 false (fun k_82 => load1 M_80 t61_79 fun t62 =>
 k_82 t62 M_80 none) (fun k => k .undef M_80 none) fun t62_83 M_84 b_85 =>
 guardK t56 false (fun k_86 => lenW t62_83 fun t63 =>
 k_86 t63 M_84 none) (fun k => k .undef M_84 none) fun t63_87 M_88 b_89 =>
 guardK t56 false (fun k_90 => k_90 t12 M_88 none) (fun k => k .undef M_88 none) fun t64 M_91 b_92 =>
 guardK t56 false (fun k_93 => k_93 (nthD xs 0) M_91 none) (fun k => k .undef M_91 none) fun t65 M_94 b_95 =>
 guardK t56 false (fun k_96 => idxS t64 t65 3 fun t66 =>
 k_96 t66 M_94 none) (fun k => k .undef M_94 none) fun t66_97 M_98 b_99 =>
 guardK t56 false (fun k_100 => fldW t66_97 2 fun t67 =>
 k_100 t67 M_98 none) (fun k => k .undef M_98 none) fun t67_101 M_102 b_103 =>
 guardK t56 false (fun k_104 => load1 M_102 t67_101 fun t68 =>
 k_104 t68 M_102 none) (fun k => k .undef M_102 none) fun t68_105 M_106 b_107 =>
 guardK t56 false (fun k_108 => lenW t68_105 fun t69 =>
 k_108 t69 M_106 none) (fun k => k .undef M_106 none) fun t69_109 M_110 b_111 =>
 guardK t56 false (fun k_112 => intW .neq t63_87 t69_109 fun t70 =>
 k_112 t70 M_110 none) (fun k => k .undef M_110 none) fun t70_113 M_114 b_115 =>
 pickW t56 (Bo true) t70_113 fun t71 =>
 condW t71 (
 Q (Bo false) M_114) (
 loopW (fun next_116 xs_117 M_118 => -- [8]
 idxS t10 (nthD xs 0) 3 fun t75 =>
 fldW t75 2 fun t76 =>
 load1 M_118 t76 fun t77 =>
 lenW t77 fun t78 =>
 intW .lss (nthD xs_117 0) t78 fun t79 =>
 condW t79 (
 idxS t10 (nthD xs 0) 3 fun t84 =>
 fldW t84 2 fun t85 =>
 load1 M_118 t85 fun t86 =>
 idxS t86 (nthD xs_117 0) 1 fun t88 =>
 load1 M_118 t88 fun t89 =>
 idxS t12 (nthD xs 0) 3 fun t92 =>
 fldW t92 2 fun t93 =>
 load1 M_118 t93 fun t94 =>
 idxS t94 (nthD xs_117 0) 1 fun t96 =>
 load1 M_118 t96 fun t97 =>
 intW .neq t89 t97 fun t98 =>
 condW t98 (
 Q (Bo false) M_118) (
 idxS t10 (nthD xs 0) 3 fun t101 =>
 fldW t101 2 fun t102 =>
 load1 M_118 t102 fun t103 =>
 idxS t103 (nthD xs_117 0) 1 fun t105 =>
 storeW M_118 t105 (N .u64 99) 1 fun M_119 =>
 intW .add (nthD xs_117 0) (N .i64 1) fun t81 =>
 next_116 [t81] M_119)) (
 intW .add (nthD xs 0) (N .i64 1) fun t32 =>
 next [t32] M_118)) [(N .i64 0)] M_114)) (
 Q (Bo true) M_27)) [(N .i64 0)] M_25))

/-- (*rolodex/dot.Set).Has -/
def W_rolodex_dot_Set_Has (T_api_Dot : Nat) (c_rolodex_dot_Good : CallT) (c_rolodex_dot_part_has : CallT) (a0 a1 : AV) (M0 : RM) (Q : PostV) : Prop :=
 boxW T_api_Dot a1 fun r f =>
 newW r f M0 fun t3 M =>
 loadN M t3 2 fun t5 =>
 c_rolodex_dot_Good [t5] M fun t6 M_0 =>
 guardK t6 true (fun k => k a0 M_0 none) (fun k => k .undef M_0 none) fun t8 M_1 b =>
 guardK t6 true (fun k_2 => fldW t3 0 fun t9 =>
 k_2 t9 M_1 none) (fun k => k .undef M_1 none) fun t9_3 M_4 b_5 =>
 guardK t6 true (fun k_6 => load1 M_4 t9_3 fun t10 =>
 k_6 t10 M_4 none) (fun k => k .undef M_4 none) fun t10_7 M_8 b_9 =>
 guardK t6 true (fun k_10 => ptrW t8 fun t11 =>
 k_10 t11 M_8 none) (fun k => k .undef M_8 none) fun t11_11 M_12 b_13 =>
 guardK t6 true (fun k_14 => fldW t11_11 0 fun t12 =>
 k_14 t12 M_12 none) (fun k => k .undef M_12 none) fun t12_15 M_16 b_17 =>
 guardK t6 true (fun k_18 => idxA t12_15 t10_7 16 2 fun t13 =>
 k_18 t13 M_16 none) (fun k => k .undef M_16 none) fun t13_19 M_20 b_21 =>
 guardK t6 true (fun k_22 => fldW t3 1 fun t14 =>
 k_22 t14 M_20 none) (fun k => k .undef M_20 none) fun t14_23 M_24 b_25 =>
 guardK t6 true (fun k_26 => load1 M_24 t14_23 fun t15 =>
 k_26 t15 M_24 none) (fun k => k .undef M_24 none) fun t15_27 M_28 b_29 =>
 guardM t6 true (fun k_30 => c_rolodex_dot_part_has [t13_19, t15_27] M_28 fun t16 M_31 =>
 k_30 t16 M_31) (fun k => k .undef M_28) fun t16_32 M_33 =>
 pickW t6 t16_32 (Bo false) fun t17 =>
 Q t17 M_33

/-- rolodex/rolodexref13.Has -/
def W_rolodex_rolodexref13_Has (T_api_Dot : Nat) (a0 a1 : AV) (M0 : RM) (Q : PostV) : Prop :=
 boxW T_api_Dot a1 fun r f =>
 newW r f M0 fun t3 M =>
 loopW (fun next xs M_0 => -- [5]
 lenW a0 fun t8 =>
 intW .lss (nthD xs 0) t8 fun t9 =>
 condW t9 (
 idxS a0 (nthD xs 0) 2 fun t14 =>
 loadN M_0 t14 2 fun t15 =>
 loadN M_0 t3 2 fun t16 =>
 aggEqW false [1, 1] t15 t16 fun t17 =>
 condW t17 (
 Q (Bo true) M_0) (
 intW .add (nthD xs 0) (N .i64 1) fun t11 =>
 next [t11] M_0)) (
 Q (Bo false) M_0)) [(N .i64 0)] M

/-- rolodex/rolodexlaw13.of -/
def W_rolodex_rolodexlaw13_of (c_rolodex_dot_New : CallT) (c_rolodex_dot_Set_Add : CallT) (c_rolodex_rolodexref13_Add : CallT) (a0 : AV) (M0 : RM) (Q : PostV) : Prop :=
 c_rolodex_dot_New [] M0 fun t7 M =>
 loopW (fun next xs M_0 => -- [5, 6]
 lenW a0 fun t10 =>
 intW .lss (nthD xs 1) t10 fun t11 =>
 condW t11 (
 joinW (fun J =>
 idxS a0 (nthD xs 1) 2 fun t17 =>
 loadN M_0 t17 2 fun t18 =>
 c_rolodex_dot_Set_Add [t7, t18] M_0 fun t19 M_1 =>
 intW .eql t19 (N .i64 0) fun t20 =>
 condW t20 (
 idxS a0 (nthD xs 1) 2 fun t24 =>
 loadN M_1 t24 2 fun t25 =>
 c_rolodex_rolodexref13_Add [(nthD xs 0), t25] M_1 fun t26 M_2 =>
 J [t26] M_2) (
 J [(nthD xs 0)] M_1)) (fun xs_3 M_4 => -- [5]
 intW .add (nthD xs 1) (N .i64 1) fun t13 =>
 next [(nthD xs_3 0), t13] M_4)) (
 Q (.tup [t7, (nthD xs 0)]) M_0)) [(.sc (.slice none 0 0)), (N .i64 0)] M

/-- (*rolodex/dot.Set).Join -/
def W_rolodex_dot_Set_Join (T_dot_part : Nat) (T_slice_uint64 : Nat) (c_slices_Concat_uint64_uint64 : CallT) (c_slices_Sort_uint64_uint64 : CallT) (c_slices_Compact_uint64_uint64 : CallT) (c_rolodex_dot_part_settled : CallT) (a0 a1 : AV) (M0 : RM) (Q : PostV) : Prop :=
 loopW (fun next xs M => -- [7]
 intW .lss (nthD xs 0) (N .i64 16) fun t8 =>
 condW t8 (
 ptrW a0 fun t12 =>
 fldW t12 0 fun t13 =>
 idxA t13 (nthD xs 0) 16 2 fun t14 =>
 ptrW a1 fun t17 =>
 fldW t17 0 fun t18 =>
 idxA t18 (nthD xs 0) 16 2 fun t19 =>
 loadN M t19 2 fun t20 =>
 newR (.row [(N .u64 0), (.sc (.slice none 0 0))] false T_dot_part 0) (fun b => .ptr b 0) M fun t6 M_0 b =>
 storeW M_0 t6 t20 2 fun M_1 =>
 ptrW t14 fun t23 =>
 fldW t23 0 fun t24 =>
 load1 M_1 t24 fun t25 =>
 fldW t6 0 fun t26 =>
 load1 M_1 t26 fun t27 =>
 minW true t25 t27 fun t28 =>
 ptrW t14 fun t29 =>
 fldW t29 0 fun t30 =>
 storeW M_1 t30 t28 1 fun M_2 =>
 ptrW t14 fun t33 =>
 fldW t33 1 fun t34 =>
 load1 M_2 t34 fun t35 =>
 fldW t6 1 fun t36 =>
 load1 M_2 t36 fun t37 =>
 rowsW T_slice_uint64 2 [(.sc (.slice none 0 0))] [(0, 1, t35), (1, 1, t37)] fun r f =>
 newR r f M_2 fun t38 M_3 b_4 =>
 c_slices_Concat_uint64_uint64 [t38] M_3 fun t39 M_5 =>
 ptrW t14 fun t40 =>
 fldW t40 1 fun t41 =>
 storeW M_5 t41 t39 1 fun M_6 =>
 ptrW t14 fun t43 =>
 fldW t43 1 fun t44 =>
 load1 M_6 t44 fun t45 =>
 c_slices_Sort_uint64_uint64 [t45] M_6 fun t46 M_7 =>
 ptrW t14 fun t49 =>
 fldW t49 1 fun t50 =>
 load1 M_7 t50 fun t51 =>
 c_slices_Compact_uint64_uint64 [t51] M_7 fun t52 M_8 =>
 ptrW t14 fun t53 =>
 fldW t53 1 fun t54 =>
 storeW M_8 t54 t52 1 fun M_9 =>
 c_rolodex_dot_part_settled [t14] M_9 fun t56 M_10 =>
 intW .add (nthD xs 0) (N .i64 1) fun t57 =>
 next [t57] M_10) (
 Q (.tup []) M)) [(N .i64 0)] M0

/-- (*rolodex/dot.Set).Within -/
def W_rolodex_dot_Set_Within (T_dot_part : Nat) (c_rolodex_dot_part_has : CallT) (a0 a1 : AV) (M0 : RM) (Q : PostV) : Prop :=
 ptrW a0 fun t11 =>
 fldW t11 0 fun t12 =>
 loadN M0 t12 32 fun t13 =>
 loopW (fun next xs M => -- [14]
 intW .lss (nthD xs 0) (N .i64 16) fun t15 =>
 condW t15 (
 idxPN t13 (nthD xs 0) 16 2 fun t17 =>
 newW (.row [(N .u64 0), (.sc (.slice none 0 0))] false T_dot_part 0) (fun b => .ptr b 0) M fun t6 M_0 =>
 storeW M_0 t6 t17 2 fun M_1 =>
 ptrW a1 fun t20 =>
 fldW t20 0 fun t21 =>
 idxA t21 (nthD xs 0) 16 2 fun t22 =>
 fldW t6 0 fun t23 =>
 load1 M_1 t23 fun t24 =>
 ptrW t22 fun t26 =>
 fldW t26 0 fun t27 =>
 load1 M_1 t27 fun t28 =>
 intW .gtr t24 t28 fun t29 =>
 condW t29 (
 Q (Bo false) M_1) (
 fldW t6 1 fun t30 =>
 load1 M_1 t30 fun t31 =>
 lenW t31 fun t32 =>
 loopW (fun next_2 xs_3 M_4 => -- [33]
 intW .lss (nthD xs_3 0) t32 fun t34 =>
 condW t34 (
 idxS t31 (nthD xs_3 0) 1 fun t35 =>
 load1 M_4 t35 fun t36 =>
 c_rolodex_dot_part_has [t22, t36] M_4 fun t39 M_5 =>
 notW t39 fun t40 =>
 condW t40 (
 Q (Bo false) M_5) (
 intW .add (nthD xs_3 0) (N .i64 1) fun t41 =>
 next_2 [t41] M_5)) (
 intW .add (nthD xs 0) (N .i64 1) fun t42 =>
 next [t42] M_4)) [(N .i64 0)] M_1)) (
 Q (Bo true) M)) [(N .i64 0)] M0

/-- rolodex/rolodexlaw13.bytes -/
def W_rolodex_rolodexlaw13_bytes (c_rolodex_dot_Decode : CallT) (c_rolodex_dot_Set_Encode : CallT) (a0 : AV) (M0 : RM) (Q : PostV) : Prop :=
 c_rolodex_dot_Decode [a0] M0 fun t7 M =>
 extW t7 0 fun t8 =>
 extW t7 1 fun t9 =>
 intW .neq t9 (N .i64 0) fun t11 =>
 condW t11 (
 intW .eql t9 (N .i64 14) fun t13 =>
 guardM t13 true (fun k => k t8 M) (fun k => k .undef M) fun t15 M_0 =>
 guardM t13 true (fun k_1 => refEqW false 1 t15 (.sc (.pointer none)) fun t16 =>
 k_1 t16 M_0) (fun k => k .undef M_0) fun t16_2 M_3 =>
 pickW t13 t16_2 (Bo false) fun t17 =>
 Q t17 M_3) (
 refEqW true 1 t8 (.sc (.pointer none)) fun t19 =>
 guardK t19 true (fun k_4 => k_4 t8 M none) (fun k => k .undef M none) fun t21 M_5 b =>
 guardK t19 true (fun k_6 => k_6 a0 M_5 none) (fun k => k .undef M_5 none) fun t24 M_7 b_8 =>
 guardK t19 true (fun k_9 => strOfW M_7 t24 fun t25 =>
 k_9 t25 M_7 none) (fun k => k .undef M_7 none) fun t25_10 M_11 b_12 =>
 guardM t19 true (fun k_13 => c_rolodex_dot_Set_Encode [t21] M_11 fun t22 M_14 =>
 k_13 t22 M_14) (fun k => k .undef M_11) fun t22_15 M_16 =>
 guardP t19 true (fun k_17 => strOfW M_16 t24 fun t25_18 =>
 (t25_18 = t25_10 ∧ k_17)) (fun k => k) (guardK t19 true (fun k_19 => strOfW M_16 t22_15 fun t23 =>
 k_19 t23 M_16 none) (fun k => k .undef M_16 none) fun t23_20 M_21 b_22 =>
 guardK t19 true (fun k_23 => strW .eql t23_20 t25_10 fun t26 =>
 k_23 t26 M_21 none) (fun k => k .undef M_21 none) fun t26_24 M_25 b_26 =>
 pickW t19 t26_24 (Bo false) fun t27 =>
 Q t27 M_25))

/-- rolodex/dot.Less -/
def W_rolodex_dot_Less (T_api_Dot : Nat) (a0 a1 : AV) (M0 : RM) (Q : PostV) : Prop :=
 boxW T_api_Dot a0 fun r f =>
 newW r f M0 fun t2 M =>
 boxW T_api_Dot a1 fun r_0 f_1 =>
 newW r_0 f_1 M fun t3 M_2 =>
 fldW t2 1 fun t5 =>
 load1 M_2 t5 fun t6 =>
 fldW t3 1 fun t7 =>
 load1 M_2 t7 fun t8 =>
 intW .lss t6 t8 fun t9 =>
 guardM t9 false (fun k => fldW t2 1 fun t11 =>
 k t11 M_2) (fun k => k .undef M_2) fun t11_3 M_4 =>
 guardM t9 false (fun k_5 => load1 M_4 t11_3 fun t12 =>
 k_5 t12 M_4) (fun k => k .undef M_4) fun t12_6 M_7 =>
 guardM t9 false (fun k_8 => fldW t3 1 fun t13 =>
 k_8 t13 M_7) (fun k => k .undef M_7) fun t13_9 M_10 =>
 guardM t9 false (fun k_11 => load1 M_10 t13_9 fun t14 =>
 k_11 t14 M_10) (fun k => k .undef M_10) fun t14_12 M_13 =>
 guardM t9 false (fun k_14 => intW .eql t12_6 t14_12 fun t15 =>
 k_14 t15 M_13) (fun k => k .undef M_13) fun t15_15 M_16 =>
 guardM t9 false (fun k_17 => k_17 t15_15 M_16) (fun k => k .undef M_16) fun t16 M_18 =>
 guardM t16 true (fun k_19 => fldW t2 0 fun t17 =>
 k_19 t17 M_18) (fun k => k .undef M_18) fun t17_20 M_21 =>
 guardM t16 true (fun k_22 => load1 M_21 t17_20 fun t18 =>
 k_22 t18 M_21) (fun k => k .undef M_21) fun t18_23 M_24 =>
 guardM t16 true (fun k_25 => fldW t3 0 fun t19 =>
 k_25 t19 M_24) (fun k => k .undef M_24) fun t19_26 M_27 =>
 guardM t16 true (fun k_28 => load1 M_27 t19_26 fun t20 =>
 k_28 t20 M_27) (fun k => k .undef M_27) fun t20_29 M_30 =>
 guardM t16 true (fun k_31 => intW .lss t18_23 t20_29 fun t21 =>
 k_31 t21 M_30) (fun k => k .undef M_30) fun t21_32 M_33 =>
 guardM t9 false (fun k_34 => pickW t16 t21_32 (Bo false) fun t22 =>
 k_34 t22 M_33) (fun k => k .undef M_33) fun t22_35 M_36 =>
 pickW t9 (Bo true) t22_35 fun t23 =>
 Q t23 M_36

/-- rolodex/rolodexref13.Less -/
def W_rolodex_rolodexref13_Less (T_api_Dot : Nat) (a0 a1 : AV) (M0 : RM) (Q : PostV) : Prop :=
 boxW T_api_Dot a0 fun r f =>
 newW r f M0 fun t2 M =>
 boxW T_api_Dot a1 fun r_0 f_1 =>
 newW r_0 f_1 M fun t3 M_2 =>
 fldW t2 1 fun t5 =>
 load1 M_2 t5 fun t6 =>
 fldW t3 1 fun t7 =>
 load1 M_2 t7 fun t8 =>
 intW .lss t6 t8 fun t9 =>
 guardM t9 false (fun k => fldW t2 1 fun t11 =>
 k t11 M_2) (fun k => k .undef M_2) fun t11_3 M_4 =>
 guardM t9 false (fun k_5 => load1 M_4 t11_3 fun t12 =>
 k_5 t12 M_4) (fun k => k .undef M_4) fun t12_6 M_7 =>
 guardM t9 false (fun k_8 => fldW t3 1 fun t13 =>
 k_8 t13 M_7) (fun k => k .undef M_7) fun t13_9 M_10 =>
 guardM t9 false (fun k_11 => load1 M_10 t13_9 fun t14 =>
 k_11 t14 M_10) (fun k => k .undef M_10) fun t14_12 M_13 =>
 guardM t9 false (fun k_14 => intW .eql t12_6 t14_12 fun t15 =>
 k_14 t15 M_13) (fun k => k .undef M_13) fun t15_15 M_16 =>
 guardM t9 false (fun k_17 => k_17 t15_15 M_16) (fun k => k .undef M_16) fun t16 M_18 =>
 guardM t16 true (fun k_19 => fldW t2 0 fun t17 =>
 k_19 t17 M_18) (fun k => k .undef M_18) fun t17_20 M_21 =>
 guardM t16 true (fun k_22 => load1 M_21 t17_20 fun t18 =>
 k_22 t18 M_21) (fun k => k .undef M_21) fun t18_23 M_24 =>
 guardM t16 true (fun k_25 => fldW t3 0 fun t19 =>
 k_25 t19 M_24) (fun k => k .undef M_24) fun t19_26 M_27 =>
 guardM t16 true (fun k_28 => load1 M_27 t19_26 fun t20 =>
 k_28 t20 M_27) (fun k => k .undef M_27) fun t20_29 M_30 =>
 guardM t16 true (fun k_31 => intW .lss t18_23 t20_29 fun t21 =>
 k_31 t21 M_30) (fun k => k .undef M_30) fun t21_32 M_33 =>
 guardM t9 false (fun k_34 => pickW t16 t21_32 (Bo false) fun t22 =>
 k_34 t22 M_33) (fun k => k .undef M_33) fun t22_35 M_36 =>
 pickW t9 (Bo true) t22_35 fun t23 =>
 Q t23 M_36

/-- rolodex/bin.Read -/
def W_rolodex_bin_Read (c_slices_Clone_byte_byte : CallT) (T_bin_Reader : Nat) (a0 : AV) (M0 : RM) (Q : PostV) : Prop :=
 c_slices_Clone_byte_byte [a0] M0 fun t4 M =>
 buildW [(.sc (.slice none 0 0)), (Bo false)] [(0, 1, t4)] fun t5 =>
 boxW T_bin_Reader t5 fun r f =>
 newW r f M fun t6 M_0 =>
 Q t6 M_0

/-- (*rolodex/bin.Reader).Int -/
def W_rolodex_bin_Reader_Int (c_rolodex_bin_Reader_number : CallT) (a0 a1 : AV) (M0 : RM) (Q : PostV) : Prop :=
 c_rolodex_bin_Reader_number [a0] M0 fun t10 M =>
 extW t10 0 fun t11 =>
 extW t10 1 fun t12 =>
 extW t10 2 fun t13 =>
 ptrW a0 fun t16 =>
 fldW t16 1 fun t17 =>
 load1 M t17 fun t18 =>
 guardM t18 false (fun k => k t13 M) (fun k => k .undef M) fun t20 M_0 =>
 guardM t18 false (fun k_1 => notW t20 fun t21 =>
 k_1 t21 M_0) (fun k => k .undef M_0) fun t21_2 M_3 =>
 pickW t18 (Bo true) t21_2 fun t22 =>
 guardM t22 false (fun k_4 => k_4 a1 M_3) (fun k => k .undef M_3) fun t24 M_5 =>
 guardM t22 false (fun k_6 => intW .lss t24 (N .i64 0) fun t25 =>
 k_6 t25 M_5) (fun k => k .undef M_5) fun t25_7 M_8 =>
 pickW t22 (Bo true) t25_7 fun t26 =>
 guardM t26 false (fun k_9 => k_9 t11 M_8) (fun k => k .undef M_8) fun t28 M_10 =>
 guardM t26 false (fun k_11 => k_11 a1 M_10) (fun k => k .undef M_10) fun t29 M_12 =>
 guardM t26 false (fun k_13 => cvtW .u64 t29 fun t30 =>
 k_13 t30 M_12) (fun k => k .undef M_12) fun t30_14 M_15 =>
 guardM t26 false (fun k_16 => intW .gtr t28 t30_14 fun t31 =>
 k_16 t31 M_15) (fun k => k .undef M_15) fun t31_17 M_18 =>
 pickW t26 (Bo true) t31_17 fun t32 =>
 ptrW a0 fun t33 =>
 fldW t33 1 fun t34 =>
 storeW M_18 t34 t32 1 fun M_19 =>
 ptrW a0 fun t36 =>
 fldW t36 1 fun t37 =>
 load1 M_19 t37 fun t38 =>
 condW t38 (
 Q (N .i64 0) M_19) (
 ptrW a0 fun t41 =>
 fldW t41 0 fun t42 =>
 load1 M_19 t42 fun t43 =>
 getW (subS 1 t43 (some t12) none none) fun t45 =>
 ptrW a0 fun t46 =>
 fldW t46 0 fun t47 =>
 storeW M_19 t47 t45 1 fun M_20 =>
 cvtW .i64 t11 fun t49 =>
 Q t49 M_20)

/-- (*rolodex/bin.Reader).Uint -/
def W_rolodex_bin_Reader_Uint (c_rolodex_bin_Reader_number : CallT) (a0 : AV) (M0 : RM) (Q : PostV) : Prop :=
 c_rolodex_bin_Reader_number [a0] M0 fun t8 M =>
 extW t8 0 fun t9 =>
 extW t8 1 fun t10 =>
 extW t8 2 fun t11 =>
 ptrW a0 fun t14 =>
 fldW t14 1 fun t15 =>
 load1 M t15 fun t16 =>
 guardM t16 false (fun k => k t11 M) (fun k => k .undef M) fun t18 M_0 =>
 guardM t16 false (fun k_1 => notW t18 fun t19 =>
 k_1 t19 M_0) (fun k => k .undef M_0) fun t19_2 M_3 =>
 pickW t16 (Bo true) t19_2 fun t20 =>
 ptrW a0 fun t21 =>
 fldW t21 1 fun t22 =>
 storeW M_3 t22 t20 1 fun M_4 =>
 ptrW a0 fun t24 =>
 fldW t24 1 fun t25 =>
 load1 M_4 t25 fun t26 =>
 condW t26 (
 Q (N .u64 0) M_4) (
 ptrW a0 fun t29 =>
 fldW t29 0 fun t30 =>
 load1 M_4 t30 fun t31 =>
 getW (subS 1 t31 (some t10) none none) fun t33 =>
 ptrW a0 fun t34 =>
 fldW t34 0 fun t35 =>
 storeW M_4 t35 t33 1 fun M_5 =>
 Q t9 M_5)

/-- (*rolodex/bin.Reader).Err -/
def W_rolodex_bin_Reader_Err (a0 : AV) (M0 : RM) (Q : PostV) : Prop :=
 ptrW a0 fun t4 =>
 fldW t4 1 fun t5 =>
 load1 M0 t5 fun t6 =>
 condW t6 (
 Q (N .i64 14) M0) (
 Q (N .i64 0) M0)

/-- (*rolodex/bin.Reader).End -/
def W_rolodex_bin_Reader_End (a0 : AV) (M0 : RM) (Q : PostV) : Prop :=
 ptrW a0 fun t4 =>
 fldW t4 1 fun t5 =>
 load1 M0 t5 fun t6 =>
 guardM t6 false (fun k => k a0 M0) (fun k => k .undef M0) fun t8 M =>
 guardM t6 false (fun k_0 => ptrW t8 fun t9 =>
 k_0 t9 M) (fun k => k .undef M) fun t9_1 M_2 =>
 guardM t6 false (fun k_3 => fldW t9_1 0 fun t10 =>
 k_3 t10 M_2) (fun k => k .undef M_2) fun t10_4 M_5 =>
 guardM t6 false (fun k_6 => load1 M_5 t10_4 fun t11 =>
 k_6 t11 M_5) (fun k => k .undef M_5) fun t11_7 M_8 =>
 guardM t6 false (fun k_9 => lenW t11_7 fun t12 =>
 k_9 t12 M_8) (fun k => k .undef M_8) fun t12_10 M_11 =>
 guardM t6 false (fun k_12 => intW .gtr t12_10 (N .i64 0) fun t13 =>
 k_12 t13 M_11) (fun k => k .undef M_11) fun t13_13 M_14 =>
 pickW t6 (Bo true) t13_13 fun t14 =>
 condW t14 (
 Q (N .i64 14) M_14) (
 Q (N .i64 0) M_14)

/-- (*rolodex/dot.Set).formed -/
def W_rolodex_dot_Set_formed (T_dot_part : Nat) (a0 : AV) (M0 : RM) (Q : PostV) : Prop :=
 ptrW a0 fun t8 =>
 fldW t8 0 fun t9 =>
 loadN M0 t9 32 fun t10 =>
 loopW (fun next xs M => -- [11]
 intW .lss (nthD xs 0) (N .i64 16) fun t12 =>
 condW t12 (
 idxPN t10 (nthD xs 0) 16 2 fun t13 =>
 newW (.row [(N .u64 0), (.sc (.slice none 0 0))] false T_dot_part 0) (fun b => .ptr b 0) M fun t4 M_0 =>
 storeW M_0 t4 t13 2 fun M_1 =>
 fldW t4 1 fun t14 =>
 load1 M_1 t14 fun t15 =>
 lenW t15 fun t16 =>
 loopW (fun next_2 xs_3 M_4 => -- [17]
 intW .lss (nthD xs_3 0) t16 fun t18 =>
 condW t18 (
 idxS t15 (nthD xs_3 0) 1 fun t20 =>
 load1 M_4 t20 fun t21 =>
 intW .eql (nthD xs_3 0) (N .i64 0) fun t23 =>
 guardM t23 true (fun k => k t21 M_4) (fun k => k .undef M_4) fun t25 M_5 =>
 guardM t23 true (fun k_6 => fldW t4 0 fun t26 =>
 k_6 t26 M_5) (fun k => k .undef M_5) fun t26_7 M_8 =>
 guardM t23 true (fun k_9 => load1 M_8 t26_7 fun t27 =>
 k_9 t27 M_8) (fun k => k .undef M_8) fun t27_10 M_11 =>
 guardM t23 true (fun k_12 => intW .add t27_10 (N .u64 1) fun t28 =>
 k_12 t28 M_11) (fun k => k .undef M_11) fun t28_13 M_14 =>
 guardM t23 true (fun k_15 => intW .leq t25 t28_13 fun t29 =>
 k_15 t29 M_14) (fun k => k .undef M_14) fun t29_16 M_17 =>
 pickW t23 t29_16 (Bo false) fun t30 =>
 guardM t30 false (fun k_18 => k_18 (nthD xs_3 0) M_17) (fun k => k .undef M_17) fun t32 M_19 =>
 guardM t30 false (fun k_20 => intW .gtr t32 (N .i64 0) fun t33 =>
 k_20 t33 M_19) (fun k => k .undef M_19) fun t33_21 M_22 =>
 guardM t30 false (fun k_23 => k_23 t33_21 M_22) (fun k => k .undef M_22) fun t34 M_24 =>
 guardM t34 true (fun k_25 => k_25 t21 M_24) (fun k => k .undef M_24) fun t35 M_26 =>
 guardM t34 true (fun k_27 => fldW t4 1 fun t36 =>
 k_27 t36 M_26) (fun k => k .undef M_26) fun t36_28 M_29 =>
 guardM t34 true (fun k_30 => load1 M_29 t36_28 fun t37 =>
 k_30 t37 M_29) (fun k => k .undef M_29) fun t37_31 M_32 =>
 guardM t34 true (fun k_33 => k_33 (nthD xs_3 0) M_32) (fun k => k .undef M_32) fun t38 M_34 =>
 guardM t34 true (fun k_35 => intW .sub t38 (N .i64 1) fun t39 =>
 k_35 t39 M_34) (fun k => k .undef M_34) fun t39_36 M_37 =>
 guardM t34 true (fun k_38 => idxS t37_31 t39_36 1 fun t40 =>
 k_38 t40 M_37) (fun k => k .undef M_37) fun t40_39 M_40 =>
 guardM t34 true (fun k_41 => load1 M_40 t40_39 fun t41 =>
 k_41 t41 M_40) (fun k => k .undef M_40) fun t41_42 M_43 =>
 guardM t34 true (fun k_44 => intW .leq t35 t41_42 fun t42 =>
 k_44 t42 M_43) (fun k => k .undef M_43) fun t42_45 M_46 =>
 guardM t30 false (fun k_47 => pickW t34 t42_45 (Bo false) fun t43 =>
 k_47 t43 M_46) (fun k => k .undef M_46) fun t43_48 M_49 =>
 pickW t30 (Bo true) t43_48 fun t44 =>
 condW t44 (
 Q (Bo false) M_49) (
 intW .add (nthD xs_3 0) (N .i64 1) fun t45 =>
 next_2 [t45] M_49)) (
 intW .add (nthD xs 0) (N .i64 1) fun t46 =>
 next [t46] M_4)) [(N .i64 0)] M_1) (
 Q (Bo true) M)) [(N .i64 0)] M0

/-- bytes.Equal -/
def W_bytes_Equal (a0 a1 : AV) (M0 : RM) (Q : PostV) : Prop :=
 strOfW M0 a0 fun t6 =>
 strOfW M0 a1 fun t8 =>
 strW .eql t6 t8 fun t9 =>
 Q t9 M0

/-- (*rolodex/dot.part).add -/
def W_rolodex_dot_part_add (c_slices_BinarySearch_uint64_uint64 : CallT) (T_uint64 : Nat) (T_dot_part : Nat) (c_slices_Clone_uint64_uint64 : CallT) (c_slices_Insert_uint64_uint64 : CallT) (c_rolodex_dot_part_settled : CallT) (a0 a1 : AV) (M0 : RM) (Q : PostV) : Prop :=
 ptrW a0 fun t10 =>
 fldW t10 1 fun t11 =>
 load1 M0 t11 fun t12 =>
 c_slices_BinarySearch_uint64_uint64 [t12, a1] M0 fun t14 M =>
 extW t14 0 fun t15 =>
 extW t14 1 fun t16 =>
 guardM t16 false (fun k => k a1 M) (fun k => k .undef M) fun t19 M_0 =>
 guardM t16 false (fun k_1 => k_1 a0 M_0) (fun k => k .undef M_0) fun t20 M_2 =>
 guardM t16 false (fun k_3 => ptrW t20 fun t21 =>
 k_3 t21 M_2) (fun k => k .undef M_2) fun t21_4 M_5 =>
 guardM t16 false (fun k_6 => fldW t21_4 0 fun t22 =>
 k_6 t22 M_5) (fun k => k .undef M_5) fun t22_7 M_8 =>
 guardM t16 false (fun k_9 => load1 M_8 t22_7 fun t23 =>
 k_9 t23 M_8) (fun k => k .undef M_8) fun t23_10 M_11 =>
 guardM t16 false (fun k_12 => intW .leq t19 t23_10 fun t24 =>
 k_12 t24 M_11) (fun k => k .undef M_11) fun t24_13 M_14 =>
 pickW t16 (Bo true) t24_13 fun t25 =>
 condW t25 (
 Q (Bo true) M_14) (
 ptrW a0 fun t27 =>
 fldW t27 0 fun t28 =>
 load1 M_14 t28 fun t29 =>
 ptrW a0 fun t31 =>
 fldW t31 1 fun t32 =>
 load1 M_14 t32 fun t33 =>
 rowsW T_uint64 1 [(N .u64 0)] [(0, 1, a1)] fun r f =>
 newR r f M_14 fun t37 M_15 b =>
 newR (.row [(N .u64 0), (.sc (.slice none 0 0))] false T_dot_part 0) (fun b => .ptr b 0) M_15 fun t7 M_16 b_17 =>
 c_slices_Clone_uint64_uint64 [t33] M_16 fun t34 M_18 =>
 load1 M_18 t28 fun t29_26 =>
 (t29_26 = t29 ∧ rowsW T_uint64 1 [(N .u64 0)] [(0, 1, a1)] fun r_24 f_25 =>
 (sameB b M_18 r_24 f_25 t37 ∧ (sameB b_17 M_18 (.row [(N .u64 0), (.sc (.slice none 0 0))] false T_dot_part 0) (fun b => .ptr b 0) t7 ∧ c_slices_Insert_uint64_uint64 [t34, t15, t37] M_18 fun t38 M_19 =>
 load1 M_19 t28 fun t29_23 =>
 (t29_23 = t29 ∧ (sameB b_17 M_19 (.row [(N .u64 0), (.sc (.slice none 0 0))] false T_dot_part 0) (fun b => .ptr b 0) t7 ∧ buildW [(N .u64 0), (.sc (.slice none 0 0))] [(0, 1, t29), (1, 1, t38)] fun t39 =>
 storeW M_19 t7 t39 2 fun M_20 =>
 c_rolodex_dot_part_settled [t7] M_20 fun t40 M_21 =>
 fldW t7 1 fun t41 =>
 load1 M_21 t41 fun t42 =>
 lenW t42 fun t43 =>
 intW .gtr t43 (N .i64 4096) fun t44 =>
 condW t44 (
 Q (Bo false) M_21) (
 loadN M_21 t7 2 fun t46 =>
 ptrW a0 fun t47 =>
 storeW M_21 t47 t46 2 fun M_22 =>
 Q (Bo true) M_22)))))))

/-- slices.Clone[[]uint64,uint64] -/
def W_slices_Clone_uint64_uint64 (T_uint64 : Nat) (a0 : AV) (M0 : RM) (Q : PostV) : Prop :=
 refEqW false 2 a0 (.sc (.slice none 0 0)) fun t4 =>
 condW t4 (
 Q (.sc (.slice none 0 0)) M0) (
 rowsW T_uint64 0 [(N .u64 0)] [] fun r f =>
 newW r f M0 fun t5 M =>
 appW T_uint64 1 8 [(N .u64 0)] false t5 a0 M fun t7 M_0 =>
 Q t7 M_0)

/-- rolodex/rolodexref13.ahead -/
def W_rolodex_rolodexref13_ahead (T_api_Dot : Nat) (a0 a1 : AV) (M0 : RM) (Q : PostV) : Prop :=
 boxW T_api_Dot a0 fun r f =>
 newW r f M0 fun t2 M =>
 boxW T_api_Dot a1 fun r_0 f_1 =>
 newW r_0 f_1 M fun t3 M_2 =>
 fldW t2 0 fun t5 =>
 load1 M_2 t5 fun t6 =>
 fldW t3 0 fun t7 =>
 load1 M_2 t7 fun t8 =>
 intW .lss t6 t8 fun t9 =>
 guardM t9 false (fun k => fldW t2 0 fun t11 =>
 k t11 M_2) (fun k => k .undef M_2) fun t11_3 M_4 =>
 guardM t9 false (fun k_5 => load1 M_4 t11_3 fun t12 =>
 k_5 t12 M_4) (fun k => k .undef M_4) fun t12_6 M_7 =>
 guardM t9 false (fun k_8 => fldW t3 0 fun t13 =>
 k_8 t13 M_7) (fun k => k .undef M_7) fun t13_9 M_10 =>
 guardM t9 false (fun k_11 => load1 M_10 t13_9 fun t14 =>
 k_11 t14 M_10) (fun k => k .undef M_10) fun t14_12 M_13 =>
 guardM t9 false (fun k_14 => intW .eql t12_6 t14_12 fun t15 =>
 k_14 t15 M_13) (fun k => k .undef M_13) fun t15_15 M_16 =>
 guardM t9 false (fun k_17 => k_17 t15_15 M_16) (fun k => k .undef M_16) fun t16 M_18 =>
 guardM t16 true (fun k_19 => fldW t2 1 fun t17 =>
 k_19 t17 M_18) (fun k => k .undef M_18) fun t17_20 M_21 =>
 guardM t16 true (fun k_22 => load1 M_21 t17_20 fun t18 =>
 k_22 t18 M_21) (fun k => k .undef M_21) fun t18_23 M_24 =>
 guardM t16 true (fun k_25 => fldW t3 1 fun t19 =>
 k_25 t19 M_24) (fun k => k .undef M_24) fun t19_26 M_27 =>
 guardM t16 true (fun k_28 => load1 M_27 t19_26 fun t20 =>
 k_28 t20 M_27) (fun k => k .undef M_27) fun t20_29 M_30 =>
 guardM t16 true (fun k_31 => intW .lss t18_23 t20_29 fun t21 =>
 k_31 t21 M_30) (fun k => k .undef M_30) fun t21_32 M_33 =>
 guardM t9 false (fun k_34 => pickW t16 t21_32 (Bo false) fun t22 =>
 k_34 t22 M_33) (fun k => k .undef M_33) fun t22_35 M_36 =>
 pickW t9 (Bo true) t22_35 fun t23 =>
 Q t23 M_36

/-- rolodex/bin.Uint -/
def W_rolodex_bin_Uint (c_slices_Clone_byte_byte : CallT) (T_uint8 : Nat) (a0 a1 : AV) (M0 : RM) (Q : PostV) : Prop :=
 c_slices_Clone_byte_byte [a0] M0 fun t6 M =>
 loopW (fun next xs M_0 => -- [0, 1]
 intW .geq (nthD xs 1) (N .u64 128) fun t8 =>
 condW t8 (
 cvtW .u8 (nthD xs 1) fun t13 =>
 intW .or t13 (N .u8 128) fun t14 =>
 rowsW T_uint8 1 [(N .u8 0)] [(0, 1, t14)] fun r f =>
 newW r f M_0 fun t15 M_1 =>
 appW T_uint8 1 1 [(N .u8 0)] false (nthD xs 0) t15 M_1 fun t16 M_2 =>
 shW .shr (nthD xs 1) (N .u64 7) fun t10 =>
 next [t16, t10] M_2) (
 cvtW .u8 (nthD xs 1) fun t19 =>
 rowsW T_uint8 1 [(N .u8 0)] [(0, 1, t19)] fun r_3 f_4 =>
 newW r_3 f_4 M_0 fun t20 M_5 =>
 appW T_uint8 1 1 [(N .u8 0)] false (nthD xs 0) t20 M_5 fun t21 M_6 =>
 Q t21 M_6)) [t6, a1] M

/-- rolodex/rolodexref13.Parts -/
def W_rolodex_rolodexref13_Parts (T_rolodexref13_Part : Nat) (T_uint64 : Nat) (a0 : AV) (M0 : RM) (Q : PostV) : Prop :=
 makeW T_rolodexref13_Part 40 [(N .i64 0), (N .u64 0), (.sc (.slice none 0 0))] (N .i64 0) (N .i64 0) fun r f =>
 newW r f M0 fun t6 M =>
 loopW (fun next xs M_0 => -- [3, 4]
 lenW a0 fun t9 =>
 intW .lss (nthD xs 1) t9 fun t10 =>
 condW t10 (
 joinW (fun J =>
 joinW (fun J_1 =>
 intW .eql (nthD xs 1) (N .i64 0) fun t14 =>
 guardK t14 false (fun k => k a0 M_0 none) (fun k => k .undef M_0 none) fun t16 M_2 b =>
 guardK t14 false (fun k_3 => k_3 (nthD xs 1) M_2 none) (fun k => k .undef M_2 none) fun t17 M_4 b_5 =>
 guardK t14 false (fun k_6 => idxS t16 t17 2 fun t18 =>
 k_6 t18 M_4 none) (fun k => k .undef M_4 none) fun t18_7 M_8 b_9 =>
 guardK t14 false (fun k_10 => fldW t18_7 0 fun t19 =>
 k_10 t19 M_8 none) (fun k => k .undef M_8 none) fun t19_11 M_12 b_13 =>
 guardK t14 false (fun k_14 => load1 M_12 t19_11 fun t20 =>
 k_14 t20 M_12 none) (fun k => k .undef M_12 none) fun t20_15 M_16 b_17 =>
 guardK t14 false (fun k_18 => k_18 a0 M_16 none) (fun k => k .undef M_16 none) fun t21 M_19 b_20 =>
 guardK t14 false (fun k_21 => k_21 (nthD xs 1) M_19 none) (fun k => k .undef M_19 none) fun t22 M_22 b_23 =>
 guardK t14 false (fun k_24 => intW .sub t22 (N .i64 1) fun t23 =>
 k_24 t23 M_22 none) (fun k => k .undef M_22 none) fun t23_25 M_26 b_27 =>
 guardK t14 false (fun k_28 => idxS t21 t23_25 2 fun t24 =>
 k_28 t24 M_26 none) (fun k => k .undef M_26 none) fun t24_29 M_30 b_31 =>
 guardK t14 false (fun k_32 => fldW t24_29 0 fun t25 =>
 k_32 t25 M_30 none) (fun k => k .undef M_30 none) fun t25_33 M_34 b_35 =>
 guardK t14 false (fun k_36 => load1 M_34 t25_33 fun t26 =>
 k_36 t26 M_34 none) (fun k => k .undef M_34 none) fun t26_37 M_38 b_39 =>
 guardK t14 false (fun k_40 => intW .neq t20_15 t26_37 fun t27 =>
 k_40 t27 M_38 none) (fun k => k .undef M_38 none) fun t27_41 M_42 b_43 =>
 pickW t14 (Bo true) t27_41 fun t28 =>
 condW t28 (
 idxS a0 (nthD xs 1) 2 fun t32 =>
 fldW t32 0 fun t33 =>
 load1 M_42 t33 fun t34 =>
 buildW [(N .i64 0), (N .u64 0), (.sc (.slice none 0 0))] [(0, 1, t34)] fun t35 =>
 rowsW T_rolodexref13_Part 1 [(N .i64 0), (N .u64 0), (.sc (.slice none 0 0))] [(0, 3, t35)] fun r_44 f_45 =>
 newW r_44 f_45 M_42 fun t36 M_46 =>
 appW T_rolodexref13_Part 3 40 [(N .i64 0), (N .u64 0), (.sc (.slice none 0 0))] false (nthD xs 0) t36 M_46 fun t37 M_47 =>
 J_1 [t37] M_47) (
 J_1 [(nthD xs 0)] M_42)) (fun xs_48 M_49 => -- [3]
 lenW (nthD xs_48 0) fun t40 =>
 intW .sub t40 (N .i64 1) fun t41 =>
 idxS (nthD xs_48 0) t41 3 fun t42 =>
 ptrW t42 fun t44 =>
 fldW t44 2 fun t45 =>
 load1 M_49 t45 fun t46 =>
 lenW t46 fun t47 =>
 intW .eql t47 (N .i64 0) fun t48 =>
 guardK t48 true (fun k_50 => k_50 a0 M_49 none) (fun k => k .undef M_49 none) fun t50 M_51 b_52 =>
 guardK t48 true (fun k_53 => k_53 (nthD xs 1) M_51 none) (fun k => k .undef M_51 none) fun t51 M_54 b_55 =>
 guardK t48 true (fun k_56 => idxS t50 t51 2 fun t52 =>
 k_56 t52 M_54 none) (fun k => k .undef M_54 none) fun t52_57 M_58 b_59 =>
 guardK t48 true (fun k_60 => fldW t52_57 1 fun t53 =>
 k_60 t53 M_58 none) (fun k => k .undef M_58 none) fun t53_61 M_62 b_63 =>
 guardK t48 true (fun k_64 => load1 M_62 t53_61 fun t54 =>
 k_64 t54 M_62 none) (fun k => k .undef M_62 none) fun t54_65 M_66 b_67 =>
 guardK t48 true (fun k_68 => k_68 t42 M_66 none) (fun k => k .undef M_66 none) fun t55 M_69 b_70 =>
 guardK t48 true (fun k_71 => ptrW t55 fun t56 =>
 k_71 t56 M_69 none) (fun k => k .undef M_69 none) fun t56_72 M_73 b_74 =>
 guardK t48 true (fun k_75 => fldW t56_72 1 fun t57 =>
 k_75 t57 M_73 none) (fun k => k .undef M_73 none) fun t57_76 M_77 b_78 =>
 guardK t48 true (fun k_79 => load1 M_77 t57_76 fun t58 =>
 k_79 t58 M_77 none) (fun k => k .undef M_77 none) fun t58_80 M_81 b_82 =>
 guardK t48 true (fun k_83 => intW .add t58_80 (N .u64 1) fun t59 =>
 k_83 t59 M_81 none) (fun k => k .undef M_81 none) fun t59_84 M_85 b_86 =>
 guardK t48 true (fun k_87 => intW .eql t54_65 t59_84 fun t60 =>
 k_87 t60 M_85 none) (fun k => k .undef M_85 none) fun t60_88 M_89 b_90 =>
 pickW t48 t60_88 (Bo false) fun t61 =>
 condW t61 (
 ptrW t42 fun t63 =>
 fldW t63 1 fun t64 =>
 load1 M_89 t64 fun t65 =>
 intW .add t65 (N .u64 1) fun t66 =>
 ptrW t42 fun t67 =>
 fldW t67 1 fun t68 =>
 storeW M_89 t68 t66 1 fun M_91 =>
 J [(nthD xs_48 0)] M_91) (
 ptrW t42 fun t71 =>
 fldW t71 2 fun t72 =>
 load1 M_89 t72 fun t73 =>
 idxS a0 (nthD xs 1) 2 fun t76 =>
 fldW t76 1 fun t77 =>
 load1 M_89 t77 fun t78 =>
 rowsW T_uint64 1 [(N .u64 0)] [(0, 1, t78)] fun r_92 f_93 =>
 newR r_92 f_93 M_89 fun t79 M_94 b_95 =>
 appW T_uint64 1 8 [(N .u64 0)] false t73 t79 M_94 fun t80 M_96 =>
 ptrW t42 fun t81 =>
 fldW t81 2 fun t82 =>
 storeW M_96 t82 t80 1 fun M_97 =>
 J [(nthD xs_48 0)] M_97))) (fun xs_98 M_99 => -- [3]
 intW .add (nthD xs 1) (N .i64 1) fun t12 =>
 next [(nthD xs_98 0), t12] M_99)) (
 Q (nthD xs 0) M_0)) [t6, (N .i64 0)] M

/-- rolodex/rolodexref13.Encode -/
def W_rolodex_rolodexref13_Encode (c_rolodex_rolodexref13_Parts : CallT) (c_rolodex_rolodexref3_Uint : CallT) (T_uint8 : Nat) (a0 : AV) (M0 : RM) (Q : PostV) : Prop :=
 c_rolodex_rolodexref13_Parts [a0] M0 fun t9 M =>
 lenW t9 fun t11 =>
 cvtW .u64 t11 fun t12 =>
 c_rolodex_rolodexref3_Uint [t12] M fun t13 M_0 =>
 loopW (fun next xs M_1 => -- [4, 5]
 lenW t9 fun t16 =>
 intW .lss (nthD xs 1) t16 fun t17 =>
 condW t17 (
 idxS t9 (nthD xs 1) 3 fun t23 =>
 fldW t23 0 fun t24 =>
 load1 M_1 t24 fun t25 =>
 cvtW .u64 t25 fun t26 =>
 c_rolodex_rolodexref3_Uint [t26] M_1 fun t27 M_2 =>
 appW T_uint8 1 1 [(N .u8 0)] false (nthD xs 0) t27 M_2 fun t28 M_3 =>
 idxS t9 (nthD xs 1) 3 fun t32 =>
 fldW t32 1 fun t33 =>
 load1 M_3 t33 fun t34 =>
 c_rolodex_rolodexref3_Uint [t34] M_3 fun t35 M_4 =>
 appW T_uint8 1 1 [(N .u8 0)] false t28 t35 M_4 fun t36 M_5 =>
 idxS t9 (nthD xs 1) 3 fun t40 =>
 fldW t40 2 fun t41 =>
 load1 M_5 t41 fun t42 =>
 lenW t42 fun t43 =>
 cvtW .u64 t43 fun t44 =>
 c_rolodex_rolodexref3_Uint [t44] M_5 fun t45 M_6 =>
 appW T_uint8 1 1 [(N .u8 0)] false t36 t45 M_6 fun t46 M_7 =>
 idxS t9 (nthD xs 1) 3 fun t49 =>
 fldW t49 1 fun t50 =>
 load1 M_7 t50 fun t51 =>
 loopW (fun next_8 xs_9 M_10 => -- [4, 6, 7]
 idxS t9 (nthD xs 1) 3 fun t55 =>
 fldW t55 2 fun t56 =>
 load1 M_10 t56 fun t57 =>
 lenW t57 fun t58 =>
 intW .lss (nthD xs_9 2) t58 fun t59 =>
 condW t59 (
 idxS t9 (nthD xs 1) 3 fun t65 =>
 fldW t65 2 fun t66 =>
 load1 M_10 t66 fun t67 =>
 idxS t67 (nthD xs_9 2) 1 fun t69 =>
 load1 M_10 t69 fun t70 =>
 intW .sub t70 (nthD xs_9 1) fun t72 =>
 c_rolodex_rolodexref3_Uint [t72] M_10 fun t73 M_11 =>
 appW T_uint8 1 1 [(N .u8 0)] false (nthD xs_9 0) t73 M_11 fun t74 M_12 =>
 idxS t9 (nthD xs 1) 3 fun t77 =>
 fldW t77 2 fun t78 =>
 load1 M_12 t78 fun t79 =>
 idxS t79 (nthD xs_9 2) 1 fun t81 =>
 load1 M_12 t81 fun t82 =>
 intW .add (nthD xs_9 2) (N .i64 1) fun t61 =>
 next_8 [t74, t82, t61] M_12) (
 intW .add (nthD xs 1) (N .i64 1) fun t19 =>
 next [(nthD xs_9 0), t19] M_10)) [t46, t51, (N .i64 0)] M_7) (
 Q (nthD xs 0) M_1)) [t13, (N .i64 0)] M_0

/-- (*rolodex/dot.part).has -/
def W_rolodex_dot_part_has (c_slices_BinarySearch_uint64_uint64 : CallT) (a0 a1 : AV) (M0 : RM) (Q : PostV) : Prop :=
 ptrW a0 fun t9 =>
 fldW t9 1 fun t10 =>
 load1 M0 t10 fun t11 =>
 c_slices_BinarySearch_uint64_uint64 [t11, a1] M0 fun t13 M =>
 extW t13 0 fun t14 =>
 extW t13 1 fun t15 =>
 intW .geq a1 (N .u64 1) fun t17 =>
 guardM t17 true (fun k => k a1 M) (fun k => k .undef M) fun t19 M_0 =>
 guardM t17 true (fun k_1 => k_1 a0 M_0) (fun k => k .undef M_0) fun t20 M_2 =>
 guardM t17 true (fun k_3 => ptrW t20 fun t21 =>
 k_3 t21 M_2) (fun k => k .undef M_2) fun t21_4 M_5 =>
 guardM t17 true (fun k_6 => fldW t21_4 0 fun t22 =>
 k_6 t22 M_5) (fun k => k .undef M_5) fun t22_7 M_8 =>
 guardM t17 true (fun k_9 => load1 M_8 t22_7 fun t23 =>
 k_9 t23 M_8) (fun k => k .undef M_8) fun t23_10 M_11 =>
 guardM t17 true (fun k_12 => intW .leq t19 t23_10 fun t24 =>
 k_12 t24 M_11) (fun k => k .undef M_11) fun t24_13 M_14 =>
 pickW t17 t24_13 (Bo false) fun t25 =>
 guardM t25 false (fun k_15 => k_15 t15 M_14) (fun k => k .undef M_14) fun t27 M_16 =>
 pickW t25 (Bo true) t27 fun t28 =>
 Q t28 M_16

/-- slices.Concat[[]uint64,uint64] -/
def W_slices_Concat_uint64_uint64 (T_string : Nat) (c_slices_Grow_uint64_uint64 : CallT) (T_uint64 : Nat) (a0 : AV) (M0 : RM) (Q : PostV) : Prop :=
 lenW a0 fun t10 =>
 loopW (fun next xs M => -- [3, 11]
 intW .lss (nthD xs 1) t10 fun t12 =>
 condW t12 (
 joinW (fun J =>
 idxS a0 (nthD xs 1) 1 fun t13 =>
 load1 M t13 fun t14 =>
 lenW t14 fun t17 =>
 intW .add (nthD xs 0) t17 fun t18 =>
 intW .lss t18 (N .i64 0) fun t20 =>
 condW t20 (
 False) (
 J [t18] M)) (fun xs_0 M_1 => -- [3]
 intW .add (nthD xs 1) (N .i64 1) fun t22 =>
 next [(nthD xs_0 0), t22] M_1)) (
 c_slices_Grow_uint64_uint64 [(.sc (.slice none 0 0)), (nthD xs 0)] M fun t24 M_2 =>
 lenW a0 fun t26 =>
 loopW (fun next_3 xs_4 M_5 => -- [6, 27]
 intW .lss (nthD xs_4 1) t26 fun t28 =>
 condW t28 (
 idxS a0 (nthD xs_4 1) 1 fun t29 =>
 load1 M_5 t29 fun t30 =>
 appW T_uint64 1 8 [(N .u64 0)] false (nthD xs_4 0) t30 M_5 fun t33 M_6 =>
 intW .add (nthD xs_4 1) (N .i64 1) fun t34 =>
 next_3 [t33, t34] M_6) (
 Q (nthD xs_4 0) M_5)) [t24, (N .i64 0)] M_2)) [(N .i64 0), (N .i64 0)] M0

/-- slices.Sort[[]uint64,uint64] -/
def W_slices_Sort_uint64_uint64 (c_math_bits_Len : CallT) (c_slices_pdqsortOrdered_uint64 : CallT) (a0 : AV) (M0 : RM) (Q : PostV) : Prop :=
 lenW a0 fun t4 =>
 cvtW .u64 t4 fun t8 =>
 c_math_bits_Len [t8] M0 fun t9 M =>
 c_slices_pdqsortOrdered_uint64 [a0, (N .i64 0), t4, t9] M fun t10 M_0 =>
 Q (.tup []) M_0

/-- slices.Compact[[]uint64,uint64] -/
def W_slices_Compact_uint64_uint64 (a0 : AV) (M0 : RM) (Q : PostV) : Prop :=
 lenW a0 fun t7 =>
 intW .lss t7 (N .i64 2) fun t8 =>
 condW t8 (
 Q a0 M0) (
 loopW (fun next xs M => -- [3]
 lenW a0 fun t12 =>
 intW .lss (nthD xs 0) t12 fun t13 =>
 condW t13 (
 idxS a0 (nthD xs 0) 1 fun t18 =>
 load1 M t18 fun t19 =>
 intW .sub (nthD xs 0) (N .i64 1) fun t22 =>
 idxS a0 t22 1 fun t23 =>
 load1 M t23 fun t24 =>
 intW .eql t19 t24 fun t25 =>
 condW t25 (
 getW (subS 1 a0 (some (nthD xs 0)) none none) fun t28 =>
 loopW (fun next_0 xs_1 M_2 => -- [3, 5]
 lenW t28 fun t31 =>
 intW .lss (nthD xs_1 1) t31 fun t32 =>
 condW t32 (
 joinW (fun J =>
 idxS t28 (nthD xs_1 1) 1 fun t37 =>
 load1 M_2 t37 fun t38 =>
 intW .sub (nthD xs_1 1) (N .i64 1) fun t41 =>
 idxS t28 t41 1 fun t42 =>
 load1 M_2 t42 fun t43 =>
 intW .neq t38 t43 fun t44 =>
 condW t44 (
 idxS t28 (nthD xs_1 1) 1 fun t49 =>
 load1 M_2 t49 fun t50 =>
 idxS a0 (nthD xs_1 0) 1 fun t51 =>
 storeW M_2 t51 t50 1 fun M_3 =>
 intW .add (nthD xs_1 0) (N .i64 1) fun t53 =>
 J [t53] M_3) (
 J [(nthD xs_1 0)] M_2)) (fun xs_4 M_5 => -- [3]
 intW .add (nthD xs_1 1) (N .i64 1) fun t34 =>
 next_0 [(nthD xs_4 0), t34] M_5)) (
 getW (subS 1 a0 (some (nthD xs_1 0)) none none) fun t56 =>
 clearW [(N .u64 0)] t56 M_2 fun u M_6 =>
 getW (subS 1 a0 none (some (nthD xs_1 0)) none) fun t59 =>
 Q t59 M_6)) [(nthD xs 0), (N .i64 1)] M) (
 intW .add (nthD xs 0) (N .i64 1) fun t15 =>
 next [t15] M)) (
 Q a0 M)) [(N .i64 1)] M0)

/-- (*rolodex/dot.part).settled -/
def W_rolodex_dot_part_settled (a0 : AV) (M0 : RM) (Q : PostV) : Prop :=
 loopW (fun next xs M => -- [2]
 ptrW a0 fun t5 =>
 fldW t5 1 fun t6 =>
 load1 M t6 fun t7 =>
 lenW t7 fun t8 =>
 intW .lss (nthD xs 0) t8 fun t9 =>
 guardK t9 true (fun k => k a0 M none) (fun k => k .undef M none) fun t11 M_0 b =>
 guardK t9 true (fun k_1 => ptrW t11 fun t12 =>
 k_1 t12 M_0 none) (fun k => k .undef M_0 none) fun t12_2 M_3 b_4 =>
 guardK t9 true (fun k_5 => fldW t12_2 1 fun t13 =>
 k_5 t13 M_3 none) (fun k => k .undef M_3 none) fun t13_6 M_7 b_8 =>
 guardK t9 true (fun k_9 => load1 M_7 t13_6 fun t14 =>
 k_9 t14 M_7 none) (fun k => k .undef M_7 none) fun t14_10 M_11 b_12 =>
 guardK t9 true (fun k_13 => k_13 (nthD xs 0) M_11 none) (fun k => k .undef M_11 none) fun t15 M_14 b_15 =>
 guardK t9 true (fun k_16 => idxS t14_10 t15 1 fun t16 =>
 k_16 t16 M_14 none) (fun k => k .undef M_14 none) fun t16_17 M_18 b_19 =>
 guardK t9 true (fun k_20 => load1 M_18 t16_17 fun t17 =>
 k_20 t17 M_18 none) (fun k => k .undef M_18 none) fun t17_21 M_22 b_23 =>
 guardK t9 true (fun k_24 => k_24 a0 M_22 none) (fun k => k .undef M_22 none) fun t18 M_25 b_26 =>
 guardK t9 true (fun k_27 => ptrW t18 fun t19 =>
 k_27 t19 M_25 none) (fun k => k .undef M_25 none) fun t19_28 M_29 b_30 =>
 guardK t9 true (fun k_31 => fldW t19_28 0 fun t20 =>
 k_31 t20 M_29 none) (fun k => k .undef M_29 none) fun t20_32 M_33 b_34 =>
 guardK t9 true (fun k_35 => load1 M_33 t20_32 fun t21 =>
 k_35 t21 M_33 none) (fun k => k .undef M_33 none) fun t21_36 M_37 b_38 =>
 guardK t9 true (fun k_39 => intW .add t21_36 (N .u64 1) fun t22 =>
 k_39 t22 M_37 none) (fun k => k .undef M_37 none) fun t22_40 M_41 b_42 =>
 guardK t9 true (fun k_43 => intW .leq t17_21 t22_40 fun t23 =>
 k_43 t23 M_41 none) (fun k => k .undef M_41 none) fun t23_44 M_45 b_46 =>
 pickW t9 t23_44 (Bo false) fun t24 =>
 condW t24 (
 ptrW a0 fun t27 =>
 fldW t27 0 fun t28 =>
 load1 M_45 t28 fun t29 =>
 ptrW a0 fun t31 =>
 fldW t31 1 fun t32 =>
 load1 M_45 t32 fun t33 =>
 idxS t33 (nthD xs 0) 1 fun t35 =>
 load1 M_45 t35 fun t36 =>
 minW true t29 t36 fun t37 =>
 ptrW a0 fun t38 =>
 fldW t38 0 fun t39 =>
 storeW M_45 t39 t37 1 fun M_47 =>
 intW .add (nthD xs 0) (N .i64 1) fun t41 =>
 next [t41] M_47) (
 ptrW a0 fun t44 =>
 fldW t44 1 fun t45 =>
 load1 M_45 t45 fun t46 =>
 getW (subS 1 t46 (some (nthD xs 0)) none none) fun t48 =>
 ptrW a0 fun t49 =>
 fldW t49 1 fun t50 =>
 storeW M_45 t50 t48 1 fun M_48 =>
 Q (.tup []) M_48)) [(N .i64 0)] M0

/-- slices.Clone[[]byte,byte] -/
def W_slices_Clone_byte_byte (T_uint8 : Nat) (a0 : AV) (M0 : RM) (Q : PostV) : Prop :=
 refEqW false 2 a0 (.sc (.slice none 0 0)) fun t4 =>
 condW t4 (
 Q (.sc (.slice none 0 0)) M0) (
 rowsW T_uint8 0 [(N .u8 0)] [] fun r f =>
 newW r f M0 fun t5 M =>
 appW T_uint8 1 1 [(N .u8 0)] false t5 a0 M fun t7 M_0 =>
 Q t7 M_0)

/-- (*rolodex/bin.Reader).number -/
def W_rolodex_bin_Reader_number (a0 : AV) (M0 : RM) (Q : PostV) : Prop :=
 joinW (fun J =>
 ptrW a0 fun t8 =>
 fldW t8 0 fun t9 =>
 load1 M0 t9 fun t10 =>
 ptrW a0 fun t12 =>
 fldW t12 0 fun t13 =>
 load1 M0 t13 fun t14 =>
 lenW t14 fun t15 =>
 minW false t15 (N .i64 10) fun t16 =>
 getW (subS 1 t10 none (some t16) none) fun t17 =>
 lenW t17 fun t18 =>
 loopW (fun next xs M => -- [2, 19]
 intW .lss (nthD xs 1) t18 fun t20 =>
 condW t20 (
 idxS t17 (nthD xs 1) 1 fun t22 =>
 load1 M t22 fun t23 =>
 intW .and t23 (N .u8 127) fun t26 =>
 cvtW .u64 t26 fun t27 =>
 intW .mul (N .i64 7) (nthD xs 1) fun t29 =>
 shW .shl t27 t29 fun t30 =>
 intW .or (nthD xs 0) t30 fun t31 =>
 intW .geq t23 (N .u8 128) fun t33 =>
 condW t33 (
 intW .add (nthD xs 1) (N .i64 1) fun t51 =>
 next [t31, t51] M) (
 intW .eql t23 (N .u8 0) fun t35 =>
 guardM t35 true (fun k => k (nthD xs 1) M) (fun k => k .undef M) fun t37 M_0 =>
 guardM t35 true (fun k_1 => intW .gtr t37 (N .i64 0) fun t38 =>
 k_1 t38 M_0) (fun k => k .undef M_0) fun t38_2 M_3 =>
 pickW t35 t38_2 (Bo false) fun t39 =>
 guardM t39 false (fun k_4 => k_4 (nthD xs 1) M_3) (fun k => k .undef M_3) fun t41 M_5 =>
 guardM t39 false (fun k_6 => intW .eql t41 (N .i64 9) fun t42 =>
 k_6 t42 M_5) (fun k => k .undef M_5) fun t42_7 M_8 =>
 guardM t39 false (fun k_9 => k_9 t42_7 M_8) (fun k => k .undef M_8) fun t43 M_10 =>
 guardM t43 true (fun k_11 => k_11 t23 M_10) (fun k => k .undef M_10) fun t44 M_12 =>
 guardM t43 true (fun k_13 => intW .gtr t44 (N .u8 1) fun t45 =>
 k_13 t45 M_12) (fun k => k .undef M_12) fun t45_14 M_15 =>
 guardM t39 false (fun k_16 => pickW t43 t45_14 (Bo false) fun t46 =>
 k_16 t46 M_15) (fun k => k .undef M_15) fun t46_17 M_18 =>
 pickW t39 (Bo true) t46_17 fun t47 =>
 condW t47 (
 J [] M_18) (
 intW .add (nthD xs 1) (N .i64 1) fun t50 =>
 Q (.tup [t31, t50, (Bo true)]) M_18))) (
 J [] M)) [(N .u64 0), (N .i64 0)] M0) (fun xs_19 M_20 => -- []
 Q (.tup [(N .u64 0), (N .i64 0), (Bo false)]) M_20)

/-- slices.BinarySearch[[]uint64,uint64] -/
def W_slices_BinarySearch_uint64_uint64 (c_cmp_Less_uint64 : CallT) (c_slices_isNaN_uint64 : CallT) (a0 a1 : AV) (M0 : RM) (Q : PostV) : Prop :=
 lenW a0 fun t11 =>
 loopW (fun next xs M => -- [7, 8]
 intW .lss (nthD xs 0) (nthD xs 1) fun t15 =>
 condW t15 (
 intW .add (nthD xs 0) (nthD xs 1) fun t18 =>
 cvtW .u64 t18 fun t19 =>
 shW .shr t19 (N .u64 1) fun t20 =>
 cvtW .i64 t20 fun t21 =>
 idxS a0 t21 1 fun t24 =>
 load1 M t24 fun t25 =>
 c_cmp_Less_uint64 [t25, a1] M fun t27 M_0 =>
 condW t27 (
 intW .add t21 (N .i64 1) fun t29 =>
 next [t29, (nthD xs 1)] M_0) (
 next [(nthD xs 0), t21] M_0)) (
 intW .lss (nthD xs 0) t11 fun t34 =>
 guardM t34 true (fun k => k a0 M) (fun k => k .undef M) fun t36 M_1 =>
 guardM t34 true (fun k_2 => k_2 (nthD xs 0) M_1) (fun k => k .undef M_1) fun t37 M_3 =>
 guardM t34 true (fun k_4 => idxS t36 t37 1 fun t38 =>
 k_4 t38 M_3) (fun k => k .undef M_3) fun t38_5 M_6 =>
 guardM t34 true (fun k_7 => load1 M_6 t38_5 fun t39 =>
 k_7 t39 M_6) (fun k => k .undef M_6) fun t39_8 M_9 =>
 guardM t34 true (fun k_10 => k_10 a1 M_9) (fun k => k .undef M_9) fun t40 M_11 =>
 guardM t34 true (fun k_12 => intW .eql t39_8 t40 fun t41 =>
 k_12 t41 M_11) (fun k => k .undef M_11) fun t41_13 M_14 =>
 guardM t34 true (fun k_15 => k_15 t41_13 M_14) (fun k => k .undef M_14) fun t42 M_16 =>
 guardM t42 false (fun k_17 => k_17 a0 M_16) (fun k => k .undef M_16) fun t43 M_18 =>
 guardM t42 false (fun k_19 => k_19 (nthD xs 0) M_18) (fun k => k .undef M_18) fun t44 M_20 =>
 guardM t42 false (fun k_21 => idxS t43 t44 1 fun t45 =>
 k_21 t45 M_20) (fun k => k .undef M_20) fun t45_22 M_23 =>
 guardM t42 false (fun k_24 => load1 M_23 t45_22 fun t46 =>
 k_24 t46 M_23) (fun k => k .undef M_23) fun t46_25 M_26 =>
 guardM t42 false (fun k_27 => c_slices_isNaN_uint64 [t46_25] M_26 fun t47 M_28 =>
 k_27 t47 M_28) (fun k => k .undef M_26) fun t47_29 M_30 =>
 guardM t42 false (fun k_31 => k_31 t47_29 M_30) (fun k => k .undef M_30) fun t48 M_32 =>
 guardM t48 true (fun k_33 => k_33 a1 M_32) (fun k => k .undef M_32) fun t49 M_34 =>
 guardM t48 true (fun k_35 => c_slices_isNaN_uint64 [t49] M_34 fun t50 M_36 =>
 k_35 t50 M_36) (fun k => k .undef M_34) fun t50_37 M_38 =>
 guardM t42 false (fun k_39 => pickW t48 t50_37 (Bo false) fun t51 =>
 k_39 t51 M_38) (fun k => k .undef M_38) fun t51_40 M_41 =>
 guardM t34 true (fun k_42 => pickW t42 (Bo true) t51_40 fun t52 =>
 k_42 t52 M_41) (fun k => k .undef M_41) fun t52_43 M_44 =>
 pickW t34 t52_43 (Bo false) fun t53 =>
 Q (.tup [(nthD xs 0), t53]) M_44)) [(N .i64 0), t11] M0

/-- slices.Insert[[]uint64,uint64] -/
def W_slices_Insert_uint64_uint64 (T_uint64 : Nat) (x_slices_overlaps_uint64 : CallT) (c_slices_rotateRight_uint64 : CallT) (a0 a1 a2 : AV) (M0 : RM) (Q : PostV) : Prop :=
 getW (subS 1 a0 (some a1) none none) fun t12 =>
 lenW a2 fun t14 =>
 intW .eql t14 (N .i64 0) fun t16 =>
 condW t16 (
 Q a0 M0) (
 lenW a0 fun t19 =>
 intW .eql a1 t19 fun t22 =>
 condW t22 (
 appW T_uint64 1 8 [(N .u64 0)] false a0 a2 M0 fun t25 M =>
 Q t25 M) (
 intW .add t19 t14 fun t28 =>
 capW a0 fun t30 =>
 intW .gtr t28 t30 fun t31 =>
 condW t31 (
 getW (subS 1 a0 none (some a1) none) fun t34 =>
 intW .add t19 t14 fun t37 =>
 intW .sub t37 a1 fun t39 =>
 appW T_uint64 1 8 [(N .u64 0)] true t34 t39 M0 fun t40 M_0 =>
 getW (subS 1 t40 (some a1) none none) fun t43 =>
 copyW 1 t43 a2 M_0 fun t45 M_1 =>
 intW .add a1 t14 fun t49 =>
 getW (subS 1 t40 (some t49) none none) fun t50 =>
 getW (subS 1 a0 (some a1) none none) fun t53 =>
 copyW 1 t50 t53 M_1 fun t54 M_2 =>
 Q t40 M_2) (
 intW .add t19 t14 fun t59 =>
 getW (subS 1 a0 none (some t59) none) fun t60 =>
 intW .add a1 t14 fun t65 =>
 getW (subS 1 t60 (some t65) none none) fun t66 =>
 x_slices_overlaps_uint64 [a2, t66] M0 fun t67 M_3 =>
 notW t67 fun t68 =>
 condW t68 (
 intW .add a1 t14 fun t72 =>
 getW (subS 1 t60 (some t72) none none) fun t73 =>
 getW (subS 1 t60 (some a1) none none) fun t76 =>
 copyW 1 t73 t76 M_3 fun t77 M_4 =>
 getW (subS 1 t60 (some a1) none none) fun t80 =>
 copyW 1 t80 a2 M_4 fun t82 M_5 =>
 Q t60 M_5) (
 getW (subS 1 t60 (some t19) none none) fun t86 =>
 copyW 1 t86 a2 M_3 fun t88 M_6 =>
 getW (subS 1 t60 (some a1) none none) fun t91 =>
 c_slices_rotateRight_uint64 [t91, t14] M_6 fun t93 M_7 =>
 Q t60 M_7))))

/-- rolodex/rolodexref3.Uint -/
def W_rolodex_rolodexref3_Uint (T_uint8 : Nat) (c_rolodex_rolodexref3_Uint : CallT) (a0 : AV) (M0 : RM) (Q : PostV) : Prop :=
 intW .lss a0 (N .u64 128) fun t4 =>
 condW t4 (
 cvtW .u8 a0 fun t6 =>
 rowsW T_uint8 1 [(N .u8 0)] [(0, 1, t6)] fun r f =>
 newW r f M0 fun t7 M =>
 Q t7 M) (
 intW .rem a0 (N .u64 128) fun t9 =>
 cvtW .u8 t9 fun t10 =>
 intW .add t10 (N .u8 128) fun t11 =>
 rowsW T_uint8 1 [(N .u8 0)] [(0, 1, t11)] fun r_0 f_1 =>
 newW r_0 f_1 M0 fun t12 M_2 =>
 intW .quo a0 (N .u64 128) fun t14 =>
 c_rolodex_rolodexref3_Uint [t14] M_2 fun t15 M_3 =>
 appW T_uint8 1 1 [(N .u8 0)] false t12 t15 M_3 fun t16 M_4 =>
 Q t16 M_4)

/-- slices.Grow[[]uint64,uint64] -/
def W_slices_Grow_uint64_uint64 (T_string : Nat) (T_uint64 : Nat) (a0 a1 : AV) (M0 : RM) (Q : PostV) : Prop :=
 joinW (fun J =>
 intW .lss a1 (N .i64 0) fun t6 =>
 condW t6 (
 False) (
 J [] M0)) (fun xs M => -- []
 joinW (fun J_0 =>
 capW a0 fun t10 =>
 lenW a0 fun t12 =>
 intW .sub t10 t12 fun t13 =>
 intW .sub a1 t13 fun t14 =>
 intW .gtr t14 (N .i64 0) fun t16 =>
 condW t16 (
 capW a0 fun t19 =>
 getW (subS 1 a0 none (some t19) none) fun t20 =>
 appW T_uint64 1 8 [(N .u64 0)] true t20 t14 M fun t22 M_1 =>
 lenW a0 fun t24 =>
 getW (subS 1 t22 none (some t24) none) fun t25 =>
 J_0 [t25] M_1) (
 J_0 [a0] M)) (fun xs_2 M_3 => -- [0]
 Q (nthD xs_2 0) M_3))

/-- slices.pdqsortOrdered[uint64] -/
def W_slices_pdqsortOrdered_uint64 (c_slices_insertionSortOrdered_uint64 : CallT) (c_slices_heapSortOrdered_uint64 : CallT) (c_slices_breakPatternsOrdered_uint64 : CallT) (c_slices_choosePivotOrdered_uint64 : CallT) (c_slices_reverseRangeOrdered_uint64 : CallT) (c_slices_partialInsertionSortOrdered_uint64 : CallT) (c_cmp_Less_uint64 : CallT) (c_slices_partitionEqualOrdered_uint64 : CallT) (c_slices_partitionOrdered_uint64 : CallT) (c_slices_pdqsortOrdered_uint64 : CallT) (a0 a1 a2 a3 : AV) (M0 : RM) (Q : PostV) : Prop :=
 loopW (fun next xs M => -- [1, 2, 3, 8, 9]
 intW .sub (nthD xs 1) (nthD xs 0) fun t21 =>
 intW .leq t21 (N .i64 12) fun t23 =>
 condW t23 (
 c_slices_insertionSortOrdered_uint64 [a0, (nthD xs 0), (nthD xs 1)] M fun t27 M_0 =>
 Q (.tup []) M_0) (
 intW .eql (nthD xs 2) (N .i64 0) fun t29 =>
 condW t29 (
 c_slices_heapSortOrdered_uint64 [a0, (nthD xs 0), (nthD xs 1)] M fun t33 M_1 =>
 Q (.tup []) M_1) (
 joinW (fun J =>
 notW (nthD xs 3) fun t35 =>
 condW t35 (
 c_slices_breakPatternsOrdered_uint64 [a0, (nthD xs 0), (nthD xs 1)] M fun t39 M_2 =>
 intW .sub (nthD xs 2) (N .i64 1) fun t41 =>
 J [t41] M_2) (
 J [(nthD xs 2)] M)) (fun xs_3 M_4 => -- [3]
 c_slices_choosePivotOrdered_uint64 [a0, (nthD xs 0), (nthD xs 1)] M_4 fun t46 M_5 =>
 extW t46 0 fun t47 =>
 extW t46 1 fun t48 =>
 joinW (fun J_6 =>
 intW .eql t48 (N .i64 2) fun t50 =>
 condW t50 (
 c_slices_reverseRangeOrdered_uint64 [a0, (nthD xs 0), (nthD xs 1)] M_5 fun t54 M_7 =>
 intW .sub (nthD xs 1) (N .i64 1) fun t56 =>
 intW .sub t47 (nthD xs 0) fun t59 =>
 intW .sub t56 t59 fun t60 =>
 J_6 [t60, (N .i64 1)] M_7) (
 J_6 [t47, t48] M_5)) (fun xs_8 M_9 => -- [11, 12]
 joinW (fun J_10 =>
 guardM (nthD xs 3) true (fun k => k (nthD xs 4) M_9) (fun k => k .undef M_9) fun t63 M_11 =>
 pickW (nthD xs 3) t63 (Bo false) fun t64 =>
 guardM t64 true (fun k_12 => k_12 (nthD xs_8 1) M_11) (fun k => k .undef M_11) fun t66 M_13 =>
 guardM t64 true (fun k_14 => intW .eql t66 (N .i64 1) fun t67 =>
 k_14 t67 M_13) (fun k => k .undef M_13) fun t67_15 M_16 =>
 pickW t64 t67_15 (Bo false) fun t68 =>
 condW t68 (
 c_slices_partialInsertionSortOrdered_uint64 [a0, (nthD xs 0), (nthD xs 1)] M_16 fun t72 M_17 =>
 condW t72 (
 Q (.tup []) M_17) (
 J_10 [] M_17)) (
 J_10 [] M_16)) (fun xs_18 M_19 => -- []
 intW .gtr (nthD xs 0) (N .i64 0) fun t74 =>
 guardK t74 true (fun k_20 => k_20 a0 M_19 none) (fun k => k .undef M_19 none) fun t76 M_21 b =>
 guardK t74 true (fun k_22 => k_22 (nthD xs 0) M_21 none) (fun k => k .undef M_21 none) fun t77 M_23 b_24 =>
 guardK t74 true (fun k_25 => intW .sub t77 (N .i64 1) fun t78 =>
 k_25 t78 M_23 none) (fun k => k .undef M_23 none) fun t78_26 M_27 b_28 =>
 guardK t74 true (fun k_29 => idxS t76 t78_26 1 fun t79 =>
 k_29 t79 M_27 none) (fun k => k .undef M_27 none) fun t79_30 M_31 b_32 =>
 guardK t74 true (fun k_33 => load1 M_31 t79_30 fun t80 =>
 k_33 t80 M_31 none) (fun k => k .undef M_31 none) fun t80_34 M_35 b_36 =>
 guardK t74 true (fun k_37 => k_37 a0 M_35 none) (fun k => k .undef M_35 none) fun t81 M_38 b_39 =>
 guardK t74 true (fun k_40 => k_40 (nthD xs_8 0) M_38 none) (fun k => k .undef M_38 none) fun t82 M_41 b_42 =>
 guardK t74 true (fun k_43 => idxS t81 t82 1 fun t83 =>
 k_43 t83 M_41 none) (fun k => k .undef M_41 none) fun t83_44 M_45 b_46 =>
 guardK t74 true (fun k_47 => load1 M_45 t83_44 fun t84 =>
 k_47 t84 M_45 none) (fun k => k .undef M_45 none) fun t84_48 M_49 b_50 =>
 guardM t74 true (fun k_51 => c_cmp_Less_uint64 [t80_34, t84_48] M_49 fun t85 M_52 =>
 k_51 t85 M_52) (fun k => k .undef M_49) fun t85_53 M_54 =>
 guardK t74 true (fun k_55 => notW t85_53 fun t86 =>
 k_55 t86 M_54 none) (fun k => k .undef M_54 none) fun t86_56 M_57 b_58 =>
 pickW t74 t86_56 (Bo false) fun t87 =>
 condW t87 (
 c_slices_partitionEqualOrdered_uint64 [a0, (nthD xs 0), (nthD xs 1), (nthD xs_8 0)] M_57 fun t92 M_59 =>
 next [t92, (nthD xs 1), (nthD xs_3 0), (nthD xs 3), (nthD xs 4)] M_59) (
 c_slices_partitionOrdered_uint64 [a0, (nthD xs 0), (nthD xs 1), (nthD xs_8 0)] M_57 fun t99 M_60 =>
 extW t99 0 fun t100 =>
 extW t99 1 fun t101 =>
 intW .sub t100 (nthD xs 0) fun t105 =>
 intW .sub (nthD xs 1) t100 fun t108 =>
 intW .quo t21 (N .i64 8) fun t110 =>
 intW .lss t105 t108 fun t113 =>
 condW t113 (
 intW .geq t105 t110 fun t116 =>
 c_slices_pdqsortOrdered_uint64 [a0, (nthD xs 0), t100, (nthD xs_3 0)] M_60 fun t121 M_61 =>
 intW .add t100 (N .i64 1) fun t123 =>
 next [t123, (nthD xs 1), (nthD xs_3 0), t116, t101] M_61) (
 intW .geq t108 t110 fun t126 =>
 intW .add t100 (N .i64 1) fun t129 =>
 c_slices_pdqsortOrdered_uint64 [a0, t129, (nthD xs 1), (nthD xs_3 0)] M_60 fun t132 M_62 =>
 next [(nthD xs 0), t100, (nthD xs_3 0), t126, t101] M_62)))))))) [a1, a2, a3, (Bo true), (Bo true)] M0

/-- math/bits.Len -/
def W_math_bits_Len (c_math_bits_Len32 : CallT) (c_math_bits_Len64 : CallT) (a0 : AV) (M0 : RM) (Q : PostV) : Prop :=
 condW (Bo false) (
 cvtW .u32 a0 fun t4 =>
 c_math_bits_Len32 [t4] M0 fun t5 M =>
 Q t5 M) (
 c_math_bits_Len64 [a0] M0 fun t7 M_0 =>
 Q t7 M_0)

/-- cmp.Less[uint64] -/
def W_cmp_Less_uint64 (c_cmp_isNaN_uint64 : CallT) (a0 a1 : AV) (M0 : RM) (Q : PostV) : Prop :=
 c_cmp_isNaN_uint64 [a0] M0 fun t6 M =>
 guardM t6 true (fun k => k a1 M) (fun k => k .undef M) fun t8 M_0 =>
 guardM t6 true (fun k_1 => c_cmp_isNaN_uint64 [t8] M_0 fun t9 M_2 =>
 k_1 t9 M_2) (fun k => k .undef M_0) fun t9_3 M_4 =>
 guardM t6 true (fun k_5 => notW t9_3 fun t10 =>
 k_5 t10 M_4) (fun k => k .undef M_4) fun t10_6 M_7 =>
 pickW t6 t10_6 (Bo false) fun t11 =>
 guardM t11 false (fun k_8 => k_8 a0 M_7) (fun k => k .undef M_7) fun t13 M_9 =>
 guardM t11 false (fun k_10 => k_10 a1 M_9) (fun k => k .undef M_9) fun t14 M_11 =>
 guardM t11 false (fun k_12 => intW .lss t13 t14 fun t15 =>
 k_12 t15 M_11) (fun k => k .undef M_11) fun t15_13 M_14 =>
 pickW t11 (Bo true) t15_13 fun t16 =>
 Q t16 M_14

/-- slices.isNaN[uint64] -/
def W_slices_isNaN_uint64 (a0 : AV) (M0 : RM) (Q : PostV) : Prop :=
 intW .neq a0 a0 fun t5 =>
 Q t5 M0

/-- slices.rotateRight[uint64] -/
def W_slices_rotateRight_uint64 (c_slices_rotateLeft_uint64 : CallT) (a0 a1 : AV) (M0 : RM) (Q : PostV) : Prop :=
 lenW a0 fun t6 =>
 intW .sub t6 a1 fun t8 =>
 c_slices_rotateLeft_uint64 [a0, t8] M0 fun t9 M =>
 Q (.tup []) M

/-- slices.insertionSortOrdered[uint64] -/
def W_slices_insertionSortOrdered_uint64 (c_cmp_Less_uint64 : CallT) (a0 a1 a2 : AV) (M0 : RM) (Q : PostV) : Prop :=
 intW .add a1 (N .i64 1) fun t9 =>
 loopW (fun next xs M => -- [6]
 intW .lss (nthD xs 0) a2 fun t12 =>
 condW t12 (
 loopW (fun next_0 xs_1 M_2 => -- [7]
 intW .gtr (nthD xs_1 0) a1 fun t18 =>
 guardK t18 true (fun k => k a0 M_2 none) (fun k => k .undef M_2 none) fun t20 M_3 b =>
 guardK t18 true (fun k_4 => k_4 (nthD xs_1 0) M_3 none) (fun k => k .undef M_3 none) fun t21 M_5 b_6 =>
 guardK t18 true (fun k_7 => idxS t20 t21 1 fun t22 =>
 k_7 t22 M_5 none) (fun k => k .undef M_5 none) fun t22_8 M_9 b_10 =>
 guardK t18 true (fun k_11 => load1 M_9 t22_8 fun t23 =>
 k_11 t23 M_9 none) (fun k => k .undef M_9 none) fun t23_12 M_13 b_14 =>
 guardK t18 true (fun k_15 => k_15 a0 M_13 none) (fun k => k .undef M_13 none) fun t24 M_16 b_17 =>
 guardK t18 true (fun k_18 => k_18 (nthD xs_1 0) M_16 none) (fun k => k .undef M_16 none) fun t25 M_19 b_20 =>
 guardK t18 true (fun k_21 => intW .sub t25 (N .i64 1) fun t26 =>
 k_21 t26 M_19 none) (fun k => k .undef M_19 none) fun t26_22 M_23 b_24 =>
 guardK t18 true (fun k_25 => idxS t24 t26_22 1 fun t27 =>
 k_25 t27 M_23 none) (fun k => k .undef M_23 none) fun t27_26 M_27 b_28 =>
 guardK t18 true (fun k_29 => load1 M_27 t27_26 fun t28 =>
 k_29 t28 M_27 none) (fun k => k .undef M_27 none) fun t28_30 M_31 b_32 =>
 guardM t18 true (fun k_33 => c_cmp_Less_uint64 [t23_12, t28_30] M_31 fun t29 M_34 =>
 k_33 t29 M_34) (fun k => k .undef M_31) fun t29_35 M_36 =>
 pickW t18 t29_35 (Bo false) fun t30 =>
 condW t30 (
 intW .sub (nthD xs_1 0) (N .i64 1) fun t37 =>
 intW .sub (nthD xs_1 0) (N .i64 1) fun t40 =>
 idxS a0 t40 1 fun t41 =>
 load1 M_36 t41 fun t42 =>
 idxS a0 (nthD xs_1 0) 1 fun t45 =>
 load1 M_36 t45 fun t46 =>
 idxS a0 (nthD xs_1 0) 1 fun t47 =>
 storeW M_36 t47 t42 1 fun M_37 =>
 idxS a0 t37 1 fun t48 =>
 storeW M_37 t48 t46 1 fun M_38 =>
 intW .sub (nthD xs_1 0) (N .i64 1) fun t32 =>
 next_0 [t32] M_38) (
 intW .add (nthD xs 0) (N .i64 1) fun t14 =>
 next [t14] M_36)) [(nthD xs 0)] M) (
 Q (.tup []) M)) [t9] M0

/-- slices.heapSortOrdered[uint64] -/
def W_slices_heapSortOrdered_uint64 (c_slices_siftDownOrdered_uint64 : CallT) (a0 a1 a2 : AV) (M0 : RM) (Q : PostV) : Prop :=
 intW .sub a2 a1 fun t14 =>
 intW .sub t14 (N .i64 1) fun t16 =>
 intW .quo t16 (N .i64 2) fun t17 =>
 loopW (fun next xs M => -- [9]
 intW .geq (nthD xs 0) (N .i64 0) fun t19 =>
 condW t19 (
 c_slices_siftDownOrdered_uint64 [a0, (nthD xs 0), t14, a1] M fun t26 M_0 =>
 intW .sub (nthD xs 0) (N .i64 1) fun t21 =>
 next [t21] M_0) (
 intW .sub t14 (N .i64 1) fun t28 =>
 loopW (fun next_1 xs_2 M_3 => -- [10]
 intW .geq (nthD xs_2 0) (N .i64 0) fun t30 =>
 condW t30 (
 intW .add a1 (nthD xs_2 0) fun t38 =>
 intW .add a1 (nthD xs_2 0) fun t42 =>
 idxS a0 t42 1 fun t43 =>
 load1 M_3 t43 fun t44 =>
 idxS a0 a1 1 fun t47 =>
 load1 M_3 t47 fun t48 =>
 idxS a0 a1 1 fun t49 =>
 storeW M_3 t49 t44 1 fun M_4 =>
 idxS a0 t38 1 fun t50 =>
 storeW M_4 t50 t48 1 fun M_5 =>
 c_slices_siftDownOrdered_uint64 [a0, (N .i64 0), (nthD xs_2 0), a1] M_5 fun t55 M_6 =>
 intW .sub (nthD xs_2 0) (N .i64 1) fun t32 =>
 next_1 [t32] M_6) (
 Q (.tup []) M_3)) [t28] M)) [t17] M0

/-- slices.breakPatternsOrdered[uint64] -/
def W_slices_breakPatternsOrdered_uint64 (T_slices_xorshift : Nat) (c_slices_nextPowerOfTwo : CallT) (c_slices_xorshift_Next : CallT) (a0 a1 a2 : AV) (M0 : RM) (Q : PostV) : Prop :=
 intW .sub a2 a1 fun t13 =>
 intW .geq t13 (N .i64 8) fun t15 =>
 condW t15 (
 cvtW .u64 t13 fun t17 =>
 newW (.row [(N .u64 0)] false T_slices_xorshift 0) (fun b => .ptr b 0) M0 fun t7 M =>
 storeW M t7 t17 1 fun M_0 =>
 c_slices_nextPowerOfTwo [t13] M_0 fun t19 M_1 =>
 intW .quo t13 (N .i64 4) fun t22 =>
 intW .mul t22 (N .i64 2) fun t23 =>
 intW .add a1 t23 fun t24 =>
 intW .sub t24 (N .i64 1) fun t25 =>
 loopW (fun next xs M_2 => -- [9]
 intW .quo t13 (N .i64 4) fun t29 =>
 intW .mul t29 (N .i64 2) fun t30 =>
 intW .add a1 t30 fun t31 =>
 intW .add t31 (N .i64 1) fun t32 =>
 intW .leq (nthD xs 0) t32 fun t33 =>
 condW t33 (
 joinW (fun J =>
 c_slices_xorshift_Next [t7] M_2 fun t36 M_3 =>
 intW .sub t19 (N .u64 1) fun t38 =>
 intW .and t36 t38 fun t39 =>
 cvtW .i64 t39 fun t40 =>
 joinW (fun J_4 =>
 intW .geq t40 t13 fun t43 =>
 condW t43 (
 intW .sub t40 t13 fun t46 =>
 J_4 [t46] M_3) (
 J_4 [t40] M_3)) (fun xs_5 M_6 => -- [10]
 intW .add a1 (nthD xs_5 0) fun t52 =>
 intW .add a1 (nthD xs_5 0) fun t56 =>
 idxS a0 t56 1 fun t57 =>
 load1 M_6 t57 fun t58 =>
 idxS a0 (nthD xs 0) 1 fun t61 =>
 load1 M_6 t61 fun t62 =>
 idxS a0 (nthD xs 0) 1 fun t63 =>
 storeW M_6 t63 t58 1 fun M_7 =>
 idxS a0 t52 1 fun t64 =>
 storeW M_7 t64 t62 1 fun M_8 =>
 J [] M_8)) (fun xs_9 M_10 => -- []
 intW .add (nthD xs 0) (N .i64 1) fun t35 =>
 next [t35] M_10)) (
 Q (.tup []) M_2)) [t25] M_1) (
 Q (.tup []) M0)

/-- slices.choosePivotOrdered[uint64] -/
def W_slices_choosePivotOrdered_uint64 (T_int : Nat) (c_slices_medianAdjacentOrdered_uint64 : CallT) (c_slices_medianOrdered_uint64 : CallT) (a0 a1 a2 : AV) (M0 : RM) (Q : PostV) : Prop :=
 intW .sub a2 a1 fun t15 =>
 newW (.row [(N .i64 0)] false T_int 0) (fun b => .ptr b 0) M0 fun t9 M =>
 intW .quo t15 (N .i64 4) fun t18 =>
 intW .mul t18 (N .i64 1) fun t19 =>
 intW .add a1 t19 fun t20 =>
 intW .quo t15 (N .i64 4) fun t23 =>
 intW .mul t23 (N .i64 2) fun t24 =>
 intW .add a1 t24 fun t25 =>
 intW .quo t15 (N .i64 4) fun t28 =>
 intW .mul t28 (N .i64 3) fun t29 =>
 intW .add a1 t29 fun t30 =>
 joinW (fun J =>
 intW .geq t15 (N .i64 8) fun t32 =>
 condW t32 (
 joinW (fun J_0 =>
 intW .geq t15 (N .i64 50) fun t34 =>
 condW t34 (
 c_slices_medianAdjacentOrdered_uint64 [a0, t20, t9] M fun t37 M_1 =>
 c_slices_medianAdjacentOrdered_uint64 [a0, t25, t9] M_1 fun t40 M_2 =>
 c_slices_medianAdjacentOrdered_uint64 [a0, t30, t9] M_2 fun t43 M_3 =>
 J_0 [t37, t40, t43] M_3) (
 J_0 [t20, t25, t30] M)) (fun xs M_4 => -- [10, 11, 12]
 c_slices_medianOrdered_uint64 [a0, (nthD xs 0), (nthD xs 1), (nthD xs 2), t9] M_4 fun t48 M_5 =>
 J [t48] M_5)) (
 J [t25] M)) (fun xs_6 M_7 => -- [11]
 load1 M_7 t9 fun t49 =>
 intW .eql t49 (N .i64 0) fun t52 =>
 condW t52 (
 Q (.tup [(nthD xs_6 0), (N .i64 1)]) M_7) (
 intW .eql t49 (N .i64 12) fun t55 =>
 condW t55 (
 Q (.tup [(nthD xs_6 0), (N .i64 2)]) M_7) (
 Q (.tup [(nthD xs_6 0), (N .i64 0)]) M_7)))

/-- slices.reverseRangeOrdered[uint64] -/
def W_slices_reverseRangeOrdered_uint64 (a0 a1 a2 : AV) (M0 : RM) (Q : PostV) : Prop :=
 intW .sub a2 (N .i64 1) fun t10 =>
 loopW (fun next xs M => -- [6, 7]
 intW .lss (nthD xs 0) (nthD xs 1) fun t13 =>
 condW t13 (
 idxS a0 (nthD xs 1) 1 fun t20 =>
 load1 M t20 fun t21 =>
 idxS a0 (nthD xs 0) 1 fun t24 =>
 load1 M t24 fun t25 =>
 idxS a0 (nthD xs 0) 1 fun t26 =>
 storeW M t26 t21 1 fun M_0 =>
 idxS a0 (nthD xs 1) 1 fun t27 =>
 storeW M_0 t27 t25 1 fun M_1 =>
 intW .add (nthD xs 0) (N .i64 1) fun t29 =>
 intW .sub (nthD xs 1) (N .i64 1) fun t31 =>
 next [t29, t31] M_1) (
 Q (.tup []) M)) [a1, t10] M0

/-- slices.partialInsertionSortOrdered[uint64] -/
def W_slices_partialInsertionSortOrdered_uint64 (c_cmp_Less_uint64 : CallT) (a0 a1 a2 : AV) (M0 : RM) (Q : PostV) : Prop :=
 intW .add a1 (N .i64 1) fun t12 =>
 loopW (fun next xs M => -- [7, 8]
 intW .lss (nthD xs 1) (N .i64 5) fun t14 =>
 condW t14 (
 joinW (fun J =>
 loopW (fun next_0 xs_1 M_2 => -- [7]
 intW .lss (nthD xs_1 0) a2 fun t19 =>
 guardK t19 true (fun k => k a0 M_2 none) (fun k => k .undef M_2 none) fun t21 M_3 b =>
 guardK t19 true (fun k_4 => k_4 (nthD xs_1 0) M_3 none) (fun k => k .undef M_3 none) fun t22 M_5 b_6 =>
 guardK t19 true (fun k_7 => idxS t21 t22 1 fun t23 =>
 k_7 t23 M_5 none) (fun k => k .undef M_5 none) fun t23_8 M_9 b_10 =>
 guardK t19 true (fun k_11 => load1 M_9 t23_8 fun t24 =>
 k_11 t24 M_9 none) (fun k => k .undef M_9 none) fun t24_12 M_13 b_14 =>
 guardK t19 true (fun k_15 => k_15 a0 M_13 none) (fun k => k .undef M_13 none) fun t25 M_16 b_17 =>
 guardK t19 true (fun k_18 => k_18 (nthD xs_1 0) M_16 none) (fun k => k .undef M_16 none) fun t26 M_19 b_20 =>
 guardK t19 true (fun k_21 => intW .sub t26 (N .i64 1) fun t27 =>
 k_21 t27 M_19 none) (fun k => k .undef M_19 none) fun t27_22 M_23 b_24 =>
 guardK t19 true (fun k_25 => idxS t25 t27_22 1 fun t28 =>
 k_25 t28 M_23 none) (fun k => k .undef M_23 none) fun t28_26 M_27 b_28 =>
 guardK t19 true (fun k_29 => load1 M_27 t28_26 fun t29 =>
 k_29 t29 M_27 none) (fun k => k .undef M_27 none) fun t29_30 M_31 b_32 =>
 guardM t19 true (fun k_33 => c_cmp_Less_uint64 [t24_12, t29_30] M_31 fun t30 M_34 =>
 k_33 t30 M_34) (fun k => k .undef M_31) fun t30_35 M_36 =>
 guardK t19 true (fun k_37 => notW t30_35 fun t31 =>
 k_37 t31 M_36 none) (fun k => k .undef M_36 none) fun t31_38 M_39 b_40 =>
 pickW t19 t31_38 (Bo false) fun t32 =>
 condW t32 (
 intW .add (nthD xs_1 0) (N .i64 1) fun t34 =>
 next_0 [t34] M_39) (
 intW .eql (nthD xs_1 0) a2 fun t37 =>
 condW t37 (
 Q (Bo true) M_39) (
 intW .sub a2 a1 fun t40 =>
 intW .lss t40 (N .i64 50) fun t41 =>
 condW t41 (
 Q (Bo false) M_39) (
 intW .sub (nthD xs_1 0) (N .i64 1) fun t46 =>
 intW .sub (nthD xs_1 0) (N .i64 1) fun t49 =>
 idxS a0 t49 1 fun t50 =>
 load1 M_39 t50 fun t51 =>
 idxS a0 (nthD xs_1 0) 1 fun t54 =>
 load1 M_39 t54 fun t55 =>
 idxS a0 (nthD xs_1 0) 1 fun t56 =>
 storeW M_39 t56 t51 1 fun M_41 =>
 idxS a0 t46 1 fun t57 =>
 storeW M_41 t57 t55 1 fun M_42 =>
 joinW (fun J_43 =>
 intW .sub (nthD xs_1 0) a1 fun t60 =>
 intW .geq t60 (N .i64 2) fun t61 =>
 condW t61 (
 intW .sub (nthD xs_1 0) (N .i64 1) fun t63 =>
 loopW (fun next_44 xs_45 M_46 => -- [9]
 intW .geq (nthD xs_45 0) (N .i64 1) fun t65 =>
 condW t65 (
 idxS a0 (nthD xs_45 0) 1 fun t70 =>
 load1 M_46 t70 fun t71 =>
 intW .sub (nthD xs_45 0) (N .i64 1) fun t74 =>
 idxS a0 t74 1 fun t75 =>
 load1 M_46 t75 fun t76 =>
 c_cmp_Less_uint64 [t71, t76] M_46 fun t77 M_47 =>
 notW t77 fun t78 =>
 condW t78 (
 J_43 [] M_47) (
 intW .sub (nthD xs_45 0) (N .i64 1) fun t83 =>
 intW .sub (nthD xs_45 0) (N .i64 1) fun t86 =>
 idxS a0 t86 1 fun t87 =>
 load1 M_47 t87 fun t88 =>
 idxS a0 (nthD xs_45 0) 1 fun t91 =>
 load1 M_47 t91 fun t92 =>
 idxS a0 (nthD xs_45 0) 1 fun t93 =>
 storeW M_47 t93 t88 1 fun M_48 =>
 idxS a0 t83 1 fun t94 =>
 storeW M_48 t94 t92 1 fun M_49 =>
 intW .sub (nthD xs_45 0) (N .i64 1) fun t67 =>
 next_44 [t67] M_49)) (
 J_43 [] M_46)) [t63] M_42) (
 J_43 [] M_42)) (fun xs_50 M_51 => -- []
 intW .sub a2 (nthD xs_1 0) fun t97 =>
 intW .geq t97 (N .i64 2) fun t98 =>
 condW t98 (
 intW .add (nthD xs_1 0) (N .i64 1) fun t100 =>
 loopW (fun next_52 xs_53 M_54 => -- [10]
 intW .lss (nthD xs_53 0) a2 fun t103 =>
 condW t103 (
 idxS a0 (nthD xs_53 0) 1 fun t108 =>
 load1 M_54 t108 fun t109 =>
 intW .sub (nthD xs_53 0) (N .i64 1) fun t112 =>
 idxS a0 t112 1 fun t113 =>
 load1 M_54 t113 fun t114 =>
 c_cmp_Less_uint64 [t109, t114] M_54 fun t115 M_55 =>
 notW t115 fun t116 =>
 condW t116 (
 J [(nthD xs_1 0)] M_55) (
 intW .sub (nthD xs_53 0) (N .i64 1) fun t121 =>
 intW .sub (nthD xs_53 0) (N .i64 1) fun t124 =>
 idxS a0 t124 1 fun t125 =>
 load1 M_55 t125 fun t126 =>
 idxS a0 (nthD xs_53 0) 1 fun t129 =>
 load1 M_55 t129 fun t130 =>
 idxS a0 (nthD xs_53 0) 1 fun t131 =>
 storeW M_55 t131 t126 1 fun M_56 =>
 idxS a0 t121 1 fun t132 =>
 storeW M_56 t132 t130 1 fun M_57 =>
 intW .add (nthD xs_53 0) (N .i64 1) fun t105 =>
 next_52 [t105] M_57)) (
 J [(nthD xs_1 0)] M_54)) [t100] M_51) (
 J [(nthD xs_1 0)] M_51)))))) [(nthD xs 0)] M) (fun xs_58 M_59 => -- [7]
 intW .add (nthD xs 1) (N .i64 1) fun t16 =>
 next [(nthD xs_58 0), t16] M_59)) (
 Q (Bo false) M)) [t12, (N .i64 0)] M0

/-- slices.partitionEqualOrdered[uint64] -/
def W_slices_partitionEqualOrdered_uint64 (c_cmp_Less_uint64 : CallT) (a0 a1 a2 a3 : AV) (M0 : RM) (Q : PostV) : Prop :=
 idxS a0 a3 1 fun t17 =>
 load1 M0 t17 fun t18 =>
 idxS a0 a1 1 fun t21 =>
 load1 M0 t21 fun t22 =>
 idxS a0 a1 1 fun t23 =>
 storeW M0 t23 t18 1 fun M =>
 idxS a0 a3 1 fun t24 =>
 storeW M t24 t22 1 fun M_0 =>
 intW .add a1 (N .i64 1) fun t26 =>
 intW .sub a2 (N .i64 1) fun t28 =>
 loopW (fun next xs M_1 => -- [9, 10]
 loopW (fun next_2 xs_3 M_4 => -- [9]
 intW .leq (nthD xs_3 0) (nthD xs 1) fun t31 =>
 guardK t31 true (fun k => k a0 M_4 none) (fun k => k .undef M_4 none) fun t33 M_5 b =>
 guardK t31 true (fun k_6 => k_6 a1 M_5 none) (fun k => k .undef M_5 none) fun t34 M_7 b_8 =>
 guardK t31 true (fun k_9 => idxS t33 t34 1 fun t35 =>
 k_9 t35 M_7 none) (fun k => k .undef M_7 none) fun t35_10 M_11 b_12 =>
 guardK t31 true (fun k_13 => load1 M_11 t35_10 fun t36 =>
 k_13 t36 M_11 none) (fun k => k .undef M_11 none) fun t36_14 M_15 b_16 =>
 guardK t31 true (fun k_17 => k_17 a0 M_15 none) (fun k => k .undef M_15 none) fun t37 M_18 b_19 =>
 guardK t31 true (fun k_20 => k_20 (nthD xs_3 0) M_18 none) (fun k => k .undef M_18 none) fun t38 M_21 b_22 =>
 guardK t31 true (fun k_23 => idxS t37 t38 1 fun t39 =>
 k_23 t39 M_21 none) (fun k => k .undef M_21 none) fun t39_24 M_25 b_26 =>
 guardK t31 true (fun k_27 => load1 M_25 t39_24 fun t40 =>
 k_27 t40 M_25 none) (fun k => k .undef M_25 none) fun t40_28 M_29 b_30 =>
 guardM t31 true (fun k_31 => c_cmp_Less_uint64 [t36_14, t40_28] M_29 fun t41 M_32 =>
 k_31 t41 M_32) (fun k => k .undef M_29) fun t41_33 M_34 =>
 guardK t31 true (fun k_35 => notW t41_33 fun t42 =>
 k_35 t42 M_34 none) (fun k => k .undef M_34 none) fun t42_36 M_37 b_38 =>
 pickW t31 t42_36 (Bo false) fun t43 =>
 condW t43 (
 intW .add (nthD xs_3 0) (N .i64 1) fun t45 =>
 next_2 [t45] M_37) (
 loopW (fun next_39 xs_40 M_41 => -- [10]
 intW .leq (nthD xs_3 0) (nthD xs_40 0) fun t48 =>
 guardK t48 true (fun k_42 => k_42 a0 M_41 none) (fun k => k .undef M_41 none) fun t50 M_43 b_44 =>
 guardK t48 true (fun k_45 => k_45 a1 M_43 none) (fun k => k .undef M_43 none) fun t51 M_46 b_47 =>
 guardK t48 true (fun k_48 => idxS t50 t51 1 fun t52 =>
 k_48 t52 M_46 none) (fun k => k .undef M_46 none) fun t52_49 M_50 b_51 =>
 guardK t48 true (fun k_52 => load1 M_50 t52_49 fun t53 =>
 k_52 t53 M_50 none) (fun k => k .undef M_50 none) fun t53_53 M_54 b_55 =>
 guardK t48 true (fun k_56 => k_56 a0 M_54 none) (fun k => k .undef M_54 none) fun t54 M_57 b_58 =>
 guardK t48 true (fun k_59 => k_59 (nthD xs_40 0) M_57 none) (fun k => k .undef M_57 none) fun t55 M_60 b_61 =>
 guardK t48 true (fun k_62 => idxS t54 t55 1 fun t56 =>
 k_62 t56 M_60 none) (fun k => k .undef M_60 none) fun t56_63 M_64 b_65 =>
 guardK t48 true (fun k_66 => load1 M_64 t56_63 fun t57 =>
 k_66 t57 M_64 none) (fun k => k .undef M_64 none) fun t57_67 M_68 b_69 =>
 guardM t48 true (fun k_70 => c_cmp_Less_uint64 [t53_53, t57_67] M_68 fun t58 M_71 =>
 k_70 t58 M_71) (fun k => k .undef M_68) fun t58_72 M_73 =>
 pickW t48 t58_72 (Bo false) fun t59 =>
 condW t59 (
 intW .sub (nthD xs_40 0) (N .i64 1) fun t61 =>
 next_39 [t61] M_73) (
 intW .gtr (nthD xs_3 0) (nthD xs_40 0) fun t64 =>
 condW t64 (
 Q (nthD xs_3 0) M_73) (
 idxS a0 (nthD xs_40 0) 1 fun t71 =>
 load1 M_73 t71 fun t72 =>
 idxS a0 (nthD xs_3 0) 1 fun t75 =>
 load1 M_73 t75 fun t76 =>
 idxS a0 (nthD xs_3 0) 1 fun t77 =>
 storeW M_73 t77 t72 1 fun M_74 =>
 idxS a0 (nthD xs_40 0) 1 fun t78 =>
 storeW M_74 t78 t76 1 fun M_75 =>
 intW .add (nthD xs_3 0) (N .i64 1) fun t80 =>
 intW .sub (nthD xs_40 0) (N .i64 1) fun t82 =>
 next [t80, t82] M_75))) [(nthD xs 1)] M_37)) [(nthD xs 0)] M_1) [t26, t28] M_0

/-- slices.partitionOrdered[uint64] -/
def W_slices_partitionOrdered_uint64 (c_cmp_Less_uint64 : CallT) (a0 a1 a2 a3 : AV) (M0 : RM) (Q : PostV) : Prop :=
 idxS a0 a3 1 fun t18 =>
 load1 M0 t18 fun t19 =>
 idxS a0 a1 1 fun t22 =>
 load1 M0 t22 fun t23 =>
 idxS a0 a1 1 fun t24 =>
 storeW M0 t24 t19 1 fun M =>
 idxS a0 a3 1 fun t25 =>
 storeW M t25 t23 1 fun M_0 =>
 intW .add a1 (N .i64 1) fun t27 =>
 intW .sub a2 (N .i64 1) fun t29 =>
 loopW (fun next xs M_1 => -- [10]
 intW .leq (nthD xs 0) t29 fun t32 =>
 guardK t32 true (fun k => k a0 M_1 none) (fun k => k .undef M_1 none) fun t34 M_2 b =>
 guardK t32 true (fun k_3 => k_3 (nthD xs 0) M_2 none) (fun k => k .undef M_2 none) fun t35 M_4 b_5 =>
 guardK t32 true (fun k_6 => idxS t34 t35 1 fun t36 =>
 k_6 t36 M_4 none) (fun k => k .undef M_4 none) fun t36_7 M_8 b_9 =>
 guardK t32 true (fun k_10 => load1 M_8 t36_7 fun t37 =>
 k_10 t37 M_8 none) (fun k => k .undef M_8 none) fun t37_11 M_12 b_13 =>
 guardK t32 true (fun k_14 => k_14 a0 M_12 none) (fun k => k .undef M_12 none) fun t38 M_15 b_16 =>
 guardK t32 true (fun k_17 => k_17 a1 M_15 none) (fun k => k .undef M_15 none) fun t39 M_18 b_19 =>
 guardK t32 true (fun k_20 => idxS t38 t39 1 fun t40 =>
 k_20 t40 M_18 none) (fun k => k .undef M_18 none) fun t40_21 M_22 b_23 =>
 guardK t32 true (fun k_24 => load1 M_22 t40_21 fun t41 =>
 k_24 t41 M_22 none) (fun k => k .undef M_22 none) fun t41_25 M_26 b_27 =>
 guardM t32 true (fun k_28 => c_cmp_Less_uint64 [t37_11, t41_25] M_26 fun t42 M_29 =>
 k_28 t42 M_29) (fun k => k .undef M_26) fun t42_30 M_31 =>
 pickW t32 t42_30 (Bo false) fun t43 =>
 condW t43 (
 intW .add (nthD xs 0) (N .i64 1) fun t45 =>
 next [t45] M_31) (
 loopW (fun next_32 xs_33 M_34 => -- [11]
 intW .leq (nthD xs 0) (nthD xs_33 0) fun t48 =>
 guardK t48 true (fun k_35 => k_35 a0 M_34 none) (fun k => k .undef M_34 none) fun t50 M_36 b_37 =>
 guardK t48 true (fun k_38 => k_38 (nthD xs_33 0) M_36 none) (fun k => k .undef M_36 none) fun t51 M_39 b_40 =>
 guardK t48 true (fun k_41 => idxS t50 t51 1 fun t52 =>
 k_41 t52 M_39 none) (fun k => k .undef M_39 none) fun t52_42 M_43 b_44 =>
 guardK t48 true (fun k_45 => load1 M_43 t52_42 fun t53 =>
 k_45 t53 M_43 none) (fun k => k .undef M_43 none) fun t53_46 M_47 b_48 =>
 guardK t48 true (fun k_49 => k_49 a0 M_47 none) (fun k => k .undef M_47 none) fun t54 M_50 b_51 =>
 guardK t48 true (fun k_52 => k_52 a1 M_50 none) (fun k => k .undef M_50 none) fun t55 M_53 b_54 =>
 guardK t48 true (fun k_55 => idxS t54 t55 1 fun t56 =>
 k_55 t56 M_53 none) (fun k => k .undef M_53 none) fun t56_56 M_57 b_58 =>
 guardK t48 true (fun k_59 => load1 M_57 t56_56 fun t57 =>
 k_59 t57 M_57 none) (fun k => k .undef M_57 none) fun t57_60 M_61 b_62 =>
 guardM t48 true (fun k_63 => c_cmp_Less_uint64 [t53_46, t57_60] M_61 fun t58 M_64 =>
 k_63 t58 M_64) (fun k => k .undef M_61) fun t58_65 M_66 =>
 guardK t48 true (fun k_67 => notW t58_65 fun t59 =>
 k_67 t59 M_66 none) (fun k => k .undef M_66 none) fun t59_68 M_69 b_70 =>
 pickW t48 t59_68 (Bo false) fun t60 =>
 condW t60 (
 intW .sub (nthD xs_33 0) (N .i64 1) fun t62 =>
 next_32 [t62] M_69) (
 intW .gtr (nthD xs 0) (nthD xs_33 0) fun t65 =>
 condW t65 (
 idxS a0 a1 1 fun t72 =>
 load1 M_69 t72 fun t73 =>
 idxS a0 (nthD xs_33 0) 1 fun t76 =>
 load1 M_69 t76 fun t77 =>
 idxS a0 (nthD xs_33 0) 1 fun t78 =>
 storeW M_69 t78 t73 1 fun M_71 =>
 idxS a0 a1 1 fun t79 =>
 storeW M_71 t79 t77 1 fun M_72 =>
 Q (.tup [(nthD xs_33 0), (Bo true)]) M_72) (
 idxS a0 (nthD xs_33 0) 1 fun t87 =>
 load1 M_69 t87 fun t88 =>
 idxS a0 (nthD xs 0) 1 fun t91 =>
 load1 M_69 t91 fun t92 =>
 idxS a0 (nthD xs 0) 1 fun t93 =>
 storeW M_69 t93 t88 1 fun M_73 =>
 idxS a0 (nthD xs_33 0) 1 fun t94 =>
 storeW M_73 t94 t92 1 fun M_74 =>
 intW .add (nthD xs 0) (N .i64 1) fun t96 =>
 intW .sub (nthD xs_33 0) (N .i64 1) fun t98 =>
 loopW (fun next_75 xs_76 M_77 => -- [10, 11]
 loopW (fun next_78 xs_79 M_80 => -- [10]
 intW .leq (nthD xs_79 0) (nthD xs_76 1) fun t101 =>
 guardK t101 true (fun k_81 => k_81 a0 M_80 none) (fun k => k .undef M_80 none) fun t103 M_82 b_83 =>
 guardK t101 true (fun k_84 => k_84 (nthD xs_79 0) M_82 none) (fun k => k .undef M_82 none) fun t104 M_85 b_86 =>
 guardK t101 true (fun k_87 => idxS t103 t104 1 fun t105 =>
 k_87 t105 M_85 none) (fun k => k .undef M_85 none) fun t105_88 M_89 b_90 =>
 guardK t101 true (fun k_91 => load1 M_89 t105_88 fun t106 =>
 k_91 t106 M_89 none) (fun k => k .undef M_89 none) fun t106_92 M_93 b_94 =>
 guardK t101 true (fun k_95 => k_95 a0 M_93 none) (fun k => k .undef M_93 none) fun t107 M_96 b_97 =>
 guardK t101 true (fun k_98 => k_98 a1 M_96 none) (fun k => k .undef M_96 none) fun t108 M_99 b_100 =>
 guardK t101 true (fun k_101 => idxS t107 t108 1 fun t109 =>
 k_101 t109 M_99 none) (fun k => k .undef M_99 none) fun t109_102 M_103 b_104 =>
 guardK t101 true (fun k_105 => load1 M_103 t109_102 fun t110 =>
 k_105 t110 M_103 none) (fun k => k .undef M_103 none) fun t110_106 M_107 b_108 =>
 guardM t101 true (fun k_109 => c_cmp_Less_uint64 [t106_92, t110_106] M_107 fun t111 M_110 =>
 k_109 t111 M_110) (fun k => k .undef M_107) fun t111_111 M_112 =>
 pickW t101 t111_111 (Bo false) fun t112 =>
 condW t112 (
 intW .add (nthD xs_79 0) (N .i64 1) fun t114 =>
 next_78 [t114] M_112) (
 loopW (fun next_113 xs_114 M_115 => -- [11]
 intW .leq (nthD xs_79 0) (nthD xs_114 0) fun t117 =>
 guardK t117 true (fun k_116 => k_116 a0 M_115 none) (fun k => k .undef M_115 none) fun t119 M_117 b_118 =>
 guardK t117 true (fun k_119 => k_119 (nthD xs_114 0) M_117 none) (fun k => k .undef M_117 none) fun t120 M_120 b_121 =>
 guardK t117 true (fun k_122 => idxS t119 t120 1 fun t121 =>
 k_122 t121 M_120 none) (fun k => k .undef M_120 none) fun t121_123 M_124 b_125 =>
 guardK t117 true (fun k_126 => load1 M_124 t121_123 fun t122 =>
 k_126 t122 M_124 none) (fun k => k .undef M_124 none) fun t122_127 M_128 b_129 =>
 guardK t117 true (fun k_130 => k_130 a0 M_128 none) (fun k => k .undef M_128 none) fun t123 M_131 b_132 =>
 guardK t117 true (fun k_133 => k_133 a1 M_131 none) (fun k => k .undef M_131 none) fun t124 M_134 b_135 =>
 guardK t117 true (fun k_136 => idxS t123 t124 1 fun t125 =>
 k_136 t125 M_134 none) (fun k => k .undef M_134 none) fun t125_137 M_138 b_139 =>
 guardK t117 true (fun k_140 => load1 M_138 t125_137 fun t126 =>
 k_140 t126 M_138 none) (fun k => k .undef M_138 none) fun t126_141 M_142 b_143 =>
 guardM t117 true (fun k_144 => c_cmp_Less_uint64 [t122_127, t126_141] M_142 fun t127 M_145 =>
 k_144 t127 M_145) (fun k => k .undef M_142) fun t127_146 M_147 =>
 guardK t117 true (fun k_148 => notW t127_146 fun t128 =>
 k_148 t128 M_147 none) (fun k => k .undef M_147 none) fun t128_149 M_150 b_151 =>
 pickW t117 t128_149 (Bo false) fun t129 =>
 condW t129 (
 intW .sub (nthD xs_114 0) (N .i64 1) fun t131 =>
 next_113 [t131] M_150) (
 intW .gtr (nthD xs_79 0) (nthD xs_114 0) fun t134 =>
 condW t134 (
 idxS a0 a1 1 fun t159 =>
 load1 M_150 t159 fun t160 =>
 idxS a0 (nthD xs_114 0) 1 fun t163 =>
 load1 M_150 t163 fun t164 =>
 idxS a0 (nthD xs_114 0) 1 fun t165 =>
 storeW M_150 t165 t160 1 fun M_152 =>
 idxS a0 a1 1 fun t166 =>
 storeW M_152 t166 t164 1 fun M_153 =>
 Q (.tup [(nthD xs_114 0), (Bo false)]) M_153) (
 idxS a0 (nthD xs_114 0) 1 fun t141 =>
 load1 M_150 t141 fun t142 =>
 idxS a0 (nthD xs_79 0) 1 fun t145 =>
 load1 M_150 t145 fun t146 =>
 idxS a0 (nthD xs_79 0) 1 fun t147 =>
 storeW M_150 t147 t142 1 fun M_154 =>
 idxS a0 (nthD xs_114 0) 1 fun t148 =>
 storeW M_154 t148 t146 1 fun M_155 =>
 intW .add (nthD xs_79 0) (N .i64 1) fun t150 =>
 intW .sub (nthD xs_114 0) (N .i64 1) fun t152 =>
 next_75 [t150, t152] M_155))) [(nthD xs_76 1)] M_112)) [(nthD xs_76 0)] M_77) [t96, t98] M_74))) [t29] M_31)) [t27] M_0

/-- math/bits.Len32 -/
def W_math_bits_Len32 (a0 : AV) (M0 : RM) (Q : PostV) : Prop :=
 joinW (fun J =>
 intW .geq a0 (N .u32 65536) fun t4 =>
 condW t4 (
 shW .shr a0 (N .u64 16) fun t6 =>
 J [t6, (N .i64 16)] M0) (
 J [a0, (N .i64 0)] M0)) (fun xs M => -- [0, 2]
 joinW (fun J_0 =>
 intW .geq (nthD xs 0) (N .u32 256) fun t8 =>
 condW t8 (
 shW .shr (nthD xs 0) (N .u64 8) fun t10 =>
 intW .add (nthD xs 1) (N .i64 8) fun t12 =>
 J_0 [t10, t12] M) (
 J_0 [(nthD xs 0), (nthD xs 1)] M)) (fun xs_1 M_2 => -- [0, 2]
 cvtW .u8 (nthD xs_1 0) fun t15 =>
 idxB (St [0, 1, 2, 2, 3, 3, 3, 3, 4, 4, 4, 4, 4, 4, 4, 4, 5, 5, 5, 5, 5, 5, 5, 5, 5, 5, 5, 5, 5, 5, 5, 5, 6, 6, 6, 6, 6, 6, 6, 6, 6, 6, 6, 6, 6, 6, 6, 6, 6, 6, 6, 6, 6, 6, 6, 6, 6, 6, 6, 6, 6, 6, 6, 6, 7, 7, 7, 7, 7, 7, 7, 7, 7, 7, 7, 7, 7, 7, 7, 7, 7, 7, 7, 7, 7, 7, 7, 7, 7, 7, 7, 7, 7, 7, 7, 7, 7, 7, 7, 7, 7, 7, 7, 7, 7, 7, 7, 7, 7, 7, 7, 7, 7, 7, 7, 7, 7, 7, 7, 7, 7, 7, 7, 7, 7, 7, 7, 7, 8, 8, 8, 8, 8, 8, 8, 8, 8, 8, 8, 8, 8, 8, 8, 8, 8, 8, 8, 8, 8, 8, 8, 8, 8, 8, 8, 8, 8, 8, 8, 8, 8, 8, 8, 8, 8, 8, 8, 8, 8, 8, 8, 8, 8, 8, 8, 8, 8, 8, 8, 8, 8, 8, 8, 8, 8, 8, 8, 8, 8, 8, 8, 8, 8, 8, 8, 8, 8, 8, 8, 8, 8, 8, 8, 8, 8, 8, 8, 8, 8, 8, 8, 8, 8, 8, 8, 8, 8, 8, 8, 8, 8, 8, 8, 8, 8, 8, 8, 8, 8, 8, 8, 8, 8, 8, 8, 8, 8, 8, 8, 8, 8, 8, 8, 8, 8, 8, 8, 8, 8, 8, 8, 8, 8, 8, 8, 8]) t15 fun t16 =>
 cvtW .i64 t16 fun t17 =>
 intW .add (nthD xs_1 1) t17 fun t18 =>
 Q t18 M_2))

/-- math/bits.Len64 -/
def W_math_bits_Len64 (a0 : AV) (M0 : RM) (Q : PostV) : Prop :=
 joinW (fun J =>
 intW .geq a0 (N .u64 4294967296) fun t4 =>
 condW t4 (
 shW .shr a0 (N .u64 32) fun t6 =>
 J [t6, (N .i64 32)] M0) (
 J [a0, (N .i64 0)] M0)) (fun xs M => -- [0, 2]
 joinW (fun J_0 =>
 intW .geq (nthD xs 0) (N .u64 65536) fun t8 =>
 condW t8 (
 shW .shr (nthD xs 0) (N .u64 16) fun t10 =>
 intW .add (nthD xs 1) (N .i64 16) fun t12 =>
 J_0 [t10, t12] M) (
 J_0 [(nthD xs 0), (nthD xs 1)] M)) (fun xs_1 M_2 => -- [0, 2]
 joinW (fun J_3 =>
 intW .geq (nthD xs_1 0) (N .u64 256) fun t14 =>
 condW t14 (
 shW .shr (nthD xs_1 0) (N .u64 8) fun t16 =>
 intW .add (nthD xs_1 1) (N .i64 8) fun t18 =>
 J_3 [t16, t18] M_2) (
 J_3 [(nthD xs_1 0), (nthD xs_1 1)] M_2)) (fun xs_4 M_5 => -- [0, 2]
 cvtW .u8 (nthD xs_4 0) fun t21 =>
 idxB (St [0, 1, 2, 2, 3, 3, 3, 3, 4, 4, 4, 4, 4, 4, 4, 4, 5, 5, 5, 5, 5, 5, 5, 5, 5, 5, 5, 5, 5, 5, 5, 5, 6, 6, 6, 6, 6, 6, 6, 6, 6, 6, 6, 6, 6, 6, 6, 6, 6, 6, 6, 6, 6, 6, 6, 6, 6, 6, 6, 6, 6, 6, 6, 6, 7, 7, 7, 7, 7, 7, 7, 7, 7, 7, 7, 7, 7, 7, 7, 7, 7, 7, 7, 7, 7, 7, 7, 7, 7, 7, 7, 7, 7, 7, 7, 7, 7, 7, 7, 7, 7, 7, 7, 7, 7, 7, 7, 7, 7, 7, 7, 7, 7, 7, 7, 7, 7, 7, 7, 7, 7, 7, 7, 7, 7, 7, 7, 7, 8, 8, 8, 8, 8, 8, 8, 8, 8, 8, 8, 8, 8, 8, 8, 8, 8, 8, 8, 8, 8, 8, 8, 8, 8, 8, 8, 8, 8, 8, 8, 8, 8, 8, 8, 8, 8, 8, 8, 8, 8, 8, 8, 8, 8, 8, 8, 8, 8, 8, 8, 8, 8, 8, 8, 8, 8, 8, 8, 8, 8, 8, 8, 8, 8, 8, 8, 8, 8, 8, 8, 8, 8, 8, 8, 8, 8, 8, 8, 8, 8, 8, 8, 8, 8, 8, 8, 8, 8, 8, 8, 8, 8, 8, 8, 8, 8, 8, 8, 8, 8, 8, 8, 8, 8, 8, 8, 8, 8, 8, 8, 8, 8, 8, 8, 8, 8, 8, 8, 8, 8, 8, 8, 8, 8, 8, 8, 8]) t21 fun t22 =>
 cvtW .i64 t22 fun t23 =>
 intW .add (nthD xs_4 1) t23 fun t24 =>
 Q t24 M_5)))

/-- cmp.isNaN[uint64] -/
def W_cmp_isNaN_uint64 (a0 : AV) (M0 : RM) (Q : PostV) : Prop :=
 intW .neq a0 a0 fun t5 =>
 Q t5 M0

/-- slices.rotateLeft[uint64] -/
def W_slices_rotateLeft_uint64 (c_slices_Reverse_uint64_uint64 : CallT) (a0 a1 : AV) (M0 : RM) (Q : PostV) : Prop :=
 getW (subS 1 a0 none (some a1) none) fun t6 =>
 c_slices_Reverse_uint64_uint64 [t6] M0 fun t7 M =>
 getW (subS 1 a0 (some a1) none none) fun t10 =>
 c_slices_Reverse_uint64_uint64 [t10] M fun t11 M_0 =>
 c_slices_Reverse_uint64_uint64 [a0] M_0 fun t13 M_1 =>
 Q (.tup []) M_1

/-- slices.siftDownOrdered[uint64] -/
def W_slices_siftDownOrdered_uint64 (c_cmp_Less_uint64 : CallT) (a0 a1 a2 a3 : AV) (M0 : RM) (Q : PostV) : Prop :=
 loopW (fun next xs M => -- [8]
 intW .mul (N .i64 2) (nthD xs 0) fun t12 =>
 intW .add t12 (N .i64 1) fun t13 =>
 intW .geq t13 a2 fun t16 =>
 condW t16 (
 Q (.tup []) M) (
 joinW (fun J =>
 intW .add t13 (N .i64 1) fun t18 =>
 intW .lss t18 a2 fun t20 =>
 guardK t20 true (fun k => k a0 M none) (fun k => k .undef M none) fun t22 M_0 b =>
 guardK t20 true (fun k_1 => k_1 a3 M_0 none) (fun k => k .undef M_0 none) fun t23 M_2 b_3 =>
 guardK t20 true (fun k_4 => k_4 t13 M_2 none) (fun k => k .undef M_2 none) fun t24 M_5 b_6 =>
 guardK t20 true (fun k_7 => intW .add t23 t24 fun t25 =>
 k_7 t25 M_5 none) (fun k => k .undef M_5 none) fun t25_8 M_9 b_10 =>
 guardK t20 true (fun k_11 => idxS t22 t25_8 1 fun t26 =>
 k_11 t26 M_9 none) (fun k => k .undef M_9 none) fun t26_12 M_13 b_14 =>
 guardK t20 true (fun k_15 => load1 M_13 t26_12 fun t27 =>
 k_15 t27 M_13 none) (fun k => k .undef M_13 none) fun t27_16 M_17 b_18 =>
 guardK t20 true (fun k_19 => k_19 a0 M_17 none) (fun k => k .undef M_17 none) fun t28 M_20 b_21 =>
 guardK t20 true (fun k_22 => k_22 a3 M_20 none) (fun k => k .undef M_20 none) fun t29 M_23 b_24 =>
 guardK t20 true (fun k_25 => k_25 t13 M_23 none) (fun k => k .undef M_23 none) fun t30 M_26 b_27 =>
 guardK t20 true (fun k_28 => intW .add t29 t30 fun t31 =>
 k_28 t31 M_26 none) (fun k => k .undef M_26 none) fun t31_29 M_30 b_31 =>
 guardK t20 true (fun k_32 => intW .add t31_29 (N .i64 1) fun t32 =>
 k_32 t32 M_30 none) (fun k => k .undef M_30 none) fun t32_33 M_34 b_35 =>
 guardK t20 true (fun k_36 => idxS t28 t32_33 1 fun t33 =>
 k_36 t33 M_34 none) (fun k => k .undef M_34 none) fun t33_37 M_38 b_39 =>
 guardK t20 true (fun k_40 => load1 M_38 t33_37 fun t34 =>
 k_40 t34 M_38 none) (fun k => k .undef M_38 none) fun t34_41 M_42 b_43 =>
 guardM t20 true (fun k_44 => c_cmp_Less_uint64 [t27_16, t34_41] M_42 fun t35 M_45 =>
 k_44 t35 M_45) (fun k => k .undef M_42) fun t35_46 M_47 =>
 pickW t20 t35_46 (Bo false) fun t36 =>
 condW t36 (
 intW .add t13 (N .i64 1) fun t38 =>
 J [t38] M_47) (
 J [t13] M_47)) (fun xs_48 M_49 => -- [9]
 intW .add a3 (nthD xs 0) fun t42 =>
 idxS a0 t42 1 fun t43 =>
 load1 M_49 t43 fun t44 =>
 intW .add a3 (nthD xs_48 0) fun t48 =>
 idxS a0 t48 1 fun t49 =>
 load1 M_49 t49 fun t50 =>
 c_cmp_Less_uint64 [t44, t50] M_49 fun t51 M_50 =>
 notW t51 fun t52 =>
 condW t52 (
 Q (.tup []) M_50) (
 intW .add a3 (nthD xs 0) fun t56 =>
 intW .add a3 (nthD xs_48 0) fun t60 =>
 intW .add a3 (nthD xs_48 0) fun t64 =>
 idxS a0 t64 1 fun t65 =>
 load1 M_50 t65 fun t66 =>
 intW .add a3 (nthD xs 0) fun t70 =>
 idxS a0 t70 1 fun t71 =>
 load1 M_50 t71 fun t72 =>
 idxS a0 t56 1 fun t73 =>
 storeW M_50 t73 t66 1 fun M_51 =>
 idxS a0 t60 1 fun t74 =>
 storeW M_51 t74 t72 1 fun M_52 =>
 next [(nthD xs_48 0)] M_52)))) [a1] M0

/-- slices.nextPowerOfTwo -/
def W_slices_nextPowerOfTwo (c_math_bits_Len : CallT) (a0 : AV) (M0 : RM) (Q : PostV) : Prop :=
 cvtW .u64 a0 fun t4 =>
 c_math_bits_Len [t4] M0 fun t5 M =>
 shW .shl (N .u64 1) t5 fun t6 =>
 Q t6 M

/-- (*slices.xorshift).Next -/
def W_slices_xorshift_Next (a0 : AV) (M0 : RM) (Q : PostV) : Prop :=
 ptrW a0 fun t4 =>
 load1 M0 t4 fun t5 =>
 ptrW a0 fun t7 =>
 load1 M0 t7 fun t8 =>
 shW .shl t8 (N .u64 13) fun t9 =>
 intW .xor t5 t9 fun t10 =>
 ptrW a0 fun t11 =>
 storeW M0 t11 t10 1 fun M =>
 ptrW a0 fun t13 =>
 load1 M t13 fun t14 =>
 ptrW a0 fun t16 =>
 load1 M t16 fun t17 =>
 shW .shr t17 (N .u64 7) fun t18 =>
 intW .xor t14 t18 fun t19 =>
 ptrW a0 fun t20 =>
 storeW M t20 t19 1 fun M_0 =>
 ptrW a0 fun t22 =>
 load1 M_0 t22 fun t23 =>
 ptrW a0 fun t25 =>
 load1 M_0 t25 fun t26 =>
 shW .shl t26 (N .u64 17) fun t27 =>
 intW .xor t23 t27 fun t28 =>
 ptrW a0 fun t29 =>
 storeW M_0 t29 t28 1 fun M_1 =>
 ptrW a0 fun t31 =>
 load1 M_1 t31 fun t32 =>
 Q t32 M_1

/-- slices.medianAdjacentOrdered[uint64] -/
def W_slices_medianAdjacentOrdered_uint64 (c_slices_medianOrdered_uint64 : CallT) (a0 a1 a2 : AV) (M0 : RM) (Q : PostV) : Prop :=
 intW .sub a1 (N .i64 1) fun t9 =>
 intW .add a1 (N .i64 1) fun t12 =>
 c_slices_medianOrdered_uint64 [a0, t9, a1, t12, a2] M0 fun t14 M =>
 Q t14 M

/-- slices.medianOrdered[uint64] -/
def W_slices_medianOrdered_uint64 (c_slices_order2Ordered_uint64 : CallT) (a0 a1 a2 a3 a4 : AV) (M0 : RM) (Q : PostV) : Prop :=
 c_slices_order2Ordered_uint64 [a0, a1, a2, a4] M0 fun t16 M =>
 extW t16 0 fun t17 =>
 extW t16 1 fun t18 =>
 c_slices_order2Ordered_uint64 [a0, t18, a3, a4] M fun t24 M_0 =>
 extW t24 0 fun t25 =>
 extW t24 1 fun t26 =>
 c_slices_order2Ordered_uint64 [a0, t17, t25, a4] M_0 fun t32 M_1 =>
 extW t32 0 fun t33 =>
 extW t32 1 fun t34 =>
 Q t34 M_1

/-- slices.Reverse[[]uint64,uint64] -/
def W_slices_Reverse_uint64_uint64 (a0 : AV) (M0 : RM) (Q : PostV) : Prop :=
 lenW a0 fun t5 =>
 intW .sub t5 (N .i64 1) fun t6 =>
 loopW (fun next xs M => -- [2, 3]
 intW .lss (nthD xs 0) (nthD xs 1) fun t9 =>
 condW t9 (
 idxS a0 (nthD xs 1) 1 fun t20 =>
 load1 M t20 fun t21 =>
 idxS a0 (nthD xs 0) 1 fun t24 =>
 load1 M t24 fun t25 =>
 idxS a0 (nthD xs 0) 1 fun t26 =>
 storeW M t26 t21 1 fun M_0 =>
 idxS a0 (nthD xs 1) 1 fun t27 =>
 storeW M_0 t27 t25 1 fun M_1 =>
 intW .add (nthD xs 0) (N .i64 1) fun t11 =>
 intW .sub (nthD xs 1) (N .i64 1) fun t13 =>
 next [t11, t13] M_1) (
 Q (.tup []) M)) [(N .i64 0), t6] M0

/-- slices.order2Ordered[uint64] -/
def W_slices_order2Ordered_uint64 (c_cmp_Less_uint64 : CallT) (a0 a1 a2 a3 : AV) (M0 : RM) (Q : PostV) : Prop :=
 idxS a0 a2 1 fun t12 =>
 load1 M0 t12 fun t13 =>
 idxS a0 a1 1 fun t16 =>
 load1 M0 t16 fun t17 =>
 c_cmp_Less_uint64 [t13, t17] M0 fun t18 M =>
 condW t18 (
 ptrW a3 fun t20 =>
 load1 M t20 fun t21 =>
 intW .add t21 (N .i64 1) fun t22 =>
 ptrW a3 fun t23 =>
 storeW M t23 t22 1 fun M_0 =>
 Q (.tup [a2, a1]) M_0) (
 Q (.tup [a1, a2]) M)

end Go.Ab.Dot
/- Plain lemmas on the predicates, for values whose form is known. By an AI agent. -/
set_option linter.unusedVariables false
set_option linter.unusedSimpArgs false
namespace Go.Ab
open Go Go.RowKit

/-- The cell at a place. -/
def RM.cell (M : RM) (b o : Nat) : Option AV := (M.cells b).bind (·[o]?)

section
variable {M M' : RM} {K : AV → Prop} {KQ : PostV}

theorem loads_cell {b o : Nat} {v : AV} : M.loads b o 1 = some [v] ↔ M.cell b o = some v := by
  unfold RM.loads RM.cell
  cases hc : M.cells b with
  | none => simp
  | some l =>
    simp only [Option.bind_some]
    constructor
    · intro h
      split at h
      · rename_i hlt
        have h1 := Option.some.inj h
        have : ((l.drop o).take 1)[0]? = some v := by rw [h1]; rfl
        rw [List.getElem?_take, if_pos (by omega), List.getElem?_drop] at this
        simpa using this
      · cases h
    · intro h
      have hlt := (List.getElem?_eq_some_iff.1 h).1
      rw [if_pos (by omega)]
      congr 1
      rw [List.drop_eq_getElem_cons hlt]
      simp only [List.take_succ_cons, List.take_zero]
      congr 1
      exact (List.getElem?_eq_some_iff.1 h).2

@[go_sem] theorem load1_ptr (b o : Nat) : load1 M (.ptr b o) K = ∃ v, M.cell b o = some v ∧ K v := by
  apply propext; unfold load1
  constructor
  · rintro ⟨b', o', v, h, hl, hk⟩; cases h; exact ⟨v, loads_cell.1 hl, hk⟩
  · rintro ⟨v, hl, hk⟩; exact ⟨b, o, v, rfl, loads_cell.2 hl, hk⟩
@[go_sem] theorem loadN_ptr (b o n : Nat) : loadN M (.ptr b o) n K = ∃ vs, M.loads b o n = some vs ∧ K (.agg vs) := by
  apply propext; unfold loadN
  constructor
  · rintro ⟨b', o', v, h, hl, hk⟩; cases h; exact ⟨v, hl, hk⟩
  · rintro ⟨v, hl, hk⟩; exact ⟨b, o, v, rfl, hl, hk⟩
@[go_sem] theorem storeW_ptr (b p : Nat) (x : AV) (n : Nat) (K : RM → Prop) : storeW M (.ptr b p) x n K = (x.cells.length = n ∧ ∃ M', M.stores b p x.cells = some M' ∧ K M') := by
  apply propext; unfold storeW
  constructor
  · rintro ⟨b', o', M', h, h1, h2, hk⟩; cases h; exact ⟨h1, M', h2, hk⟩
  · rintro ⟨h1, M', h2, hk⟩; exact ⟨b, p, M', rfl, h1, h2, hk⟩

/-! ### integers -/
def andI (k : IntKind) (a b : Int) : Int := k.wrap (BitVec.ofInt k.bits a &&& BitVec.ofInt k.bits b).toNat
def orI (k : IntKind) (a b : Int) : Int := k.wrap (BitVec.ofInt k.bits a ||| BitVec.ofInt k.bits b).toNat
def xorI (k : IntKind) (a b : Int) : Int := k.wrap (BitVec.ofInt k.bits a ^^^ BitVec.ofInt k.bits b).toNat
def andNotI (k : IntKind) (a b : Int) : Int := k.wrap (BitVec.ofInt k.bits a &&& ~~~BitVec.ofInt k.bits b).toNat
def shlI (k : IntKind) (a b : Int) : Int := k.wrap (a * 2 ^ (min b.toNat k.bits))
def shrI (k : IntKind) (a b : Int) : Int := a.fdiv (2 ^ (min b.toNat k.bits))
section
variable (k : IntKind) (a b : Int)
theorem intW_some {op : BinOp} {v : Value} (h : intBin op k a b = some v) : intW op (N k a) (N k b) K = K (.sc v) := by
  apply propext; unfold intW
  constructor
  · rintro ⟨k', a', b', u, h1, h2, h3, hk⟩; cases h1; cases h2; rw [h] at h3; cases h3; exact hk
  · intro hk; exact ⟨k, a, b, v, rfl, rfl, h, hk⟩
@[go_sem] theorem intW_add : intW .add (N k a) (N k b) K = K (N k (k.wrap (a + b))) := intW_some k a b rfl
@[go_sem] theorem intW_sub : intW .sub (N k a) (N k b) K = K (N k (k.wrap (a - b))) := intW_some k a b rfl
@[go_sem] theorem intW_mul : intW .mul (N k a) (N k b) K = K (N k (k.wrap (a * b))) := intW_some k a b rfl
@[go_sem] theorem intW_and : intW .and (N k a) (N k b) K = K (N k (andI k a b)) := intW_some k a b rfl
@[go_sem] theorem intW_or : intW .or (N k a) (N k b) K = K (N k (orI k a b)) := intW_some k a b rfl
@[go_sem] theorem intW_xor : intW .xor (N k a) (N k b) K = K (N k (xorI k a b)) := intW_some k a b rfl
@[go_sem] theorem intW_andNot : intW .andNot (N k a) (N k b) K = K (N k (andNotI k a b)) := intW_some k a b rfl
@[go_sem] theorem intW_eql : intW .eql (N k a) (N k b) K = K (Bo (a == b)) := intW_some k a b rfl
@[go_sem] theorem intW_neq : intW .neq (N k a) (N k b) K = K (Bo (a != b)) := intW_some k a b rfl
@[go_sem] theorem intW_lss : intW .lss (N k a) (N k b) K = K (Bo (decide (a < b))) := intW_some k a b rfl
@[go_sem] theorem intW_leq : intW .leq (N k a) (N k b) K = K (Bo (decide (a ≤ b))) := intW_some k a b rfl
@[go_sem] theorem intW_gtr : intW .gtr (N k a) (N k b) K = K (Bo (decide (a > b))) := intW_some k a b rfl
@[go_sem] theorem intW_geq : intW .geq (N k a) (N k b) K = K (Bo (decide (a ≥ b))) := intW_some k a b rfl
@[go_sem] theorem intW_quo : intW .quo (N k a) (N k b) K = (b ≠ 0 ∧ K (N k (k.wrap (a.tdiv b)))) := by
  apply propext; unfold intW intBin
  constructor
  · rintro ⟨k', a', b', u, h1, h2, h3, hk⟩; cases h1; cases h2
    simp only at h3
    split at h3
    · cases h3
    · cases h3; exact ⟨‹_›, hk⟩
  · rintro ⟨h0, hk⟩; exact ⟨k, a, b, _, rfl, rfl, by simp only [if_neg h0], hk⟩
@[go_sem] theorem intW_rem : intW .rem (N k a) (N k b) K = (b ≠ 0 ∧ K (N k (a.tmod b))) := by
  apply propext; unfold intW intBin
  constructor
  · rintro ⟨k', a', b', u, h1, h2, h3, hk⟩; cases h1; cases h2
    simp only at h3
    split at h3
    · cases h3
    · cases h3; exact ⟨‹_›, hk⟩
  · rintro ⟨h0, hk⟩; exact ⟨k, a, b, _, rfl, rfl, by simp only [if_neg h0], hk⟩
variable (l : IntKind)
@[go_sem] theorem shW_shl : shW .shl (N k a) (N l b) K = (0 ≤ b ∧ K (N k (shlI k a b))) := by
  apply propext; unfold shW intSh
  constructor
  · rintro ⟨k', a', l', b', u, h1, h2, h3, hk⟩; cases h1; cases h2
    split at h3
    · cases h3
    · cases h3; exact ⟨by omega, hk⟩
  · rintro ⟨h0, hk⟩; exact ⟨k, a, l, b, _, rfl, rfl, by rw [if_neg (by omega)]; rfl, hk⟩
@[go_sem] theorem shW_shr : shW .shr (N k a) (N l b) K = (0 ≤ b ∧ K (N k (shrI k a b))) := by
  apply propext; unfold shW intSh
  constructor
  · rintro ⟨k', a', l', b', u, h1, h2, h3, hk⟩; cases h1; cases h2
    split at h3
    · cases h3
    · cases h3; exact ⟨by omega, hk⟩
  · rintro ⟨h0, hk⟩; exact ⟨k, a, l, b, _, rfl, rfl, by rw [if_neg (by omega)]; rfl, hk⟩
@[go_sem] theorem runeW_N {l : IntKind} {a : Int} {K : AV → Prop} : runeW (N l a) K = K (St (Utf8.encode a).data.toList) := by
  apply propext; unfold runeW
  constructor
  · rintro ⟨l', n, h, hk⟩; cases h; exact hk
  · intro h; exact ⟨_, _, rfl, h⟩
@[go_sem] theorem cvtW_N : cvtW k (N l a) K = K (N k (k.wrap a)) := by
  apply propext; unfold cvtW
  constructor
  · rintro ⟨l', n, h, hk⟩; cases h; exact hk
  · intro hk; exact ⟨l, a, rfl, hk⟩
@[go_sem] theorem minW_N (mx : Bool) : minW mx (N k a) (N k b) K = K (N k (if mx then (if b > a then b else a) else (if b < a then b else a))) := by
  apply propext; unfold minW
  constructor
  · rintro ⟨k', a', b', h1, h2, hk⟩; cases h1; cases h2; exact hk
  · intro hk; exact ⟨k, a, b, rfl, rfl, hk⟩
@[go_sem] theorem negW_N : negW (N k a) K = K (N k (k.wrap (0 - a))) := by
  apply propext; unfold negW
  constructor
  · rintro ⟨k', a', h1, hk⟩; cases h1; exact hk
  · intro hk; exact ⟨k, a, rfl, hk⟩
end

@[go_sem] theorem notW_Bo (b : Bool) : notW (Bo b) K = K (Bo (!b)) := by
  apply propext; unfold notW
  constructor
  · rintro ⟨b', h, hk⟩; cases h; exact hk
  · intro hk; exact ⟨b, rfl, hk⟩
@[go_sem] theorem boolEqW_Bo (neg a b : Bool) : boolEqW neg (Bo a) (Bo b) K = K (Bo ((a == b) != neg)) := by
  apply propext; unfold boolEqW
  constructor
  · rintro ⟨a', b', h, h', hk⟩; cases h; cases h'; exact hk
  · intro hk; exact ⟨a, b, rfl, rfl, hk⟩
@[go_sem] theorem pickW_Bo (t : Bool) (a b : AV) : pickW (Bo t) a b K = K (if t then a else b) := by
  apply propext; unfold pickW
  constructor
  · rintro ⟨t', h, hk⟩; cases h; exact hk
  · intro hk; exact ⟨t, rfl, hk⟩
@[go_sem] theorem condW_Bo (b : Bool) (p q : Prop) : condW (Bo b) p q = ((b = true → p) ∧ (b = false → q)) := rfl
@[go_sem] theorem guardW_Bo {α : Type} (b want : Bool) (f g : α → Prop) (k : α) : guardW (Bo b) want f g k = if b = want then f k else g k := rfl
@[go_sem] theorem guardW_undef {α : Type} (want : Bool) (f g : α → Prop) (k : α) : guardW .undef want f g k = g k := rfl

/-! ### places -/
@[go_sem] theorem ptrW_ptr (b o : Nat) : ptrW (.ptr b o) K = K (.ptr b o) := by
  apply propext; unfold ptrW
  constructor
  · rintro ⟨b', o', h, hk⟩; cases h; exact hk
  · intro hk; exact ⟨b, o, rfl, hk⟩
@[go_sem] theorem fldW_ptr (b o n : Nat) : fldW (.ptr b o) n K = K (.ptr b (o + n)) := by
  apply propext; unfold fldW
  constructor
  · rintro ⟨b', o', h, hk⟩; cases h; exact hk
  · intro hk; exact ⟨b, o, rfl, hk⟩
@[go_sem] theorem idxS_slc (b p len : Nat) (cap : Cap) (k : IntKind) (n : Int) (size : Nat) : idxS (.slc b p len cap) (N k n) size K = (0 ≤ n ∧ n < len ∧ K (.ptr b (p + n.toNat * size))) := by
  apply propext; unfold idxS
  constructor
  · rintro ⟨b', p', l', c', k', n', h, h', h0, h1, hk⟩; cases h; cases h'; exact ⟨h0, h1, hk⟩
  · rintro ⟨h0, h1, hk⟩; exact ⟨b, p, len, cap, k, n, rfl, rfl, h0, h1, hk⟩
@[go_sem] theorem idxA_ptr (b p : Nat) (k : IntKind) (n : Int) (len size : Nat) : idxA (.ptr b p) (N k n) len size K = (0 ≤ n ∧ n < len ∧ K (.ptr b (p + n.toNat * size))) := by
  apply propext; unfold idxA
  constructor
  · rintro ⟨b', p', k', n', h, h', h0, h1, hk⟩; cases h; cases h'; exact ⟨h0, h1, hk⟩
  · rintro ⟨h0, h1, hk⟩; exact ⟨b, p, k, n, rfl, rfl, h0, h1, hk⟩
@[go_sem] theorem part1_agg (cs : List AV) (off : Nat) : part1 (.agg cs) off K = ∃ v, cs[off]? = some v ∧ K v := by
  apply propext; unfold part1
  constructor
  · rintro ⟨cs', v, h, h1, hk⟩; cases h; exact ⟨v, h1, hk⟩
  · rintro ⟨v, h1, hk⟩; exact ⟨cs, v, rfl, h1, hk⟩
@[go_sem] theorem partN_agg (cs : List AV) (off n : Nat) : partN (.agg cs) off n K = (off + n ≤ cs.length ∧ K (.agg ((cs.drop off).take n))) := by
  apply propext; unfold partN
  constructor
  · rintro ⟨cs', h, h1, hk⟩; cases h; exact ⟨h1, hk⟩
  · rintro ⟨h1, hk⟩; exact ⟨cs, rfl, h1, hk⟩
@[go_sem] theorem idxP1_agg (cs : List AV) (k : IntKind) (n : Int) (len : Nat) : idxP1 (.agg cs) (N k n) len K = (0 ≤ n ∧ n < len ∧ ∃ v, cs[n.toNat]? = some v ∧ K v) := by
  apply propext; unfold idxP1
  constructor
  · rintro ⟨cs', k', n', v, h, h', h0, h1, h2, hk⟩; cases h; cases h'; exact ⟨h0, h1, v, h2, hk⟩
  · rintro ⟨h0, h1, v, h2, hk⟩; exact ⟨cs, k, n, v, rfl, rfl, h0, h1, h2, hk⟩
@[go_sem] theorem idxPN_agg (cs : List AV) (k : IntKind) (n : Int) (len size : Nat) : idxPN (.agg cs) (N k n) len size K = (0 ≤ n ∧ n < len ∧ n.toNat * size + size ≤ cs.length ∧ K (.agg ((cs.drop (n.toNat * size)).take size))) := by
  apply propext; unfold idxPN
  constructor
  · rintro ⟨cs', k', n', h, h', h0, h1, h2, hk⟩; cases h; cases h'; exact ⟨h0, h1, h2, hk⟩
  · rintro ⟨h0, h1, h2, hk⟩; exact ⟨cs, k, n, rfl, rfl, h0, h1, h2, hk⟩
@[go_sem] theorem idxB_St (s : List UInt8) (k : IntKind) (n : Int) : idxB (St s) (N k n) K = (0 ≤ n ∧ ∃ b, s[n.toNat]? = some b ∧ K (N .u8 b.toNat)) := by
  apply propext; unfold idxB
  constructor
  · rintro ⟨s', k', n', b, h, h', h0, h1, hk⟩; cases h; cases h'; exact ⟨h0, b, h1, hk⟩
  · rintro ⟨h0, b, h1, hk⟩; exact ⟨s, k, n, b, rfl, rfl, h0, h1, hk⟩
@[go_sem] theorem extW_tup (vs : List AV) (i : Nat) : extW (.tup vs) i K = ∃ v, vs[i]? = some v ∧ K v := by
  apply propext; unfold extW
  constructor
  · rintro ⟨cs', v, h, h1, hk⟩; cases h; exact ⟨v, h1, hk⟩
  · rintro ⟨v, h1, hk⟩; exact ⟨vs, v, rfl, h1, hk⟩
@[go_sem] theorem getW_some (v : AV) : getW (some v) K = K v := by
  apply propext; unfold getW
  constructor
  · rintro ⟨v', h, hk⟩; cases h; exact hk
  · intro hk; exact ⟨v, rfl, hk⟩
@[go_sem] theorem lenW_slc (b o n : Nat) (c : Cap) : lenW (.slc b o n c) K = K (N .i64 n) := by
  apply propext; unfold lenW
  constructor
  · rintro ⟨n', h, hk⟩; cases h; exact hk
  · intro hk; exact ⟨n, rfl, hk⟩
@[go_sem] theorem lenW_emp (b : Nat) : lenW (.emp b) K = K (N .i64 0) := by
  apply propext; unfold lenW
  constructor
  · rintro ⟨n', h, hk⟩; cases h; exact hk
  · intro hk; exact ⟨0, rfl, hk⟩
@[go_sem] theorem lenW_nil : lenW (.sc (.slice none 0 0)) K = K (N .i64 0) := by
  apply propext; unfold lenW
  constructor
  · rintro ⟨n', h, hk⟩; cases h; exact hk
  · intro hk; exact ⟨0, rfl, hk⟩
@[go_sem] theorem lenStr_St (s : List UInt8) : lenStr (St s) K = K (N .i64 s.length) := by
  apply propext; unfold lenStr
  constructor
  · rintro ⟨s', h, hk⟩; cases h; exact hk
  · intro hk; exact ⟨s, rfl, hk⟩
@[go_sem] theorem capW_ex (b o n c : Nat) : capW (.slc b o n (.ex c)) K = K (N .i64 c) := by
  apply propext; unfold capW
  constructor
  · rintro ⟨n', h, hk⟩; cases h; exact hk
  · intro hk; exact ⟨c, rfl, hk⟩
@[go_sem] theorem capW_nil : capW (.sc (.slice none 0 0)) K = K (N .i64 0) := by
  apply propext; unfold capW
  constructor
  · rintro ⟨n', h, hk⟩; cases h; exact hk
  · intro hk; exact ⟨0, rfl, hk⟩
@[go_sem] theorem isStr_St (s : List UInt8) : isStr (St s) K = K (St s) := by
  apply propext; unfold isStr
  constructor
  · rintro ⟨s', h, hk⟩; cases h; exact hk
  · intro hk; exact ⟨s, rfl, hk⟩
@[go_sem] theorem strOfW_some {x : AV} {s : List UInt8} (h : toStr M x = some s) : strOfW M x K = K (St s) := by
  apply propext; unfold strOfW
  constructor
  · rintro ⟨s', h', hk⟩; rw [h] at h'; cases h'; exact hk
  · intro hk; exact ⟨s, h, hk⟩
theorem strW_some {op : BinOp} {a b : List UInt8} {v : AV} (h : strOp op a b = some v) : strW op (St a) (St b) K = K v := by
  apply propext; unfold strW
  constructor
  · rintro ⟨a', b', u, h1, h2, h3, hk⟩; cases h1; cases h2; rw [h] at h3; cases h3; exact hk
  · intro hk; exact ⟨a, b, v, rfl, rfl, h, hk⟩
@[go_sem] theorem strW_eql (a b : List UInt8) : strW .eql (St a) (St b) K = K (Bo (a == b)) := by rw [← bytesEq_iff]; exact strW_some rfl
@[go_sem] theorem strW_neq (a b : List UInt8) : strW .neq (St a) (St b) K = K (Bo (a != b)) := by rw [bne, ← bytesEq_iff]; exact strW_some rfl
@[go_sem] theorem strW_lss (a b : List UInt8) : strW .lss (St a) (St b) K = K (Bo (Op.bytesLess a b)) := strW_some rfl
@[go_sem] theorem strW_leq (a b : List UInt8) : strW .leq (St a) (St b) K = K (Bo (Op.bytesLess a b || a == b)) := by rw [← bytesEq_iff]; exact strW_some rfl
@[go_sem] theorem strW_gtr (a b : List UInt8) : strW .gtr (St a) (St b) K = K (Bo (!(Op.bytesLess a b || a == b))) := by rw [← bytesEq_iff]; exact strW_some rfl
@[go_sem] theorem strW_geq (a b : List UInt8) : strW .geq (St a) (St b) K = K (Bo (!Op.bytesLess a b)) := strW_some rfl
@[go_sem] theorem strW_add (a b : List UInt8) : strW .add (St a) (St b) K = (a.length + b.length ≤ 9223372036854775807 ∧ K (St (a ++ b))) := by
  apply propext; unfold strW
  constructor
  · rintro ⟨a', b', u, h1, h2, h3, hk⟩; cases h1; cases h2
    simp only [strOp] at h3
    split at h3
    · rename_i hb; cases h3; exact ⟨ble_t hb, hk⟩
    · cases h3
  · rintro ⟨h0, hk⟩; exact ⟨a, b, _, rfl, rfl, by simp only [strOp, ble_iff.2 h0], hk⟩
theorem refEqW_some {neg : Bool} {tag : Nat} {x y : AV} {r : Bool} (ht : tagOf x = tag) (h : refEq x y = some r) : refEqW neg tag x y K = K (Bo (r != neg)) := by
  apply propext; unfold refEqW
  constructor
  · rintro ⟨_, r', h', hk⟩; rw [h] at h'; cases h'; exact hk
  · intro hk; exact ⟨ht, r, h, hk⟩
@[go_sem] theorem refEqW_nil_nil (neg : Bool) : refEqW neg 2 (.sc (.slice none 0 0)) (.sc (.slice none 0 0)) K = K (Bo (!neg)) := (refEqW_some (tag := 2) (r := true) rfl rfl).trans (by cases neg <;> rfl)
@[go_sem] theorem refEqW_emp_nil (neg : Bool) (b : Nat) : refEqW neg 2 (.emp b) (.sc (.slice none 0 0)) K = K (Bo neg) := (refEqW_some (tag := 2) (r := false) rfl rfl).trans (by cases neg <;> rfl)
@[go_sem] theorem refEqW_slc_nil (neg : Bool) (b o n : Nat) (c : Cap) : refEqW neg 2 (.slc b o n c) (.sc (.slice none 0 0)) K = K (Bo neg) := (refEqW_some (tag := 2) (r := false) rfl rfl).trans (by cases neg <;> rfl)
@[go_sem] theorem refEqW_ptr_nil (neg : Bool) (b o : Nat) : refEqW neg 1 (.ptr b o) (.sc (.pointer none)) K = K (Bo neg) := (refEqW_some (tag := 1) (r := false) rfl rfl).trans (by cases neg <;> rfl)
@[go_sem] theorem refEqW_nilp_nil (neg : Bool) : refEqW neg 1 (.sc (.pointer none)) (.sc (.pointer none)) K = K (Bo (!neg)) := (refEqW_some (tag := 1) (r := true) rfl rfl).trans (by cases neg <;> rfl)
@[go_sem] theorem refEqW_map_nil (neg : Bool) (b : Nat) : refEqW neg 3 (.map b) (.sc (.map none)) K = K (Bo neg) := (refEqW_some (tag := 3) (r := false) rfl rfl).trans (by cases neg <;> rfl)
@[go_sem] theorem refEqW_fn_nil (neg : Bool) (f : Fn) (xs ys : List AV) : refEqW neg 4 (.fn f xs ys) (.sc .nilFunc) K = K (Bo neg) := (refEqW_some (tag := 4) (r := false) rfl rfl).trans (by cases neg <;> rfl)
@[go_sem] theorem aggEqW_agg (neg : Bool) (ks : List Nat) (cs ds : List AV) : aggEqW neg ks (.agg cs) (.agg ds) K = (cs.length = ks.length ∧ ds.length = ks.length ∧ ∃ r, flatEq ks cs ds = some r ∧ K (Bo (r != neg))) := by
  apply propext; unfold aggEqW
  constructor
  · rintro ⟨a', b', r, h1, h2, h3, h4, h5, hk⟩; cases h1; cases h2; exact ⟨h3, h4, r, h5, hk⟩
  · rintro ⟨h3, h4, r, h5, hk⟩; exact ⟨cs, ds, r, rfl, rfl, h3, h4, h5, hk⟩
@[go_sem] theorem callV_fn (C : FuncId → CallT) (g : FuncId) (first cap args : List AV) : callV C (.fn (.func g) first cap) args M KQ = C g (first ++ args ++ cap) M KQ := by
  apply propext; unfold callV
  constructor
  · rintro ⟨g', f', c', h, hk⟩; cases h; exact hk
  · intro hk; exact ⟨g, first, cap, rfl, hk⟩
@[go_sem] theorem buildW_eq (cs : List AV) (parts : List (Nat × Nat × AV)) : buildW cs parts K = ∃ cs', fillL cs parts = some cs' ∧ K (.agg cs') := rfl
@[go_sem] theorem newW_eq (x : RB) (mk : Nat → AV) : newW x mk M KQ = KQ (mk M.next) (M.push x) := rfl
@[go_sem] theorem newR_eq (x : RB) (mk : Nat → AV) (k : KR) : newR x mk M k = k (mk M.next) (M.push x) (some M.next) := rfl
@[go_sem] theorem joinW_eq (f : (List AV → RM → Prop) → Prop) (g : List AV → RM → Prop) : joinW f g = f g := rfl
@[go_sem] theorem nthD_zero (x : AV) (xs : List AV) : nthD (x :: xs) 0 = x := rfl
@[go_sem] theorem nthD_succ (x : AV) (xs : List AV) (n : Nat) : nthD (x :: xs) (n + 1) = nthD xs n := rfl
@[go_sem] theorem sameB_some (b : Nat) (x : RB) (mk : Nat → AV) (v : AV) : sameB (some b) M x mk v = (M.heap b = some x ∧ mk b = v) := rfl
end

/-- A loop by an invariant and a measure. -/
theorem loopW_inv {body : (List AV → RM → Prop) → List AV → RM → Prop} {xs : List AV} {M : RM} (I : Nat → List AV → RM → Prop) (n : Nat) (h0 : I n xs M)
    (hb : ∀ m ys M', I m ys M' → body (fun zs M'' => ∃ m', m' < m ∧ I m' zs M'') ys M') : loopW body xs M := ⟨I, n, h0, hb⟩

/-! ### memory -/
section
variable {M M' : RM}
theorem RM.cells_row {b : Nat} {l : List AV} {opn : Bool} {el fz : Nat} (h : M.heap b = some (.row l opn el fz)) : M.cells b = some l := by simp [RM.cells, h]
theorem RM.cell_row {b o : Nat} {l : List AV} {opn : Bool} {el fz : Nat} (h : M.heap b = some (.row l opn el fz)) : M.cell b o = l[o]? := by simp [RM.cell, RM.cells_row h]
theorem RM.loads_row {b o k : Nat} {l : List AV} {opn : Bool} {el fz : Nat} (h : M.heap b = some (.row l opn el fz)) (hk : o + k ≤ l.length) : M.loads b o k = some ((l.drop o).take k) := by
  simp [RM.loads, RM.cells_row h, hk]
theorem RM.stores_row {b o : Nat} {l vs : List AV} {opn : Bool} {el fz : Nat} (h : M.heap b = some (.row l opn el fz)) (h1 : o + vs.length ≤ l.length) (h2 : fz ≤ o) (h3 : vs.all oneCell = true) :
    M.stores b o vs = some (M.put b (.row (l.take o ++ vs ++ l.drop (o + vs.length)) opn el fz)) := by
  simp only [RM.stores, h]
  rw [if_pos ⟨h1, h2, h3⟩]

/-- All blocks but some are as they were. -/
structure Keep (bs : List Nat) (M M' : RM) : Prop where
  base : M'.base = M.base
  next : M.next ≤ M'.next
  heap : ∀ c, c < M.next → c ∉ bs → M'.heap c = M.heap c

theorem Keep.refl (bs : List Nat) (M : RM) : Keep bs M M := ⟨rfl, Nat.le_refl _, fun _ _ _ => rfl⟩
theorem Keep.trans {bs : List Nat} {M1 M2 : RM} (h : Keep bs M M1) (k : Keep bs M1 M2) : Keep bs M M2 :=
  ⟨k.base.trans h.base, Nat.le_trans h.next k.next, fun c hc hb => (k.heap c (Nat.lt_of_lt_of_le hc h.next) hb).trans (h.heap c hc hb)⟩
theorem Keep.push {bs : List Nat} (h : Keep bs M M') (x : RB) : Keep bs M (M'.push x) :=
  ⟨h.base, Nat.le_succ_of_le h.next, fun c hc hb => by
    have := h.next
    simp only [RM.push]; rw [if_neg (by omega)]; exact h.heap c hc hb⟩
theorem Keep.put {bs : List Nat} (h : Keep bs M M') {b : Nat} (x : RB) (hb : M.next ≤ b ∨ b ∈ bs) : Keep bs M (M'.put b x) :=
  ⟨h.base, h.next, fun c hc hcb => by
    simp only [RM.put]; rw [if_neg]
    · exact h.heap c hc hcb
    · rintro rfl; rcases hb with hb | hb
      · omega
      · exact hcb hb⟩
theorem Keep.del {bs : List Nat} (h : Keep bs M M') {b : Nat} (hb : M.next ≤ b ∨ b ∈ bs) : Keep bs M (M'.del b) :=
  ⟨h.base, h.next, fun c hc hcb => by
    simp only [RM.del]; rw [if_neg]
    · exact h.heap c hc hcb
    · rintro rfl; rcases hb with hb | hb
      · omega
      · exact hcb hb⟩
theorem Keep.mono {bs cs : List Nat} (h : Keep bs M M') (hs : ∀ b ∈ bs, b ∈ cs) : Keep cs M M' := ⟨h.base, h.next, fun c hc hb => h.heap c hc fun h => hb (hs c h)⟩
/-- Blocks that were made since then may change. -/
theorem Keep.then_new {bs : List Nat} {M1 M2 : RM} {cs : List Nat} (h : Keep bs M M1) (k : Keep cs M1 M2) (hn : ∀ c ∈ cs, M.next ≤ c ∨ c ∈ bs) : Keep bs M M2 :=
  ⟨k.base.trans h.base, Nat.le_trans h.next k.next, fun c hc hb => by
    rw [k.heap c (Nat.lt_of_lt_of_le hc h.next) (fun hm => by rcases hn c hm with h1 | h1; omega; exact hb h1), h.heap c hc hb]⟩
theorem Keep.cells {bs : List Nat} (h : Keep bs M M') {b : Nat} (hlt : b < M.next) (hb : b ∉ bs) : M'.cells b = M.cells b := by
  simp only [RM.cells, h.heap b hlt hb, RM.lo, h.base]
theorem Keep.cell {bs : List Nat} (h : Keep bs M M') {b o : Nat} (hlt : b < M.next) (hb : b ∉ bs) : M'.cell b o = M.cell b o := by
  simp only [RM.cell, h.cells hlt hb]
theorem Keep.loads {bs : List Nat} (h : Keep bs M M') {b o k : Nat} (hlt : b < M.next) (hb : b ∉ bs) : M'.loads b o k = M.loads b o k := by
  simp only [RM.loads, h.cells hlt hb]

@[go_sem] theorem RM.push_next (x : RB) : (M.push x).next = M.next + 1 := rfl
@[go_sem] theorem RM.put_next (b : Nat) (x : RB) : (M.put b x).next = M.next := rfl
@[go_sem] theorem RM.del_next (b : Nat) : (M.del b).next = M.next := rfl
@[go_sem] theorem RM.push_new (x : RB) : (M.push x).heap M.next = some x := by simp [RM.push]
theorem RM.push_old {x : RB} {c : Nat} (h : c ≠ M.next) : (M.push x).heap c = M.heap c := by simp [RM.push, h]
theorem RM.push_lt {x : RB} {c : Nat} (h : c < M.next) : (M.push x).heap c = M.heap c := RM.push_old (by omega)
@[go_sem] theorem RM.put_same (b : Nat) (x : RB) : (M.put b x).heap b = some x := by simp [RM.put]
theorem RM.put_other {b c : Nat} {x : RB} (h : c ≠ b) : (M.put b x).heap c = M.heap c := by simp [RM.put, h]
end
end Go.Ab
/- Slices that are read, and slices that are one's own. By an AI agent. -/
set_option linter.unusedVariables false
set_option linter.unusedSimpArgs false
namespace Go.Ab
open Go Go.RowKit

abbrev nilS : AV := .sc (.slice none 0 0)

/-- A slice of n elements whose cells are cs. -/
inductive SlR (M : RM) (size : Nat) : AV → List AV → Nat → Prop
  | nil : SlR M size nilS [] 0
  | emp (b : Nat) : SlR M size (.emp b) [] 0
  | slc (b o n : Nat) (cap : Cap) (cs : List AV) : b < M.next → M.loads b o (n * size) = some cs → SlR M size (.slc b o n cap) cs n

section
variable {M M' : RM} {size : Nat} {v : AV} {cs : List AV} {n : Nat}

theorem loads_len {b o k : Nat} {cs : List AV} (h : M.loads b o k = some cs) : cs.length = k := by
  unfold RM.loads at h
  split at h <;> first | (cases h; done) | skip
  split at h <;> first | (cases h; done) | skip
  rename_i hle
  have := Option.some.inj h
  rw [← this, List.length_take, List.length_drop]; omega
theorem loads_get {b o k : Nat} {cs : List AV} (h : M.loads b o k = some cs) (i : Nat) (hi : i < k) : M.cell b (o + i) = cs[i]? := by
  unfold RM.loads at h
  unfold RM.cell
  split at h <;> first | (cases h; done) | skip
  rename_i l hl
  split at h <;> first | (cases h; done) | skip
  cases h
  simp only [hl, Option.bind_some]
  rw [List.getElem?_take, if_pos hi, List.getElem?_drop]
theorem loads_sub {b o k : Nat} {cs : List AV} (h : M.loads b o k = some cs) (i j : Nat) (hij : i + j ≤ k) : M.loads b (o + i) j = some ((cs.drop i).take j) := by
  unfold RM.loads at h ⊢
  cases hl : M.cells b with
  | none => rw [hl] at h; cases h
  | some l =>
    rw [hl] at h
    simp only at h ⊢
    split at h
    · rename_i hle
      have h := Option.some.inj h
      subst h
      rw [if_pos (by omega), List.drop_take, List.drop_drop, List.take_take]
      congr 2
      omega
    · cases h
theorem loads_zero {b o : Nat} {l : List AV} (h : M.cells b = some l) (ho : o ≤ l.length) : M.loads b o 0 = some [] := by
  simp [RM.loads, h, ho]

theorem SlR.length (h : SlR M size v cs n) : cs.length = n * size := by
  cases h with
  | nil => exact (Nat.zero_mul _).symm
  | emp => exact (Nat.zero_mul _).symm
  | slc b o n cap cs hb0 hl => exact loads_len hl
theorem SlR.len (h : SlR M size v cs n) {K : AV → Prop} : lenW v K = K (N .i64 n) := by
  cases h with
  | nil => exact lenW_nil
  | emp b => exact lenW_emp b
  | slc b o n cap cs hb0 hl => exact lenW_slc b o n cap
theorem SlR.lenSl (h : SlR M size v cs n) : lenSl v = some n := by
  cases h <;> rfl
theorem SlR.newL (h : SlR M size v cs n) (zs : List AV) : newL M size zs false v = some (n, cs) := by
  cases h with
  | nil => rfl
  | emp b => rfl
  | slc b o n cap cs hb0 hl => simp only [Go.Ab.newL, hl]
theorem SlR.pos (h : SlR M size v cs n) (hn : 0 < n) : ∃ b o cap, v = .slc b o n cap ∧ b < M.next ∧ M.loads b o (n * size) = some cs := by
  cases h with
  | nil => omega
  | emp b => omega
  | slc b o n cap cs hb0 hl => exact ⟨b, o, cap, rfl, hb0, hl⟩
theorem SlR.toStr (h : SlR M 1 v cs n) {l : List UInt8} (hb : mapO byteOf cs = some l) : toStr M v = some l := by
  cases h with
  | nil => simp [mapO] at hb; subst hb; rfl
  | emp b => simp [mapO] at hb; subst hb; rfl
  | slc b o n cap cs hb0 hl =>
    rw [Nat.mul_one] at hl
    simp only [Go.Ab.toStr, hl]; exact hb
/-- The block that a slice lies in. -/
def blkOf : AV → List Nat
  | .slc b _ _ _ => [b]
  | _ => []
theorem SlR.keep {bs : List Nat} (h : SlR M size v cs n) (hk : Keep bs M M') (hb : ∀ b ∈ blkOf v, b ∉ bs) : SlR M' size v cs n := by
  cases h with
  | nil => exact .nil
  | emp b => exact .emp b
  | slc b o n cap cs hb0 hl =>
    exact .slc b o n cap cs (Nat.lt_of_lt_of_le hb0 hk.next) (by rw [hk.loads hb0 (hb b (by simp [blkOf]))]; exact hl)

/-- Element i (of one cell each). -/
theorem SlR.get1 (h : SlR M 1 v cs n) {i : Nat} (hi : i < n) {k : IntKind} {K : AV → Prop} (hk : ∀ b o, (∀ K' : AV → Prop, (∀ x, cs[i]? = some x → K' x) → load1 M (.ptr b o) K') → K (.ptr b o)) : idxS v (N k i) 1 K := by
  obtain ⟨b, o, cap, rfl, _, hl⟩ := h.pos (by omega)
  rw [idxS_slc]
  refine ⟨by omega, by omega, ?_⟩
  simp only [Int.toNat_natCast, Nat.mul_one]
  refine hk b (o + i) fun K' hK' => ?_
  rw [load1_ptr]
  have hc := loads_get hl i (by omega)
  have hlt : i < cs.length := by rw [loads_len hl]; omega
  exact ⟨cs[i], by rw [hc]; simp [hlt], hK' _ (by simp [hlt])⟩

/-- A slice of one's own (made since 'base'), that may be appended to. -/
inductive Own (M : RM) (base el size : Nat) : AV → List AV → Nat → Prop
  | nil : Own M base el size nilS [] 0
  | ex0 (b o : Nat) : base ≤ b → b < M.next → (∃ l, M.cells b = some l ∧ o ≤ l.length) → Own M base el size (.slc b o 0 (.ex 0)) [] 0
  | op (b n : Nat) (cs : List AV) : base ≤ b → b < M.next → M.heap b = some (.row cs true el 0) → cs.length = n * size → Own M base el size (.slc b 0 n (.op size)) cs n

theorem Own.slR {base el : Nat} (h : Own M base el size v cs n) : SlR M size v cs n := by
  cases h with
  | nil => exact .nil
  | ex0 b o hb hlt hc =>
    obtain ⟨l, hl, ho⟩ := hc
    exact .slc b o 0 _ [] hlt (by rw [Nat.zero_mul]; exact loads_zero hl ho)
  | op b n cs hb hlt hh hl =>
    refine .slc b 0 n _ cs hlt ?_
    rw [RM.loads_row hh (by omega)]
    simp [← hl]
theorem Own.blk {base el : Nat} (h : Own M base el size v cs n) : ∀ b ∈ blkOf v, base ≤ b ∧ b < M.next := by
  cases h with
  | nil => intro b hb; simp [blkOf] at hb
  | ex0 b o hb hlt hc => intro c hc; simp [blkOf] at hc; subst hc; exact ⟨hb, hlt⟩
  | op b n cs hb hlt hh hl => intro c hc; simp [blkOf] at hc; subst hc; exact ⟨hb, hlt⟩
theorem Own.keep {base el : Nat} {bs : List Nat} (h : Own M base el size v cs n) (hk : Keep bs M M') (hb : ∀ b ∈ blkOf v, b ∉ bs) : Own M' base el size v cs n := by
  cases h with
  | nil => exact .nil
  | ex0 b o h1 hlt hc => exact .ex0 b o h1 (Nat.lt_of_lt_of_le hlt hk.next) (by rw [hk.cells hlt (hb b (by simp [blkOf]))]; exact hc)
  | op b n cs h1 hlt hh hl => exact .op b n cs h1 (Nat.lt_of_lt_of_le hlt hk.next) (by rw [hk.heap b hlt (hb b (by simp [blkOf]))]; exact hh) hl
theorem Own.mono {base base' el : Nat} (h : Own M base el size v cs n) (hb : base' ≤ base) : Own M base' el size v cs n := by
  cases h with
  | nil => exact .nil
  | ex0 b o h1 hlt hc => exact .ex0 b o (Nat.le_trans hb h1) hlt hc
  | op b n cs h1 hlt hh hl => exact .op b n cs (Nat.le_trans hb h1) hlt hh hl

/-- append to one's own. -/
theorem app_own {base el bytes : Nat} {zs : List AV} {zeros : Bool} {x : AV} {m : Nat} {ds : List AV} {K : PostV} (h : Own M base el size v cs n) (hbase : base ≤ M.next) (hs : 1 ≤ size) (hx : newL M size zs zeros x = some (m, ds)) (hd : ds.length = m * size)
    (h1 : ds.all oneCell = true) (hb : (n + m) * bytes ≤ 140737488355328) (hb2 : n + m ≤ 140737488355328)
    (hK : ∀ v' M', Own M' base el size v' (cs ++ ds) (n + m) → Keep (blkOf v) M M' → M.next ≤ M'.next → (v' = v ∨ ∀ b ∈ blkOf v', M.next ≤ b) → K v' M') : appW el size bytes zs zeros v x M K := by
  have hmb : m * bytes ≤ 140737488355328 := Nat.le_trans (Nat.mul_le_mul_right _ (by omega)) hb
  refine ⟨m, ds, hx, hmb, by omega, ?_⟩
  cases h with
  | nil =>
    by_cases hm : m = 0
    · subst hm
      have : ds = [] := List.eq_nil_of_length_eq_zero (by simpa using hd)
      subst this
      exact ⟨nilS, M, by simp [appM], hK _ _ .nil (Keep.refl _ _) (Nat.le_refl _) (.inl rfl)⟩
    · refine ⟨.slc M.next 0 m (.op size), M.push (.row ds true el 0), by simp only [appM, if_neg hm, h1, if_true], hK _ _ ?_ ((Keep.refl _ _).push _) (by simp [RM.push]) (.inr fun b hb => by simp [blkOf] at hb; omega)⟩
      simp only [List.nil_append, Nat.zero_add]
      exact .op _ _ _ hbase (by simp [RM.push]) (RM.push_new _) hd
  | ex0 b o hb0 hlt hc =>
    obtain ⟨l, hl, ho⟩ := hc
    by_cases hm : m = 0
    · subst hm
      have : ds = [] := List.eq_nil_of_length_eq_zero (by simpa using hd)
      subst this
      exact ⟨_, M, by simp [appM], hK _ _ (.ex0 b o hb0 hlt ⟨l, hl, ho⟩) (Keep.refl _ _) (Nat.le_refl _) (.inl rfl)⟩
    · refine ⟨.slc M.next 0 m (.op size), M.push (.row ds true el 0), ?_, hK _ _ ?_ ((Keep.refl _ _).push _) (by simp [RM.push]) (.inr fun b hb => by simp [blkOf] at hb; omega)⟩
      · have hl0 : M.loads b o (0 * size) = some [] := by rw [Nat.zero_mul]; exact loads_zero hl ho
        simp only [appM, if_neg hm]
        rw [if_neg (by omega), hl0]
        simp only [Nat.zero_add, List.nil_append]
        rw [if_pos ⟨hmb, by omega, h1⟩]
      · simp only [List.nil_append, Nat.zero_add]
        exact .op _ _ _ hbase (by simp [RM.push]) (RM.push_new _) hd
  | op b n cs hb0 hlt hh hl =>
    by_cases hm : m = 0
    · subst hm
      have : ds = [] := List.eq_nil_of_length_eq_zero (by simpa using hd)
      subst this
      exact ⟨_, M, by simp [appM], hK _ _ (by simpa using .op b n cs hb0 hlt hh hl) (Keep.refl _ _) (Nat.le_refl _) (.inl rfl)⟩
    · have hpos : 1 ≤ m * size := Nat.mul_pos (by omega) hs
      have hsum : (n + m) * size = n * size + m * size := Nat.add_mul _ _ _
      refine ⟨.slc M.next 0 (n + m) (.op size), (M.del b).push (.row (cs ++ ds) true el 0), ?_, hK _ _ ?_ (((Keep.refl _ _).del (.inr (by simp [blkOf]))).push _) (by simp [RM.push, RM.del]) (.inr fun b hb => by simp [blkOf] at hb; omega)⟩
      · simp only [appM, if_neg hm, hh, and_self, if_true]
        rw [if_neg (by omega), if_pos ⟨trivial, hb, hb2, trivial, hl, Nat.zero_le _, h1⟩]
      · exact .op _ _ _ (show base ≤ M.next from hbase) (by simp [RM.push, RM.del]) (by simp [RM.push, RM.del]) (by rw [List.length_append, hl, hd, hsum])

theorem SlR.refEq (h : SlR M size v cs n) (neg : Bool) : (v = nilS ∧ ∀ K : AV → Prop, refEqW neg 2 v nilS K = K (Bo (!neg))) ∨ (v ≠ nilS ∧ ∀ K : AV → Prop, refEqW neg 2 v nilS K = K (Bo neg)) := by
  cases h with
  | nil => exact .inl ⟨rfl, fun _ => refEqW_nil_nil neg⟩
  | emp b => exact .inr ⟨by (intro h; cases h), fun _ => refEqW_emp_nil neg b⟩
  | slc b o n cap cs hb0 hl => exact .inr ⟨by (intro h; cases h), fun _ => refEqW_slc_nil neg b o n cap⟩
/-- An empty literal of one's own. -/
theorem Own.lit {base el T : Nat} (M : RM) (h : base ≤ M.next) : Own (M.push (.row [] false T 0)) base el size (.slc M.next 0 0 (.ex 0)) [] 0 :=
  .ex0 _ _ h (by simp [RM.push]) ⟨[], by simp [RM.cells, RM.push], Nat.le_refl _⟩
theorem Own.ne_nil {base el : Nat} (h : Own M base el size v cs n) (hn : v ≠ nilS) : ∃ b o cap, v = .slc b o n cap := by
  cases h with
  | nil => exact absurd rfl hn
  | ex0 b o => exact ⟨_, _, _, rfl⟩
  | op b n cs => exact ⟨_, _, _, rfl⟩
end
end Go.Ab
/- Plain arithmetic of Go's integers. By an AI agent. -/
set_option maxRecDepth 4000
set_option linter.unusedVariables false
set_option linter.unusedSimpArgs false
namespace Go.Ab
open Go

theorem wrap_u8 (n : Nat) : IntKind.wrap .u8 (n : Int) = ((n % 256 : Nat) : Int) := by
  simp only [IntKind.wrap, IntKind.bits, IntKind.signed, IntKind.max, IntKind.min]
  simp
theorem wrap_u32 (n : Nat) : IntKind.wrap .u32 (n : Int) = ((n % 4294967296 : Nat) : Int) := by
  simp only [IntKind.wrap, IntKind.bits, IntKind.signed, IntKind.max, IntKind.min]
  simp
theorem wrap_u64 (n : Nat) : IntKind.wrap .u64 (n : Int) = ((n % 18446744073709551616 : Nat) : Int) := by
  simp only [IntKind.wrap, IntKind.bits, IntKind.signed, IntKind.max, IntKind.min]
  simp
theorem wrap_u8_id {n : Int} (h0 : 0 ≤ n) (h : n < 256) : IntKind.wrap .u8 n = n := by
  obtain ⟨m, rfl⟩ := Int.eq_ofNat_of_zero_le h0
  rw [wrap_u8, Nat.mod_eq_of_lt (by omega)]
theorem wrap_u64_id {n : Int} (h0 : 0 ≤ n) (h : n < 18446744073709551616) : IntKind.wrap .u64 n = n := by
  obtain ⟨m, rfl⟩ := Int.eq_ofNat_of_zero_le h0
  rw [wrap_u64, Nat.mod_eq_of_lt (by omega)]
theorem wrap_i64_id {n : Int} (h0 : -9223372036854775808 ≤ n) (h : n < 9223372036854775808) : IntKind.wrap .i64 n = n := by
  rw [IntKind.wrap_i64]; omega
theorem or_nat (k : Nat) (a b : Nat) : (BitVec.ofInt k (a : Int) ||| BitVec.ofInt k (b : Int)).toNat = (a ||| b) % 2 ^ k := by
  rw [BitVec.toNat_or, BitVec.ofInt_natCast, BitVec.ofInt_natCast, BitVec.toNat_ofNat, BitVec.toNat_ofNat, ← Nat.or_mod_two_pow]
theorem and_nat (k : Nat) (a b : Nat) : (BitVec.ofInt k (a : Int) &&& BitVec.ofInt k (b : Int)).toNat = (a &&& b) % 2 ^ k := by
  rw [BitVec.toNat_and, BitVec.ofInt_natCast, BitVec.ofInt_natCast, BitVec.toNat_ofNat, BitVec.toNat_ofNat, ← Nat.and_mod_two_pow]
theorem xor_nat (k : Nat) (a b : Nat) : (BitVec.ofInt k (a : Int) ^^^ BitVec.ofInt k (b : Int)).toNat = (a ^^^ b) % 2 ^ k := by
  rw [BitVec.toNat_xor, BitVec.ofInt_natCast, BitVec.ofInt_natCast, BitVec.toNat_ofNat, BitVec.toNat_ofNat, ← Nat.xor_mod_two_pow]
theorem fdiv_nat (a b : Nat) : ((a : Int).fdiv (b : Int)) = ((a / b : Nat) : Int) := by
  rw [Int.fdiv_eq_ediv_of_nonneg _ (by omega)]; rfl
def ubits : IntKind → Nat
  | .u8 => 8 | .u16 => 16 | .u32 => 32 | _ => 64
def unsig : IntKind → Bool
  | .u8 | .u16 | .u32 | .u64 => true
  | _ => false
theorem wrap_uns {k : IntKind} (h : unsig k = true) (n : Nat) : k.wrap (n : Int) = ((n % 2 ^ ubits k : Nat) : Int) := by
  cases k <;> simp [unsig] at h <;> (simp only [IntKind.wrap, IntKind.bits, IntKind.signed, ubits]; simp)
theorem bits_uns (k : IntKind) (h : unsig k = true) : k.bits = ubits k := by cases k <;> simp [unsig] at h <;> rfl
theorem orI_nat {k : IntKind} (h : unsig k = true) (a b : Nat) : orI k a b = (((a ||| b) % 2 ^ ubits k : Nat) : Int) := by
  unfold orI
  rw [or_nat, wrap_uns h, bits_uns k h, Nat.mod_mod]
theorem andI_nat {k : IntKind} (h : unsig k = true) (a b : Nat) : andI k a b = (((a &&& b) % 2 ^ ubits k : Nat) : Int) := by
  unfold andI
  rw [and_nat, wrap_uns h, bits_uns k h, Nat.mod_mod]
theorem xorI_nat {k : IntKind} (h : unsig k = true) (a b : Nat) : xorI k a b = (((a ^^^ b) % 2 ^ ubits k : Nat) : Int) := by
  unfold xorI
  rw [xor_nat, wrap_uns h, bits_uns k h, Nat.mod_mod]
theorem shrI_nat (k : IntKind) (a b : Nat) (hb : b ≤ k.bits) : shrI k a b = ((a / 2 ^ b : Nat) : Int) := by
  unfold shrI
  rw [Int.toNat_natCast, Nat.min_eq_left hb, ← fdiv_nat, Int.natCast_pow]; rfl
theorem shlI_nat {k : IntKind} (h : unsig k = true) (a b : Nat) (hb : b ≤ k.bits) : shlI k a b = ((a * 2 ^ b % 2 ^ ubits k : Nat) : Int) := by
  unfold shlI
  rw [Int.toNat_natCast, Nat.min_eq_left hb, ← wrap_uns h, Int.natCast_mul, Int.natCast_pow]
  rfl
theorem or_128 {x : Nat} (h : x < 256) : x ||| 128 = x % 128 + 128 := by
  have : ∀ x : Fin 256, x.val ||| 128 = x.val % 128 + 128 := by decide
  exact this ⟨x, h⟩
theorem u8_nat (n : Nat) : (UInt8.ofNat n).toNat = n % 256 := by simp
end Go.Ab
/- Contracts: bytes. By an AI agent. -/
set_option linter.unusedVariables false
set_option linter.unusedSimpArgs false
namespace Go.Ab.Dot
open Go Go.Ab

theorem clone_any {T size bytes : Nat} {zs : List AV} {M0 : RM} {a0 : AV} {cs : List AV} {n : Nat} (h : SlR M0 size a0 cs n) (h1 : cs.all oneCell = true) (hs : 1 ≤ size) (hn : n * bytes ≤ 140737488355328) (hn2 : n ≤ 140737488355328) {Q : PostV}
    (hQ : ∀ v M', Own M' M0.next T size v cs n → Keep [] M0 M' → Q v M') :
    refEqW false 2 a0 nilS fun t4 => condW t4 (Q nilS M0) (rowsW T 0 zs [] fun r f => newW r f M0 fun t5 M => appW T size bytes zs false t5 a0 M fun t7 M_0 => Q t7 M_0) := by
  rcases h.refEq false with ⟨rfl, e⟩ | ⟨hne, e⟩
  · rw [e]
    cases h
    exact ⟨fun _ => hQ _ _ .nil (Keep.refl _ _), fun h => by simp at h⟩
  · rw [e]
    refine ⟨fun h => by simp at h, fun _ => ⟨[], rfl, ?_⟩⟩
    have hk : Keep [] M0 (M0.push (.row [] false T 0)) := (Keep.refl _ _).push _
    refine app_own (base := M0.next) (Own.lit M0 (Nat.le_refl _)) (by simp [RM.push]) hs ((h.keep hk (by simp)).newL _) h.length h1 (by rw [Nat.zero_add]; exact hn) (by omega) ?_
    intro v' M' ho hk' hnx hv
    exact hQ v' M' (by simpa using ho) (hk.then_new hk' (by simp [blkOf]))

def CloneC (T size bytes : Nat) (c : CallT) : Prop := ∀ {M0 : RM} {a0 : AV} {cs : List AV} {n : Nat}, SlR M0 size a0 cs n → cs.all oneCell = true → n * bytes ≤ 140737488355328 → n ≤ 140737488355328 → ∀ {Q : PostV},
  (∀ v M', Own M' M0.next T size v cs n → Keep [] M0 M' → Q v M') → c [a0] M0 Q

def uintB (v : Nat) : List UInt8 := if v < 128 then [UInt8.ofNat v] else UInt8.ofNat (v % 128 + 128) :: uintB (v / 128)
 termination_by v
 decreasing_by omega

theorem uintB_lt {v : Nat} (h : v < 128) : uintB v = [UInt8.ofNat v] := by rw [uintB, if_pos h]
theorem uintB_ge {v : Nat} (h : ¬ v < 128) : uintB v = UInt8.ofNat (v % 128 + 128) :: uintB (v / 128) := by rw [uintB, if_neg h]
theorem uintB_len : ∀ (k v : Nat), 1 ≤ k → v < 128 ^ k → (uintB v).length ≤ k
  | 0, _, h, _ => by omega
  | k + 1, v, _, h => by
    by_cases hv : v < 128
    · rw [uintB_lt hv]; simp
    · rw [uintB_ge hv]
      simp only [List.length_cons]
      have : 1 ≤ k := by
        rcases k with _ | k
        · simp at h; omega
        · omega
      have := uintB_len k (v / 128) this (by rw [Nat.pow_succ] at h; omega)
      omega

abbrev bytesC (l : List UInt8) : List AV := l.map fun b => N .u8 b.toNat
theorem bytesC_one (l : List UInt8) : (bytesC l).all oneCell = true := by simp [oneCell]

def UintC (T : Nat) (c : CallT) : Prop := ∀ {M0 : RM} {a0 : AV} {cs : List AV} {n v : Nat}, SlR M0 1 a0 cs n → cs.all oneCell = true → n + 10 ≤ 140737488355328 → v < 2 ^ 64 → ∀ {Q : PostV},
  (∀ r M', Own M' M0.next T 1 r (cs ++ bytesC (uintB v)) (n + (uintB v).length) → Keep [] M0 M' → Q r M') → c [a0, N .u64 v] M0 Q

/-- One byte is appended to one's own bytes. -/
theorem app_byte {T base : Nat} {M : RM} {b : AV} {cs : List AV} {n : Nat} {x : AV} {K : PostV} (ho : Own M base T 1 b cs n) (hb : base ≤ M.next) (hx : oneCell x = true) (hc : x.cells = [x]) (hn : n + 1 ≤ 140737488355328)
    (hK : ∀ v' M', Own M' base T 1 v' (cs ++ [x]) (n + 1) → Keep (blkOf b) M M' → K v' M') : rowsW T 1 [N .u8 0] [(0, 1, x)] fun r f => newW r f M fun t M1 => appW T 1 1 [N .u8 0] false b t M1 K := by
  refine ⟨[x], by simp [fillO, repL, hc, hx], ?_⟩
  dsimp only
  rw [newW_eq]
  have hk : Keep [] M (M.push (.row [x] false T 0)) := (Keep.refl _ _).push _
  have hs : SlR (M.push (.row [x] false T 0)) 1 (.slc M.next 0 1 (.ex 1)) [x] 1 := .slc _ _ _ _ _ (by simp [RM.push]) (RM.loads_row (RM.push_new _) (by simp))
  refine app_own (ho.keep hk (by simp)) (Nat.le_trans hb hk.next) (Nat.le_refl _) (hs.newL _) (by simp) (by simpa using hx) (by omega) (by omega) ?_
  intro v' M' h1 h2 h3 h4
  exact hK v' M' h1 ((hk.mono (by simp)).trans h2)

theorem uint_hi (m : Nat) : N .u8 (orI .u8 (IntKind.u8.wrap (m : Int)) 128) = N .u8 ((UInt8.ofNat (m % 128 + 128)).toNat : Int) := by
  have e1 : (128 : Int) = ((128 : Nat) : Int) := rfl
  rw [e1, wrap_u8, orI_nat rfl, u8_nat, or_128 (by omega)]
  simp only [ubits]
  congr 2
  omega
theorem uint_lo {m : Nat} (h : m < 128) : N .u8 (IntKind.u8.wrap (m : Int)) = N .u8 ((UInt8.ofNat m).toNat : Int) := by
  rw [wrap_u8, u8_nat]
theorem shr7 (m : Nat) : N .u64 (shrI .u64 (m : Int) 7) = N .u64 ((m / 128 : Nat) : Int) := by
  rw [show (7 : Int) = ((7 : Nat) : Int) from rfl, shrI_nat _ _ _ (by decide)]

theorem uint_spec {T : Nat} {c : CallT} (hc : CloneC T 1 1 c) : UintC T fun args M Q => ∃ a0 a1, args = [a0, a1] ∧ W_rolodex_bin_Uint c T a0 a1 M Q := by
  intro M0 a0 cs n v h h1 hn hv Q hQ
  refine ⟨a0, _, rfl, ?_⟩
  unfold W_rolodex_bin_Uint
  refine hc h h1 (by omega) (by omega) fun b0 M ho hk => ?_
  refine loopW_inv (fun m xs M => ∃ b w done, m = w ∧ xs = [b, N .u64 (w : Nat)] ∧ Own M M0.next T 1 b (cs ++ bytesC done) (n + done.length) ∧ Keep [] M0 M ∧ done ++ uintB w = uintB v ∧ w < 2 ^ 64) v ⟨b0, v, [], rfl, rfl, by simpa using ho, hk, rfl, hv⟩ ?_
  rintro m ys M1 ⟨b, w, done, rfl, rfl, ho, hk, hd, hw⟩
  have hlen := uintB_len 10 v (by omega) (by omega)
  rw [← hd, List.length_append] at hlen
  dsimp only
  simp only [go_sem, nthD]
  refine ⟨fun hge => ?_, fun hlt => ?_⟩
  · have hge : ¬ m < 128 := by simp at hge; omega
    rw [uintB_ge hge, List.length_cons] at hlen
    refine app_byte ho hk.next rfl rfl (by omega) fun b' M' ho' hk' => ?_
    refine ⟨by omega, m / 128, by omega, b', m / 128, done ++ [UInt8.ofNat (m % 128 + 128)], rfl, ?_, ?_, hk.then_new hk' (fun c hc => .inl (ho.blk c hc).1), ?_, by omega⟩
    · rw [shr7]
    · rw [uint_hi] at ho'
      simpa [Nat.add_assoc] using ho'
    · rw [← hd, uintB_ge hge]; simp
  · have hlt : m < 128 := by simp at hlt; omega
    refine app_byte ho hk.next rfl rfl (by rw [uintB_lt hlt] at hlen; simp at hlen; omega) fun b' M' ho' hk' => ?_
    refine hQ b' M' ?_ (hk.then_new hk' (fun c hc => .inl (ho.blk c hc).1))
    rw [← hd, uintB_lt hlt]
    rw [uint_lo hlt] at ho'
    simpa [Nat.add_assoc] using ho'
end Go.Ab.Dot
/- Capacities that are opened; calls that make nothing that is kept; from a world on. By an AI agent. -/
set_option linter.unusedVariables false
set_option linter.unusedSimpArgs false
namespace Go.Ab
open Go Go.RowKit

section
variable {P : Program}

/-- An open row, with its capacity. -/
theorem MRel.opened {ρ : Ren} {M : RM} {w : World} {b n : Nat} {l : List AV} {el : Nat} {u : Value} (hw : MRel P ρ M w) (hh : M.heap b = some (.row l true el 0)) (hl : l.length = n) (hv : VRel ρ (.slc b 0 n (.op 1)) u) :
    ∃ c, n ≤ c ∧ VRel ρ (.slc b 0 n (.ex c)) u ∧ MRel P ρ (M.put b (.row (l ++ List.replicate (c - n) .top) true el 0)) w := by
  obtain ⟨A, hA⟩ := hw
  obtain ⟨k, i, hb, hp, he, hk, rfl⟩ := slcO_inv hv
  rcases hA.blk b _ hh with ⟨y, hy, hle⟩ | ⟨_, e0, _⟩
  · cases y <;> first | exact hle.elim | skip
    rename_i nn tree zs opn elem fz
    obtain ⟨r1, rfl, rfl, rfl, r5⟩ := hle
    obtain ⟨ob, hob, cs, fr, rfl, hrow⟩ := hA.rel.blk b i _ hb hy
    obtain ⟨h0, hcs, hels⟩ := hrow.opn rfl
    have hk0 : k = 0 := by
      rcases Nat.eq_zero_or_pos k with e | e
      · exact e
      · have : 0 < k * i.esz := Nat.mul_pos e h0
        omega
    subst hk0
    have hsh := hrow.sh0
    rw [← he, Nat.mul_one, hsh, Nat.zero_add] at hcs
    refine ⟨i.capN, by omega, ?_, ⟨{ A with heap := A.heap.set b (.row i.capN (Tree.ofList (l ++ List.replicate (i.capN - n) .top) 0 .leaf) [] true elem 0) }, hA.next, ⟨hA.rel.dom, fun b' i' x hb' hx => ?_, fun b1 b2 i1 i2 x1 x2 p1 p2 g1 g2 e => ?_, fun b' x hx => ?_, fun b' i' x hb' hx => ?_, hA.rel.inv⟩, hA.size, fun c x hx => ?_, hA.old⟩⟩
    · have := VRel.slcS (ρ := ρ) b 0 n i.capN i hb
      rw [Nat.zero_mul] at *
      simpa using this
    · simp only [Tree.get_set] at hx
      by_cases e : b' = b
      · subst e
        rw [if_pos rfl] at hx
        cases hx
        rw [hb] at hb'; cases hb'
        refine ⟨_, hob, cs, fr, rfl, ⟨by rw [hsh]; omega, fun j x hj => ?_, fun j h1 h2 => hrow.free j h1 h2, hrow.mark, fun _ => ⟨h0, by rw [hsh, ← he]; omega, hels⟩, hsh⟩⟩
        obtain ⟨hjlt, hj2⟩ := cellAt_nozeros hj
        rw [Tree.get_ofList] at hj2
        split at hj2
        · rename_i hlt
          rw [Nat.sub_zero] at hj2
          by_cases hjl : j < l.length
          · rw [List.getElem?_append_left hjl] at hj2
            exact hrow.val j x (r5 j x hj2)
          · rw [List.getElem?_append_right (by omega), List.getElem?_replicate] at hj2
            split at hj2
            · cases hj2
              exact ⟨cs[j]'(by omega), by rw [hsh, Nat.zero_add]; simp, .top _⟩
            · cases hj2
        · simp [Tree.get] at hj2
      · rw [if_neg e] at hx
        exact hA.rel.blk b' i' x hb' hx
    · have q : ∀ {b1 x1}, (A.heap.set b (Blk.row i.capN (Tree.ofList (l ++ List.replicate (i.capN - n) .top) 0 .leaf) [] true elem 0)).get b1 = some x1 → ∃ y, A.heap.get b1 = some y := by
        intro b1 x1 h
        rw [Tree.get_set] at h
        by_cases e : b1 = b
        · subst e; exact ⟨_, hy⟩
        · rw [if_neg e] at h; exact ⟨_, h⟩
      obtain ⟨y1, e1⟩ := q g1
      obtain ⟨y2, e2⟩ := q g2
      exact hA.rel.sep _ _ _ _ _ _ p1 p2 e1 e2 e
    · simp only [Tree.get_set] at hx
      by_cases e : b' = b
      · subst e; exact hA.rel.top _ _ hy
      · rw [if_neg e] at hx; exact hA.rel.top _ _ hx
    · simp only [Tree.get_set] at hx
      by_cases e : b' = b
      · subst e; exact hA.rel.lo _ _ _ hb' hy
      · rw [if_neg e] at hx; exact hA.rel.lo _ _ _ hb' hx
    · simp only [RM.put] at hx
      simp only [Tree.get_set]
      by_cases e : c = b
      · subst e
        rw [if_pos rfl] at hx ⊢
        cases hx
        refine .inl ⟨_, rfl, by simp; omega, rfl, rfl, rfl, fun j v hj => ?_⟩
        have hjl := (List.getElem?_eq_some_iff.1 hj).1
        exact cellAt_tree (by simp at hjl; omega) (by rw [Tree.get_ofList, if_pos (by omega)]; simpa using hj)
      · rw [if_neg e] at hx ⊢
        exact hA.blk c x hx
  · cases e0

/-- A call on an open row, whatever its capacity. -/
theorem CallsR.open_cap {f : FuncId} {b n : Nat} {l : List AV} {el : Nat} {rest : List AV} {M : RM} {Q : PostV} (hP : HasBody P f) (hh : M.heap b = some (.row l true el 0)) (hl : l.length = n)
    (h : ∀ c, n ≤ c → CallsR P f (.slc b 0 n (.ex c) :: rest) (M.put b (.row (l ++ List.replicate (c - n) .top) true el 0)) Q) : CallsR P f (.slc b 0 n (.op 1) :: rest) M Q := by
  refine ⟨hP, fun ρ w us hargs hw => ?_⟩
  cases hargs with
  | cons _ u _ us hv hr =>
  obtain ⟨c, hc, hv', hw'⟩ := hw.opened hh hl hv
  refine ((h c hc).2 ρ w (u :: us) (.cons _ _ _ _ hv' hr) hw').mono fun e w' hR => ?_
  obtain ⟨v', v, M', ρ', rfl, k1, k2, k3⟩ := hR
  exact ⟨v', v, M', ρ', rfl, ⟨k1.step, k1.rel, k1.base, k1.next⟩, k2, k3⟩
end
end Go.Ab
/- Arguments that were handed in, as abstract values; a law's call, closed. By an AI agent. -/
set_option linter.unusedVariables false
set_option linter.unusedSimpArgs false
namespace Go.Ab
open Go Go.RowKit

/-- Memory as it was when the call began: it is only read. -/
def RM.old (base : Base) (w : World) : RM where
  next := base.n
  heap := fun b => if b < base.n then (match w.heap[b]? with | some (.cells c _ _) => some (.ro c) | _ => none) else none
  base := base

def ren0 (n : Nat) : Ren := fun b => if b < n then some ⟨b, 0, 0, 0⟩ else none

theorem mrel_old {P : Program} {base : Base} {w : World} (hn : base.n = w.heap.size) (hi : base.inv w) : MRel P (ren0 base.n) (RM.old base w) w := by
  refine ⟨{ next := base.n, heap := .leaf }, rfl, ⟨fun b i h => ?_, fun b i x _ h => by simp [Tree.get] at h, fun b _ i _ x _ _ _ h => by simp [Tree.get] at h, fun b x h => by simp [Tree.get] at h, fun b i x _ h => by simp [Tree.get] at h, hi⟩, by simp [RM.old, RM.lo, hn], fun b x h => .inr ?_, fun c hc => by have hc' : c < base.n := hc; simp only [ren0]; rw [if_pos hc']⟩
  · simp only [ren0] at h
    split at h <;> first | (cases h; done) | skip
    cases h
    exact ⟨by assumption, by rw [← hn]; assumption⟩
  · simp only [RM.old] at h
    split at h <;> first | (cases h; done) | skip
    rename_i hlt
    split at h <;> first | (cases h; done) | skip
    rename_i c el fr hh
    cases h
    exact ⟨c, rfl, hlt, el, fr, hh⟩

theorem RM.old_cells {base : Base} {w : World} {b : Nat} {c : Array Value} {el : TypeId} {fr : _} (hb : b < base.n) (h : w.heap[b]? = some (.cells c el fr)) : (RM.old base w).cells b = some (c.toList.map (absV base.n)) := by
  simp only [RM.cells, RM.old, if_pos hb, h]

/-- An argument. -/
def absA (lo : Nat) : Value → AV
  | .agg cs => .agg (cs.toList.map (absV lo))
  | v => absV lo v

theorem absL_rel {ρ : Ren} {lo : Nat} (h : ∀ c, c < lo → ρ c = some ⟨c, 0, 0, 0⟩) : ∀ (vs : List Value), LRel ρ (vs.map (absV lo)) vs
  | [] => .nil
  | v :: vs => .cons _ _ _ _ (absV_rel h v) (absL_rel h vs)
theorem absA_rel {ρ : Ren} {lo : Nat} (h : ∀ c, c < lo → ρ c = some ⟨c, 0, 0, 0⟩) (v : Value) : VRel ρ (absA lo v) v := by
  unfold absA
  split
  · exact .agg _ _ (absL_rel h _)
  · exact absV_rel h v
theorem absAs_rel {ρ : Ren} {lo : Nat} (h : ∀ c, c < lo → ρ c = some ⟨c, 0, 0, 0⟩) : ∀ (vs : List Value), LRel ρ (vs.map (absA lo)) vs
  | [] => .nil
  | v :: vs => .cons _ _ _ _ (absA_rel h v) (absAs_rel h vs)

/-- A law that answers true, over memory that is only read, answers true. -/
theorem CallsR.close {P : Program} {f : FuncId} {base : Base} {w : World} {us : Array Value} (hn : base.n = w.heap.size) (hi : base.inv w)
    (h : CallsR P f (us.toList.map (absA base.n)) (RM.old base w) fun v _ => v = Bo true) :
    Calls P f us w fun e w' => e = .returned (.bool true) ∧ Below w.heap.size w w' := by
  have hr := mrel_old (P := P) hn hi
  refine ((h.2 (ren0 base.n) w us.toList (absAs_rel (fun c hc => by simp only [ren0]; rw [if_pos hc]) _) hr)).mono fun e w' hR => ?_
  obtain ⟨v', v, M', ρ', rfl, k1, k2, rfl⟩ := hR
  obtain ⟨rfl, _⟩ := sc_inv k2
  refine ⟨rfl, k1.step.os, k1.step.tape, k1.step.output, k1.step.size, fun k hk => k1.step.low k ?_⟩
  show k < base.n
  rw [hn]; exact hk

/-! ### what is handed in is as its type says -/
def otherT : Option TypeDesc → Bool
  | some .bool | some (.int _) | some .string | some (.slice _) | some (.struct _) | some (.array _ _) => false
  | _ => true

/-- Cells of a type, in memory that is read. -/
inductive Fits (P : Program) (M : RM) : TypeId → List AV → Prop
  | bool (t : TypeId) (b : Bool) : P.underlying t = some .bool → Fits P M t [Bo b]
  | int (t : TypeId) (k : IntKind) (n : Int) : P.underlying t = some (.int k) → k.min ≤ n → n ≤ k.max → Fits P M t [N k n]
  | str (t : TypeId) (s : List UInt8) : P.underlying t = some .string → s.length ≤ reachBytes → Fits P M t [St s]
  | nils (t e : TypeId) : P.underlying t = some (.slice e) → Fits P M t [nilS]
  | emp (t e : TypeId) (b : Nat) : P.underlying t = some (.slice e) → Fits P M t [.emp b]
  | slc (t e : TypeId) (b o n c : Nat) (cs : List AV) : P.underlying t = some (.slice e) → b < M.next → n ≤ c → c * P.bytesOf e ≤ reachBytes → M.loads b o (n * P.cellsOf e) = some cs →
      (∀ i, i < n → Fits P M e ((cs.drop (i * P.cellsOf e)).take (P.cellsOf e))) → Fits P M t [.slc b o n (.ex c)]
  | struct (t : TypeId) (fs : Array Field) (cs : List AV) : P.underlying t = some (.struct fs) → cs.length = P.cellsOf t →
      (∀ (i : Nat) (f : Field), fs[i]? = some f → Fits P M f.type ((cs.drop f.offset).take (P.cellsOf f.type))) → Fits P M t cs
  | array (t e : TypeId) (n : Nat) (cs : List AV) : P.underlying t = some (.array n e) → cs.length = P.cellsOf t →
      (∀ i, i < n → Fits P M e ((cs.drop (i * P.cellsOf e)).take (P.cellsOf e))) → Fits P M t cs
  | other (t : TypeId) (cs : List AV) : otherT (P.underlying t) = true → Fits P M t cs
  | zero (t e : TypeId) (cs : List AV) : P.underlying t = some (.slice e) → P.cellsOf e = 0 → Fits P M t cs

theorem addr_add_zero (a : Addr) : a.add 0 = a := by simp [Addr.add]

theorem cells?_get {w : World} {base : Nat} {a : Addr} {n : Nat} {cs : List Value} (h : w.cells? base a n = some cs) : cs.length = n ∧ ∀ i, i < n → w.cell? (a.add i) = cs[i]? := by
  unfold World.cells? at h
  split at h
  · exact ⟨by simpa using mapM_some_length h, fun i hi => mapM_some_get h i i (by simp [hi])⟩
  · cases h

theorem cell?_at {w : World} {a : Addr} {v : Value} (h : w.cell? a = some v) : ∃ c el fr, w.heap[a.block]? = some (.cells c el fr) ∧ a.spot = none ∧ a.off < c.size ∧ c[a.off]? = some v := by
  unfold World.cell? at h
  split at h
  · rename_i c el fr hh
    split at h
    · cases h
    · rename_i hs
      exact ⟨c, el, fr, hh, by simpa using hs, (Array.getElem?_eq_some_iff.1 h).1, h⟩
  · cases h

section
variable {H : Type} {enc : TypeId × Value → H} {P : Program} {base : Base} {w : World}

theorem mem_weightsAll {e : TypeId} {ds : List (DataW H)} {d : DataW H} (hd : d ∈ ds) {x : Nat} (hx : x ∈ d.weights P e) : x ∈ DataW.weightsAll P e ds := by
  induction ds with
  | nil => cases hd
  | cons y ys ih =>
    simp only [DataW.weightsAll, List.mem_append]
    rcases List.mem_cons.1 hd with rfl | hd
    · exact .inl hx
    · exact .inr (ih hd)
theorem mem_weightsEach {x : Nat} : ∀ (ts : List TypeId) (ds : List (DataW H)) (i : Nat) (t : TypeId) (d : DataW H), ts[i]? = some t → ds[i]? = some d → x ∈ d.weights P t → x ∈ DataW.weightsEach P ts ds
  | [], _, _, _, _, h, _, _ => by simp at h
  | _ :: _, [], _, _, _, _, h, _ => by simp at h
  | t :: ts, d :: ds, 0, t', d', h, h', hx => by
    simp at h h'; subst h h'
    simp only [DataW.weightsEach, List.mem_append]; exact .inl hx
  | t :: ts, d :: ds, i + 1, t', d', h, h', hx => by
    simp only [DataW.weightsEach, List.mem_append]
    exact .inr (mem_weightsEach ts ds i t' d' (by simpa using h) (by simpa using h') hx)

theorem fits_of_trod (hn : base.n = w.heap.size) {held : Bool} : ∀ (fuel : Nat) (t : TypeId) (cs : List Value) (x : DataW H × List MemPlace), DataW.trod enc P w 0 (fun _ => true) held fuel t cs = some x →
    (∀ y ∈ x.1.weights P t, y ≤ reachBytes) → Fits P (RM.old base w) t (cs.map (absV base.n)) := by
  intro fuel
  induction fuel with
  | zero => intro t cs x h; simp [DataW.trod] at h
  | succ m ih =>
    intro t cs x h hw
    cases hu : P.underlying t with
    | none => exact .other _ _ (by rw [hu]; rfl)
    | some d =>
      cases d with
      | bool =>
        obtain ⟨b, rfl, rfl⟩ := DataW.trod_bool hu h
        exact .bool t b hu
      | int k =>
        obtain ⟨n, rfl, rfl, hwf⟩ := DataW.trod_int hu h
        simp only [Lit.wf, Bool.and_eq_true, decide_eq_true_eq] at hwf
        exact .int t k n hu hwf.1 hwf.2
      | string =>
        obtain ⟨s, rfl, rfl, _⟩ := DataW.trod_string hu h
        exact .str t s.data.toList hu (hw _ (by simp [DataW.weights]))
      | slice e =>
        rcases DataW.trod_slice hu h with ⟨rfl, rfl⟩ | ⟨a, len, cap, elems, rest, n, hm, rfl, rfl, _, hlc, _, hel, hget, hrest, _⟩
        · exact .nils t e hu
        · cases hm
          rcases Nat.eq_zero_or_pos (P.cellsOf e) with hz | hz
          · exact .zero t e _ hu hz
          rcases Nat.eq_zero_or_pos cap with hc | hc
          · have hl0 : len = 0 := by omega
            subst hc hl0
            exact .emp t e 0 hu
          · obtain ⟨hr1, hr2⟩ := hrest rfl
            have every : ∀ i, i < cap → ∃ es y, w.cells? 0 (a.add (i * P.cellsOf e)) (P.cellsOf e) = some es ∧ DataW.trod enc P w 0 (fun _ => true) held m e es = some y ∧ (y ∈ elems ∨ y ∈ rest) := by
              intro i hi
              by_cases hil : i < len
              · have h1 := hget i hil
                have h2 : elems[i]? = some (elems[i]'(by omega)) := by simp [hel, hil]
                rw [h2] at h1
                obtain ⟨es, e1, e2⟩ := Option.bind_eq_some_iff.1 h1
                exact ⟨es, _, e1, e2, .inl (List.getElem_mem _)⟩
              · have h1 := hr2 (i - len) (by omega)
                rw [show len + (i - len) = i by omega] at h1
                have h2 : rest[i - len]? = some (rest[i - len]'(by omega)) := by
                  rw [List.getElem?_eq_getElem]
                rw [h2] at h1
                obtain ⟨es, e1, e2⟩ := Option.bind_eq_some_iff.1 h1
                exact ⟨es, _, e1, e2, .inr (List.getElem_mem _)⟩
            obtain ⟨es0, _, k0, _, _⟩ := every 0 hc
            obtain ⟨kl0, kg0⟩ := cells?_get k0
            have hc0 := kg0 0 hz
            rw [List.getElem?_eq_getElem (by omega)] at hc0
            obtain ⟨c, el, fr, hh, hsp, _, _⟩ := cell?_at hc0
            obtain ⟨b, o, sp⟩ := a
            rw [Nat.zero_mul, addr_add_zero, addr_add_zero] at hh hsp
            simp only at hh hsp
            subst hsp
            have hblt : b < base.n := by rw [hn]; exact (Array.getElem?_eq_some_iff.1 hh).1
            have hlast : o + cap * P.cellsOf e ≤ c.size := by
              obtain ⟨es1, _, k1, _, _⟩ := every (cap - 1) (by omega)
              obtain ⟨kl1, kg1⟩ := cells?_get k1
              have hc1 := kg1 (P.cellsOf e - 1) (by omega)
              rw [List.getElem?_eq_getElem (by omega)] at hc1
              obtain ⟨c', el', fr', hh', _, hlt, _⟩ := cell?_at hc1
              rw [add_off, add_off] at hh' hlt
              simp only at hh' hlt
              rw [hh] at hh'
              cases hh'
              have : cap * P.cellsOf e = (cap - 1) * P.cellsOf e + P.cellsOf e := by
                rw [← Nat.succ_mul]; congr 1; omega
              omega
            have habs : absV base.n (.slice (some ⟨b, o, none⟩) len cap) = .slc b o len (.ex cap) := by
              obtain ⟨cap, rfl⟩ : ∃ k, cap = k + 1 := ⟨cap - 1, by omega⟩
              simp only [absV, if_pos hblt]
            have hcells := RM.old_cells hblt hh
            have hle : len * P.cellsOf e ≤ cap * P.cellsOf e := Nat.mul_le_mul_right _ hlc
            have hload : (RM.old base w).loads b o (len * P.cellsOf e) = some (((c.toList.map (absV base.n)).drop o).take (len * P.cellsOf e)) := by
              simp only [RM.loads, hcells]
              rw [if_pos (by simp; omega)]
            simp only [List.map_cons, List.map_nil, habs]
            refine .slc t e b o len cap _ hu hblt hlc ?_ hload fun i hi => ?_
            · have := hw ((elems.length + rest.length) * P.bytesOf e) (by simp [DataW.weights, hu])
              rwa [hel, hr1, show len + (cap - len) = cap by omega] at this
            · obtain ⟨es, y, k1, k2, k3⟩ := every i (by omega)
              have hlen := (cells?_get k1).1
              have hes : ((((c.toList.map (absV base.n)).drop o).take (len * P.cellsOf e)).drop (i * P.cellsOf e)).take (P.cellsOf e) = es.map (absV base.n) := by
                have hii : i * P.cellsOf e + P.cellsOf e ≤ len * P.cellsOf e := by rw [← Nat.succ_mul]; exact Nat.mul_le_mul_right _ hi
                apply List.ext_getElem?
                intro j
                by_cases hj : j < P.cellsOf e
                · have hg := (cells?_get k1).2 j hj
                  rw [List.getElem?_take, if_pos hj, List.getElem?_drop, List.getElem?_take, if_pos (by omega), List.getElem?_drop, List.getElem?_map, List.getElem?_map, ← hg]
                  rw [add_off, add_off]
                  simp only [World.cell?, hh]
                  rw [Array.getElem?_toList]
                  simp [Nat.add_assoc]
                · rw [List.getElem?_eq_none (by simp; omega), List.getElem?_eq_none (by simp; omega)]
              rw [hes]
              refine ih e es y k2 fun z hz => hw z ?_
              simp only [DataW.weights, hu, List.mem_cons, List.mem_append]
              rcases k3 with k3 | k3
              · exact .inr (.inl (mem_weightsAll (List.mem_map_of_mem k3) hz))
              · exact .inr (.inr (mem_weightsAll (List.mem_map_of_mem k3) hz))
      | struct fs =>
        obtain ⟨xs, n, hm, rfl, hl, hxl, hget⟩ := DataW.trod_struct hu h
        cases hm
        refine .struct t fs _ hu (by simpa using hl) fun i f hf => ?_
        have h1 := hget i f hf
        have hi : i < fs.size := (Array.getElem?_eq_some_iff.1 hf).1
        rw [List.getElem?_eq_getElem (by omega)] at h1
        rw [← List.map_drop, ← List.map_take]
        refine ih _ _ _ h1 fun z hz => hw z ?_
        simp only [DataW.weights, hu]
        refine mem_weightsEach _ _ i f.type _ (by simp [hf]) (by rw [List.getElem?_map, List.getElem?_eq_getElem (by omega)]; rfl) hz
      | array n e =>
        obtain ⟨xs, m', hm, rfl, hl, hxl, hget⟩ := DataW.trod_array hu h
        cases hm
        refine .array t e n _ hu (by simpa using hl) fun i hi => ?_
        have h1 := hget i hi
        rw [List.getElem?_eq_getElem (by omega)] at h1
        rw [← List.map_drop, ← List.map_take]
        refine ih _ _ _ h1 fun z hz => hw z ?_
        simp only [DataW.weights, hu]
        exact mem_weightsAll (List.mem_map_of_mem (List.getElem_mem _)) hz
      | _ => exact .other _ _ (by rw [hu]; rfl)
end

/-! ### taken apart -/
section
variable {P : Program} {M : RM} {t : TypeId} {cs : List AV}
theorem Fits.bool_inv (h : Fits P M t cs) (hu : P.underlying t = some .bool) : ∃ b, cs = [Bo b] := by
  cases h <;> simp_all [otherT]
theorem Fits.int_inv (h : Fits P M t cs) {k : IntKind} (hu : P.underlying t = some (.int k)) : ∃ n : Int, cs = [N k n] ∧ k.min ≤ n ∧ n ≤ k.max := by
  cases h with
  | int _ k' n h1 h2 h3 => rw [hu] at h1; cases h1; exact ⟨n, rfl, h2, h3⟩
  | _ => simp_all [otherT]
theorem Fits.str_inv (h : Fits P M t cs) (hu : P.underlying t = some .string) : ∃ s, cs = [St s] ∧ s.length ≤ reachBytes := by
  cases h with
  | str _ s h1 h2 => exact ⟨s, rfl, h2⟩
  | _ => simp_all [otherT]
theorem Fits.struct_inv (h : Fits P M t cs) {fs : Array Field} (hu : P.underlying t = some (.struct fs)) : cs.length = P.cellsOf t ∧ ∀ (i : Nat) (f : Field), fs[i]? = some f → Fits P M f.type ((cs.drop f.offset).take (P.cellsOf f.type)) := by
  cases h with
  | struct _ fs' _ h1 h2 h3 => rw [hu] at h1; cases h1; exact ⟨h2, h3⟩
  | _ => simp_all [otherT]
theorem Fits.slice_inv (h : Fits P M t cs) {e : TypeId} (hu : P.underlying t = some (.slice e)) (hz : 0 < P.cellsOf e) :
    ∃ v n ds, cs = [v] ∧ SlR M (P.cellsOf e) v ds n ∧ n * P.bytesOf e ≤ reachBytes ∧ ∀ i, i < n → Fits P M e ((ds.drop (i * P.cellsOf e)).take (P.cellsOf e)) := by
  cases h with
  | nils _ e' h1 => exact ⟨_, 0, [], rfl, .nil, by simp, fun i hi => absurd hi (by omega)⟩
  | emp _ e' b h1 => exact ⟨_, 0, [], rfl, .emp b, by simp, fun i hi => absurd hi (by omega)⟩
  | slc _ e' b o n c ds h1 h2 h3 h4 h5 h6 =>
    rw [hu] at h1; cases h1
    exact ⟨_, n, ds, rfl, .slc b o n _ ds h2 h5, Nat.le_trans (Nat.mul_le_mul_right _ h3) h4, h6⟩
  | zero _ e' _ h1 h2 => rw [hu] at h1; cases h1; omega
  | _ => simp_all [otherT]

/-- A row of elements, each of which is some datum's cells. -/
theorem chunks_of {α : Type} {size : Nat} (enc : α → List AV) (p : α → Prop) (hs : ∀ a, (enc a).length = size) : ∀ (n : Nat) (ds : List AV), ds.length = n * size → (∀ i, i < n → ∃ a, p a ∧ (ds.drop (i * size)).take size = enc a) →
    ∃ xs : List α, xs.length = n ∧ ds = xs.flatMap enc ∧ ∀ x ∈ xs, p x
  | 0, ds, hl, _ => ⟨[], rfl, by simpa using hl, by simp⟩
  | n + 1, ds, hl, h => by
    obtain ⟨a, pa, ha⟩ := h 0 (by omega)
    simp only [Nat.zero_mul, List.drop_zero] at ha
    have hl' : (ds.drop size).length = n * size := by rw [List.length_drop, hl, Nat.succ_mul]; omega
    obtain ⟨xs, h1, h2, h3⟩ := chunks_of enc p hs n (ds.drop size) hl' fun i hi => by
      obtain ⟨b, pb, hb⟩ := h (i + 1) (by omega)
      refine ⟨b, pb, ?_⟩
      rw [List.drop_drop, ← hb, Nat.succ_mul, Nat.add_comm]
    refine ⟨a :: xs, by simp [h1], ?_, fun x hx => ?_⟩
    · rw [List.flatMap_cons, ← h2, ← ha, List.take_append_drop]
    · rcases List.mem_cons.1 hx with rfl | hx
      · exact pa
      · exact h3 x hx
end

/-! ### all arguments of a law -/
def aggT (P : Program) (t : TypeId) : Bool :=
  match P.underlying t with
  | some (.struct _) | some (.array _ _) => true
  | _ => false
/-- An argument is as its type says. -/
def FitsA (P : Program) (M : RM) (t : TypeId) (v : AV) : Prop :=
  match aggT P t with
  | true => ∃ cs, v = .agg cs ∧ Fits P M t cs
  | false => Fits P M t [v]

theorem FitsA.agg {P : Program} {M : RM} {t : TypeId} {v : AV} (h : FitsA P M t v) (ha : aggT P t = true) : ∃ cs, v = .agg cs ∧ Fits P M t cs := by
  unfold FitsA at h; rw [ha] at h; exact h
theorem FitsA.one {P : Program} {M : RM} {t : TypeId} {v : AV} (h : FitsA P M t v) (ha : aggT P t = false) : Fits P M t [v] := by
  unfold FitsA at h; rw [ha] at h; exact h

section
variable {H : Type} {enc : TypeId × Value → H} {P : Program} {base : Base} {w : World}
theorem cell_not_agg {r : Reach} {b : Nat} {t : TypeId} {cs : Array Value} (h : Cell.okWide P w r b t (.agg cs)) : False := by
  unfold Cell.okWide at h
  split at h <;> first | (rename_i e _; cases e; done) | skip
  all_goals first | (rename_i e; cases e; done) | skip
  unfold Cell.ok at h
  split at h <;> first | exact h | simp_all

theorem fits_arg (hn : base.n = w.heap.size) {r : Reach} {b : Nat} {held : Bool} {t : TypeId} {v : Value} {d : DataW H} {ps : List MemPlace} (hv : Value.okWide P w r b t v) (h : DataW.Trod enc P w 0 (fun _ => true) held t v d ps)
    (hw : ∀ y ∈ d.weights P t, y ≤ reachBytes) : FitsA P (RM.old base w) t (absA base.n v) := by
  obtain ⟨fuel, hf⟩ := h
  have hfit := fits_of_trod hn fuel t _ _ hf hw
  unfold FitsA
  cases ha : aggT P t with
  | true =>
    have : ∃ cs, v = .agg cs := by
      unfold Value.okWide at hv
      unfold aggT at ha
      split at hv
      · obtain ⟨cs, h, _⟩ := hv; exact ⟨cs, h⟩
      · obtain ⟨cs, h, _⟩ := hv; exact ⟨cs, h⟩
      · split at ha <;> simp_all
    obtain ⟨cs, rfl⟩ := this
    exact ⟨_, rfl, hfit⟩
  | false =>
    have hc : Cell.okWide P w r b t v := by
      unfold Value.okWide at hv
      unfold aggT at ha
      split at hv
      · simp_all
      · simp_all
      · exact hv
    have : v.cells.toList = [v] ∧ absA base.n v = absV base.n v := by
      cases v with
      | agg cs => exact (cell_not_agg hc).elim
      | _ => exact ⟨rfl, rfl⟩
    rw [this.1] at hfit
    rw [this.2]
    exact hfit

theorem fits_all (hn : base.n = w.heap.size) {r : Reach} {b : Nat} {held : Bool} : ∀ {ts : List TypeId} {vs : List Value} {ds : List (DataW H)} {ps : List MemPlace}, DataW.TrodAll enc P w 0 (fun _ => true) held ts vs ds ps →
    (∀ (j : Nat) t v, ts[j]? = some t → vs[j]? = some v → Value.okWide P w r b t v) → (∀ y ∈ DataW.weightsEach P ts ds, y ≤ reachBytes) →
    ∀ (j : Nat) t v, ts[j]? = some t → vs[j]? = some v → FitsA P (RM.old base w) t (absA base.n v)
  | [], _, _, _, _, _, _, j, t, v, h, _ => by simp at h
  | t0 :: ts, vs, ds, ps, h, hv, hw, j, t, v, hj, hvj => by
    cases vs with
    | nil => simp at hvj
    | cons v0 vs =>
    cases ds with
    | nil => exact h.elim
    | cons d ds =>
    obtain ⟨p, q, h1, h2, _⟩ := h
    cases j with
    | zero =>
      simp at hj hvj; subst hj hvj
      exact fits_arg hn (hv 0 _ _ rfl rfl) h1 fun y hy => hw y (by simp [DataW.weightsEach, hy])
    | succ j =>
      exact fits_all hn h2 (fun j t v a b => hv (j + 1) t v (by simpa using a) (by simpa using b)) (fun y hy => hw y (by simp [DataW.weightsEach, hy])) j t v (by simpa using hj) (by simpa using hvj)

/-- Behind a call that leaves old memory as it was, the arguments read as they did. -/
theorem trodAll_stays (hl : laidOutB P = true) {W W' : World} {sp : Nat → Bool} (hb : Below W.heap.size W W') : ∀ {ts : List TypeId} {vs : List Value} {ds : List (DataW H)} {ps : List MemPlace},
    (∀ t ∈ ts, P.readableRec t = true ∧ t < P.types.size) → DataW.TrodAll enc P W 0 (fun _ => true) true ts vs ds ps → (∀ p ∈ ps, p.block < W.heap.size) → (∀ p ∈ ps, sp p.block = true) → DataW.TrodAll enc P W' 0 sp true ts vs ds ps
  | [], vs, ds, ps, _, h, _, _ => by
    cases vs <;> cases ds <;> first | exact h | exact h.elim
  | t :: ts, vs, ds, ps, hr, h, hlt, hsp => by
    cases vs with
    | nil => cases ds <;> exact h.elim
    | cons v vs =>
    cases ds with
    | nil => exact h.elim
    | cons d ds =>
    obtain ⟨p, q, h1, h2, rfl⟩ := h
    have hrt := hr t (List.mem_cons_self ..)
    exact ⟨p, q, WideElems.Trod_stays hl hrt.1 hrt.2 h1 (fun x hx => hb.same (hlt x (List.mem_append_left _ hx))) (fun x hx => hsp x (List.mem_append_left _ hx)),
      trodAll_stays hl hb (fun t ht => hr t (List.mem_cons_of_mem _ ht)) h2 (fun x hx => hlt x (List.mem_append_right _ hx)) (fun x hx => hsp x (List.mem_append_right _ hx)), rfl⟩
end
end Go.Ab
