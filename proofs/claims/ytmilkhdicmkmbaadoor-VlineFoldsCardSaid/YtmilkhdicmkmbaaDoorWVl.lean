/- Functions of the program as predicates (printed by a program of ours). By an AI agent. -/
import Derived.Test.YtmilkhdicmkmbaaDoorR9
set_option maxRecDepth 100000
set_option linter.unusedVariables false
set_option linter.unusedSimpArgs false
namespace Go.Ab.Vl
open Go Go.Ab

/-- gosem.cut.init -/
def W_gosem_cut_init (x_gosem_cut : CallT) (M0 : RM) (Q : PostV) : Prop :=
 x_gosem_cut [] M0 fun t0 M =>
 Q (.tup []) M

/-- rolodex/rolodexlaw23.VlineKnown -/
def W_rolodex_rolodexlaw23_VlineKnown (c_rolodex_rolodexlaw23_awake : CallT) (c_rolodex_vline_Unescape : CallT) (c_rolodex_vline_Print : CallT) (c_rolodex_vline_Read : CallT) (c_rolodex_vline_Split : CallT) (M0 : RM) (Q : PostV) : Prop :=
 c_rolodex_rolodexlaw23_awake [] M0 fun t8 M =>
 notW t8 fun t9 =>
 condW t9 (
 Q (Bo false) M) (
 c_rolodex_vline_Unescape [(St [92, 120])] M fun t11 M_0 =>
 extW t11 0 fun t12 =>
 extW t11 1 fun t13 =>
 buildW [(St []), (St []), (.sc (.slice none 0 0)), (St []), (N .i64 0)] [(1, 1, (St [65])), (3, 1, (St [120]))] fun t15 =>
 c_rolodex_vline_Print [t15] M_0 fun t16 M_1 =>
 extW t16 0 fun t17 =>
 extW t16 1 fun t18 =>
 c_rolodex_vline_Read [(St [10, 10, 105, 116, 101, 109, 49, 46, 88, 45, 97, 59, 112, 61, 34, 97, 44, 98, 34, 44, 99, 58, 118, 58, 119])] M_1 fun t20 M_2 =>
 extW t20 0 fun t21 =>
 extW t20 1 fun t22 =>
 extW t20 2 fun t23 =>
 intW .eql t13 (N .i64 14) fun t25 =>
 guardM t25 true (fun k => k t18 M_2) (fun k => k .undef M_2) fun t27 M_3 =>
 guardM t25 true (fun k_4 => intW .eql t27 (N .i64 1) fun t28 =>
 k_4 t28 M_3) (fun k => k .undef M_3) fun t28_5 M_6 =>
 pickW t25 t28_5 (Bo false) fun t29 =>
 guardM t29 true (fun k_7 => k_7 t23 M_6) (fun k => k .undef M_6) fun t31 M_8 =>
 guardM t29 true (fun k_9 => intW .eql t31 (N .i64 0) fun t32 =>
 k_9 t32 M_8) (fun k => k .undef M_8) fun t32_10 M_11 =>
 pickW t29 t32_10 (Bo false) fun t33 =>
 guardM t33 true (fun k_12 => k_12 t21 M_11) (fun k => k .undef M_11) fun t35 M_13 =>
 guardM t33 true (fun k_14 => lenW t35 fun t36 =>
 k_14 t36 M_13) (fun k => k .undef M_13) fun t36_15 M_16 =>
 guardM t33 true (fun k_17 => intW .eql t36_15 (N .i64 1) fun t37 =>
 k_17 t37 M_16) (fun k => k .undef M_16) fun t37_18 M_19 =>
 pickW t33 t37_18 (Bo false) fun t38 =>
 guardM t38 true (fun k_20 => k_20 t21 M_19) (fun k => k .undef M_19) fun t40 M_21 =>
 guardM t38 true (fun k_22 => idxS t40 (N .i64 0) 5 fun t41 =>
 k_22 t41 M_21) (fun k => k .undef M_21) fun t41_23 M_24 =>
 guardM t38 true (fun k_25 => fldW t41_23 0 fun t42 =>
 k_25 t42 M_24) (fun k => k .undef M_24) fun t42_26 M_27 =>
 guardM t38 true (fun k_28 => load1 M_27 t42_26 fun t43 =>
 k_28 t43 M_27) (fun k => k .undef M_27) fun t43_29 M_30 =>
 guardM t38 true (fun k_31 => strW .eql t43_29 (St [105, 116, 101, 109, 49]) fun t44 =>
 k_31 t44 M_30) (fun k => k .undef M_30) fun t44_32 M_33 =>
 pickW t38 t44_32 (Bo false) fun t45 =>
 guardM t45 true (fun k_34 => k_34 t21 M_33) (fun k => k .undef M_33) fun t47 M_35 =>
 guardM t45 true (fun k_36 => idxS t47 (N .i64 0) 5 fun t48 =>
 k_36 t48 M_35) (fun k => k .undef M_35) fun t48_37 M_38 =>
 guardM t45 true (fun k_39 => fldW t48_37 1 fun t49 =>
 k_39 t49 M_38) (fun k => k .undef M_38) fun t49_40 M_41 =>
 guardM t45 true (fun k_42 => load1 M_41 t49_40 fun t50 =>
 k_42 t50 M_41) (fun k => k .undef M_41) fun t50_43 M_44 =>
 guardM t45 true (fun k_45 => strW .eql t50_43 (St [120, 45, 97]) fun t51 =>
 k_45 t51 M_44) (fun k => k .undef M_44) fun t51_46 M_47 =>
 pickW t45 t51_46 (Bo false) fun t52 =>
 guardM t52 true (fun k_48 => k_48 t21 M_47) (fun k => k .undef M_47) fun t54 M_49 =>
 guardM t52 true (fun k_50 => idxS t54 (N .i64 0) 5 fun t55 =>
 k_50 t55 M_49) (fun k => k .undef M_49) fun t55_51 M_52 =>
 guardM t52 true (fun k_53 => fldW t55_51 2 fun t56 =>
 k_53 t56 M_52) (fun k => k .undef M_52) fun t56_54 M_55 =>
 guardM t52 true (fun k_56 => load1 M_55 t56_54 fun t57 =>
 k_56 t57 M_55) (fun k => k .undef M_55) fun t57_57 M_58 =>
 guardM t52 true (fun k_59 => idxS t57_57 (N .i64 0) 2 fun t58 =>
 k_59 t58 M_58) (fun k => k .undef M_58) fun t58_60 M_61 =>
 guardM t52 true (fun k_62 => fldW t58_60 1 fun t59 =>
 k_62 t59 M_61) (fun k => k .undef M_61) fun t59_63 M_64 =>
 guardM t52 true (fun k_65 => load1 M_64 t59_63 fun t60 =>
 k_65 t60 M_64) (fun k => k .undef M_64) fun t60_66 M_67 =>
 guardM t52 true (fun k_68 => lenW t60_66 fun t61 =>
 k_68 t61 M_67) (fun k => k .undef M_67) fun t61_69 M_70 =>
 guardM t52 true (fun k_71 => intW .eql t61_69 (N .i64 2) fun t62 =>
 k_71 t62 M_70) (fun k => k .undef M_70) fun t62_72 M_73 =>
 pickW t52 t62_72 (Bo false) fun t63 =>
 guardM t63 true (fun k_74 => k_74 t21 M_73) (fun k => k .undef M_73) fun t65 M_75 =>
 guardM t63 true (fun k_76 => idxS t65 (N .i64 0) 5 fun t66 =>
 k_76 t66 M_75) (fun k => k .undef M_75) fun t66_77 M_78 =>
 guardM t63 true (fun k_79 => fldW t66_77 4 fun t67 =>
 k_79 t67 M_78) (fun k => k .undef M_78) fun t67_80 M_81 =>
 guardM t63 true (fun k_82 => load1 M_81 t67_80 fun t68 =>
 k_82 t68 M_81) (fun k => k .undef M_81) fun t68_83 M_84 =>
 guardM t63 true (fun k_85 => intW .eql t68_83 (N .i64 3) fun t69 =>
 k_85 t69 M_84) (fun k => k .undef M_84) fun t69_86 M_87 =>
 pickW t63 t69_86 (Bo false) fun t70 =>
 guardM t70 true (fun k_88 => k_88 t21 M_87) (fun k => k .undef M_87) fun t72 M_89 =>
 guardM t70 true (fun k_90 => idxS t72 (N .i64 0) 5 fun t73 =>
 k_90 t73 M_89) (fun k => k .undef M_89) fun t73_91 M_92 =>
 guardM t70 true (fun k_93 => fldW t73_91 3 fun t74 =>
 k_93 t74 M_92) (fun k => k .undef M_92) fun t74_94 M_95 =>
 guardM t70 true (fun k_96 => load1 M_95 t74_94 fun t75 =>
 k_96 t75 M_95) (fun k => k .undef M_95) fun t75_97 M_98 =>
 guardM t70 true (fun k_99 => strW .eql t75_97 (St [118, 58, 119]) fun t76 =>
 k_99 t76 M_98) (fun k => k .undef M_98) fun t76_100 M_101 =>
 pickW t70 t76_100 (Bo false) fun t77 =>
 guardM t77 true (fun k_102 => c_rolodex_vline_Split [(St []), (N .u8 44)] M_101 fun t79 M_103 =>
 k_102 t79 M_103) (fun k => k .undef M_101) fun t79_104 M_105 =>
 guardM t77 true (fun k_106 => lenW t79_104 fun t80 =>
 k_106 t80 M_105) (fun k => k .undef M_105) fun t80_107 M_108 =>
 guardM t77 true (fun k_109 => intW .eql t80_107 (N .i64 1) fun t81 =>
 k_109 t81 M_108) (fun k => k .undef M_108) fun t81_110 M_111 =>
 pickW t77 t81_110 (Bo false) fun t82 =>
 Q t82 M_111)

/-- rolodex/rolodexlaw23.VlineReads -/
def W_rolodex_rolodexlaw23_VlineReads (c_rolodex_rolodexlaw23_awake : CallT) (c_rolodex_vline_Read : CallT) (c_rolodex_rolodexref23_Read : CallT) (c_rolodex_vline_Unfold : CallT) (c_rolodex_rolodexref23_Unfold : CallT) (c_rolodex_rolodexlaw23_of : CallT) (c_rolodex_rolodexref23_Same : CallT) (a0 : AV) (M0 : RM) (Q : PostV) : Prop :=
 c_rolodex_rolodexlaw23_awake [] M0 fun t15 M =>
 notW t15 fun t16 =>
 condW t16 (
 Q (Bo false) M) (
 lenStr a0 fun t18 =>
 intW .gtr t18 (N .i64 5000) fun t19 =>
 condW t19 (
 Q (Bo true) M) (
 c_rolodex_vline_Read [a0] M fun t22 M_0 =>
 extW t22 0 fun t23 =>
 extW t22 1 fun t24 =>
 extW t22 2 fun t25 =>
 c_rolodex_rolodexref23_Read [a0] M_0 fun t28 M_1 =>
 extW t28 0 fun t29 =>
 extW t28 1 fun t30 =>
 extW t28 2 fun t31 =>
 c_rolodex_vline_Unfold [a0] M_1 fun t34 M_2 =>
 extW t34 0 fun t35 =>
 extW t34 1 fun t36 =>
 c_rolodex_rolodexref23_Unfold [a0] M_2 fun t39 M_3 =>
 extW t39 0 fun t40 =>
 extW t39 1 fun t41 =>
 intW .neq t25 t31 fun t44 =>
 guardM t44 false (fun k => k t24 M_3) (fun k => k .undef M_3) fun t46 M_4 =>
 guardM t44 false (fun k_5 => k_5 t30 M_4) (fun k => k .undef M_4) fun t47 M_6 =>
 guardM t44 false (fun k_7 => intW .neq t46 t47 fun t48 =>
 k_7 t48 M_6) (fun k => k .undef M_6) fun t48_8 M_9 =>
 pickW t44 (Bo true) t48_8 fun t49 =>
 guardM t49 false (fun k_10 => k_10 t23 M_9) (fun k => k .undef M_9) fun t51 M_11 =>
 guardM t49 false (fun k_12 => lenW t51 fun t52 =>
 k_12 t52 M_11) (fun k => k .undef M_11) fun t52_13 M_14 =>
 guardM t49 false (fun k_15 => k_15 t29 M_14) (fun k => k .undef M_14) fun t53 M_16 =>
 guardM t49 false (fun k_17 => lenW t53 fun t54 =>
 k_17 t54 M_16) (fun k => k .undef M_16) fun t54_18 M_19 =>
 guardM t49 false (fun k_20 => intW .neq t52_13 t54_18 fun t55 =>
 k_20 t55 M_19) (fun k => k .undef M_19) fun t55_21 M_22 =>
 pickW t49 (Bo true) t55_21 fun t56 =>
 guardM t56 false (fun k_23 => k_23 t35 M_22) (fun k => k .undef M_22) fun t58 M_24 =>
 guardM t56 false (fun k_25 => lenW t58 fun t59 =>
 k_25 t59 M_24) (fun k => k .undef M_24) fun t59_26 M_27 =>
 guardM t56 false (fun k_28 => k_28 t40 M_27) (fun k => k .undef M_27) fun t60 M_29 =>
 guardM t56 false (fun k_30 => lenW t60 fun t61 =>
 k_30 t61 M_29) (fun k => k .undef M_29) fun t61_31 M_32 =>
 guardM t56 false (fun k_33 => intW .neq t59_26 t61_31 fun t62 =>
 k_33 t62 M_32) (fun k => k .undef M_32) fun t62_34 M_35 =>
 pickW t56 (Bo true) t62_34 fun t63 =>
 guardM t63 false (fun k_36 => k_36 t36 M_35) (fun k => k .undef M_35) fun t65 M_37 =>
 guardM t63 false (fun k_38 => lenW t65 fun t66 =>
 k_38 t66 M_37) (fun k => k .undef M_37) fun t66_39 M_40 =>
 guardM t63 false (fun k_41 => k_41 t35 M_40) (fun k => k .undef M_40) fun t67 M_42 =>
 guardM t63 false (fun k_43 => lenW t67 fun t68 =>
 k_43 t68 M_42) (fun k => k .undef M_42) fun t68_44 M_45 =>
 guardM t63 false (fun k_46 => intW .neq t66_39 t68_44 fun t69 =>
 k_46 t69 M_45) (fun k => k .undef M_45) fun t69_47 M_48 =>
 pickW t63 (Bo true) t69_47 fun t70 =>
 condW t70 (
 Q (Bo false) M_48) (
 loopW (fun next xs M_49 => -- [13]
 lenW t23 fun t73 =>
 intW .lss (nthD xs 0) t73 fun t74 =>
 condW t74 (
 idxS t23 (nthD xs 0) 5 fun t79 =>
 loadN M_49 t79 5 fun t80 =>
 idxS t29 (nthD xs 0) 5 fun t84 =>
 loadN M_49 t84 5 fun t85 =>
 c_rolodex_rolodexlaw23_of [t80] M_49 fun t81 M_50 =>
 loadN M_50 t84 5 fun t85_91 =>
 (t85_91 = t85 ∧ c_rolodex_rolodexref23_Same [t81, t85] M_50 fun t86 M_51 =>
 notW t86 fun t87 =>
 guardK t87 false (fun k_52 => k_52 t23 M_51 none) (fun k => k .undef M_51 none) fun t89 M_53 b =>
 guardK t87 false (fun k_54 => k_54 (nthD xs 0) M_53 none) (fun k => k .undef M_53 none) fun t90 M_55 b_56 =>
 guardK t87 false (fun k_57 => idxS t89 t90 5 fun t91 =>
 k_57 t91 M_55 none) (fun k => k .undef M_55 none) fun t91_58 M_59 b_60 =>
 guardK t87 false (fun k_61 => fldW t91_58 4 fun t92 =>
 k_61 t92 M_59 none) (fun k => k .undef M_59 none) fun t92_62 M_63 b_64 =>
 guardK t87 false (fun k_65 => load1 M_63 t92_62 fun t93 =>
 k_65 t93 M_63 none) (fun k => k .undef M_63 none) fun t93_66 M_67 b_68 =>
 guardK t87 false (fun k_69 => k_69 t29 M_67 none) (fun k => k .undef M_67 none) fun t94 M_70 b_71 =>
 guardK t87 false (fun k_72 => k_72 (nthD xs 0) M_70 none) (fun k => k .undef M_70 none) fun t95 M_73 b_74 =>
 guardK t87 false (fun k_75 => idxS t94 t95 5 fun t96 =>
 k_75 t96 M_73 none) (fun k => k .undef M_73 none) fun t96_76 M_77 b_78 =>
 guardK t87 false (fun k_79 => fldW t96_76 4 fun t97 =>
 k_79 t97 M_77 none) (fun k => k .undef M_77 none) fun t97_80 M_81 b_82 =>
 guardK t87 false (fun k_83 => load1 M_81 t97_80 fun t98 =>
 k_83 t98 M_81 none) (fun k => k .undef M_81 none) fun t98_84 M_85 b_86 =>
 guardK t87 false (fun k_87 => intW .neq t93_66 t98_84 fun t99 =>
 k_87 t99 M_85 none) (fun k => k .undef M_85 none) fun t99_88 M_89 b_90 =>
 pickW t87 (Bo true) t99_88 fun t100 =>
 condW t100 (
 Q (Bo false) M_89) (
 intW .add (nthD xs 0) (N .i64 1) fun t76 =>
 next [t76] M_89))) (
 loopW (fun next_92 xs_93 M_94 => -- [14]
 lenW t35 fun t103 =>
 intW .lss (nthD xs_93 0) t103 fun t104 =>
 condW t104 (
 idxS t35 (nthD xs_93 0) 1 fun t109 =>
 load1 M_94 t109 fun t110 =>
 idxS t40 (nthD xs_93 0) 1 fun t113 =>
 load1 M_94 t113 fun t114 =>
 strW .neq t110 t114 fun t115 =>
 guardK t115 false (fun k_95 => k_95 t36 M_94 none) (fun k => k .undef M_94 none) fun t117 M_96 b_97 =>
 guardK t115 false (fun k_98 => k_98 (nthD xs_93 0) M_96 none) (fun k => k .undef M_96 none) fun t118 M_99 b_100 =>
 guardK t115 false (fun k_101 => idxS t117 t118 1 fun t119 =>
 k_101 t119 M_99 none) (fun k => k .undef M_99 none) fun t119_102 M_103 b_104 =>
 guardK t115 false (fun k_105 => load1 M_103 t119_102 fun t120 =>
 k_105 t120 M_103 none) (fun k => k .undef M_103 none) fun t120_106 M_107 b_108 =>
 guardK t115 false (fun k_109 => k_109 t41 M_107 none) (fun k => k .undef M_107 none) fun t121 M_110 b_111 =>
 guardK t115 false (fun k_112 => k_112 (nthD xs_93 0) M_110 none) (fun k => k .undef M_110 none) fun t122 M_113 b_114 =>
 guardK t115 false (fun k_115 => idxS t121 t122 1 fun t123 =>
 k_115 t123 M_113 none) (fun k => k .undef M_113 none) fun t123_116 M_117 b_118 =>
 guardK t115 false (fun k_119 => load1 M_117 t123_116 fun t124 =>
 k_119 t124 M_117 none) (fun k => k .undef M_117 none) fun t124_120 M_121 b_122 =>
 guardK t115 false (fun k_123 => intW .neq t120_106 t124_120 fun t125 =>
 k_123 t125 M_121 none) (fun k => k .undef M_121 none) fun t125_124 M_125 b_126 =>
 pickW t115 (Bo true) t125_124 fun t126 =>
 condW t126 (
 Q (Bo false) M_125) (
 intW .add (nthD xs_93 0) (N .i64 1) fun t106 =>
 next_92 [t106] M_125)) (
 Q (Bo true) M_94)) [(N .i64 0)] M_49)) [(N .i64 0)] M_48)))

/-- rolodex/rolodexlaw23.VlinePrints -/
def W_rolodex_rolodexlaw23_VlinePrints (T_vline_Line : Nat) (c_rolodex_rolodexlaw23_awake : CallT) (c_rolodex_vline_Print : CallT) (c_rolodex_rolodexlaw23_of : CallT) (c_rolodex_rolodexref23_Print : CallT) (c_rolodex_vline_Read : CallT) (c_rolodex_rolodexref23_Same : CallT) (a0 : AV) (M0 : RM) (Q : PostV) : Prop :=
 boxW T_vline_Line a0 fun r f =>
 newW r f M0 fun t1 M =>
 c_rolodex_rolodexlaw23_awake [] M fun t11 M_0 =>
 notW t11 fun t12 =>
 condW t12 (
 Q (Bo false) M_0) (
 fldW t1 3 fun t13 =>
 load1 M_0 t13 fun t14 =>
 lenStr t14 fun t15 =>
 intW .gtr t15 (N .i64 3000) fun t16 =>
 guardM t16 false (fun k => fldW t1 2 fun t18 =>
 k t18 M_0) (fun k => k .undef M_0) fun t18_1 M_2 =>
 guardM t16 false (fun k_3 => load1 M_2 t18_1 fun t19 =>
 k_3 t19 M_2) (fun k => k .undef M_2) fun t19_4 M_5 =>
 guardM t16 false (fun k_6 => lenW t19_4 fun t20 =>
 k_6 t20 M_5) (fun k => k .undef M_5) fun t20_7 M_8 =>
 guardM t16 false (fun k_9 => intW .gtr t20_7 (N .i64 10) fun t21 =>
 k_9 t21 M_8) (fun k => k .undef M_8) fun t21_10 M_11 =>
 pickW t16 (Bo true) t21_10 fun t22 =>
 condW t22 (
 Q (Bo true) M_11) (
 loopW (fun next xs M_12 => -- [3]
 fldW t1 2 fun t24 =>
 load1 M_12 t24 fun t25 =>
 lenW t25 fun t26 =>
 intW .lss (nthD xs 0) t26 fun t27 =>
 condW t27 (
 fldW t1 2 fun t30 =>
 load1 M_12 t30 fun t31 =>
 idxS t31 (nthD xs 0) 2 fun t33 =>
 fldW t33 1 fun t34 =>
 load1 M_12 t34 fun t35 =>
 lenW t35 fun t36 =>
 intW .gtr t36 (N .i64 10) fun t37 =>
 condW t37 (
 Q (Bo true) M_12) (
 intW .add (nthD xs 0) (N .i64 1) fun t29 =>
 next [t29] M_12)) (
 loadN M_12 t1 5 fun t39 =>
 c_rolodex_vline_Print [t39] M_12 fun t40 M_13 =>
 extW t40 0 fun t41 =>
 extW t40 1 fun t42 =>
 loadN M_13 t1 5 fun t44 =>
 c_rolodex_rolodexlaw23_of [t44] M_13 fun t45 M_14 =>
 c_rolodex_rolodexref23_Print [t45] M_14 fun t46 M_15 =>
 extW t46 0 fun t47 =>
 extW t46 1 fun t48 =>
 intW .neq t42 t48 fun t51 =>
 guardM t51 false (fun k_16 => k_16 t41 M_15) (fun k => k .undef M_15) fun t53 M_17 =>
 guardM t51 false (fun k_18 => k_18 t47 M_17) (fun k => k .undef M_17) fun t54 M_19 =>
 guardM t51 false (fun k_20 => strW .neq t53 t54 fun t55 =>
 k_20 t55 M_19) (fun k => k .undef M_19) fun t55_21 M_22 =>
 pickW t51 (Bo true) t55_21 fun t56 =>
 condW t56 (
 Q (Bo false) M_22) (
 intW .neq t42 (N .i64 0) fun t58 =>
 condW t58 (
 Q (Bo true) M_22) (
 c_rolodex_vline_Read [t41] M_22 fun t61 M_23 =>
 extW t61 0 fun t62 =>
 extW t61 1 fun t63 =>
 extW t61 2 fun t64 =>
 intW .eql t64 (N .i64 0) fun t66 =>
 guardK t66 true (fun k_24 => k_24 t62 M_23 none) (fun k => k .undef M_23 none) fun t68 M_25 b =>
 guardK t66 true (fun k_26 => lenW t68 fun t69 =>
 k_26 t69 M_25 none) (fun k => k .undef M_25 none) fun t69_27 M_28 b_29 =>
 guardK t66 true (fun k_30 => intW .eql t69_27 (N .i64 1) fun t70 =>
 k_30 t70 M_28 none) (fun k => k .undef M_28 none) fun t70_31 M_32 b_33 =>
 pickW t66 t70_31 (Bo false) fun t71 =>
 guardK t71 true (fun k_34 => k_34 t62 M_32 none) (fun k => k .undef M_32 none) fun t73 M_35 b_36 =>
 guardK t71 true (fun k_37 => idxS t73 (N .i64 0) 5 fun t74 =>
 k_37 t74 M_35 none) (fun k => k .undef M_35 none) fun t74_38 M_39 b_40 =>
 guardK t71 true (fun k_41 => loadN M_39 t74_38 5 fun t75 =>
 k_41 t75 M_39 none) (fun k => k .undef M_39 none) fun t75_42 M_43 b_44 =>
 guardK t71 true (fun k_45 => loadN M_43 t1 5 fun t77 =>
 k_45 t77 M_43 none) (fun k => k .undef M_43 none) fun t77_46 M_47 b_48 =>
 guardM t71 true (fun k_49 => c_rolodex_rolodexlaw23_of [t75_42] M_47 fun t76 M_50 =>
 k_49 t76 M_50) (fun k => k .undef M_47) fun t76_51 M_52 =>
 guardP t71 true (fun k_53 => loadN M_52 t1 5 fun t77_54 =>
 (t77_54 = t77_46 ∧ k_53)) (fun k => k) (guardM t71 true (fun k_55 => c_rolodex_rolodexlaw23_of [t77_46] M_52 fun t78 M_56 =>
 k_55 t78 M_56) (fun k => k .undef M_52) fun t78_57 M_58 =>
 guardM t71 true (fun k_59 => c_rolodex_rolodexref23_Same [t76_51, t78_57] M_58 fun t79 M_60 =>
 k_59 t79 M_60) (fun k => k .undef M_58) fun t79_61 M_62 =>
 pickW t71 t79_61 (Bo false) fun t80 =>
 Q t80 M_62))))) [(N .i64 0)] M_11))

/-- rolodex/rolodexlaw23.VlineFolds -/
def W_rolodex_rolodexlaw23_VlineFolds (c_rolodex_rolodexlaw23_awake : CallT) (c_rolodex_vline_Fold : CallT) (c_rolodex_rolodexref23_Fold : CallT) (c_rolodex_rolodexref23_Raw : CallT) (c_rolodex_rolodexref23_Formed : CallT) (c_rolodex_vline_Unfold : CallT) (a0 : AV) (M0 : RM) (Q : PostV) : Prop :=
 c_rolodex_rolodexlaw23_awake [] M0 fun t9 M =>
 notW t9 fun t10 =>
 condW t10 (
 Q (Bo false) M) (
 lenStr a0 fun t12 =>
 intW .gtr t12 (N .i64 2000) fun t13 =>
 condW t13 (
 Q (Bo true) M) (
 c_rolodex_vline_Fold [a0] M fun t15 M_0 =>
 c_rolodex_rolodexref23_Fold [a0] M_0 fun t18 M_1 =>
 strW .neq t15 t18 fun t19 =>
 condW t19 (
 Q (Bo false) M_1) (
 loopW (fun next xs M_2 => -- [4]
 lenStr a0 fun t22 =>
 intW .lss (nthD xs 0) t22 fun t23 =>
 condW t23 (
 idxB a0 (nthD xs 0) fun t28 =>
 intW .eql t28 (N .u8 10) fun t29 =>
 guardM t29 false (fun k => k a0 M_2) (fun k => k .undef M_2) fun t31 M_3 =>
 guardM t29 false (fun k_4 => k_4 (nthD xs 0) M_3) (fun k => k .undef M_3) fun t32 M_5 =>
 guardM t29 false (fun k_6 => idxB t31 t32 fun t33 =>
 k_6 t33 M_5) (fun k => k .undef M_5) fun t33_7 M_8 =>
 guardM t29 false (fun k_9 => intW .eql t33_7 (N .u8 13) fun t34 =>
 k_9 t34 M_8) (fun k => k .undef M_8) fun t34_10 M_11 =>
 pickW t29 (Bo true) t34_10 fun t35 =>
 condW t35 (
 Q (Bo true) M_11) (
 intW .add (nthD xs 0) (N .i64 1) fun t25 =>
 next [t25] M_11)) (
 strW .add t15 (St [13, 10]) fun t37 =>
 c_rolodex_rolodexref23_Raw [t37] M_2 fun t38 M_12 =>
 loopW (fun next_13 xs_14 M_15 => -- [6]
 lenW t38 fun t41 =>
 intW .lss (nthD xs_14 0) t41 fun t42 =>
 condW t42 (
 idxS t38 (nthD xs_14 0) 1 fun t47 =>
 load1 M_15 t47 fun t48 =>
 lenStr t48 fun t49 =>
 intW .gtr t49 (N .i64 75) fun t50 =>
 guardM t50 false (fun k_16 => k_16 a0 M_15) (fun k => k .undef M_15) fun t52 M_17 =>
 guardM t50 false (fun k_18 => c_rolodex_rolodexref23_Formed [t52] M_17 fun t53 M_19 =>
 k_18 t53 M_19) (fun k => k .undef M_17) fun t53_20 M_21 =>
 guardM t50 false (fun k_22 => k_22 t53_20 M_21) (fun k => k .undef M_21) fun t54 M_23 =>
 guardM t54 true (fun k_24 => k_24 t38 M_23) (fun k => k .undef M_23) fun t55 M_25 =>
 guardM t54 true (fun k_26 => k_26 (nthD xs_14 0) M_25) (fun k => k .undef M_25) fun t56 M_27 =>
 guardM t54 true (fun k_28 => idxS t55 t56 1 fun t57 =>
 k_28 t57 M_27) (fun k => k .undef M_27) fun t57_29 M_30 =>
 guardM t54 true (fun k_31 => load1 M_30 t57_29 fun t58 =>
 k_31 t58 M_30) (fun k => k .undef M_30) fun t58_32 M_33 =>
 guardM t54 true (fun k_34 => c_rolodex_rolodexref23_Formed [t58_32] M_33 fun t59 M_35 =>
 k_34 t59 M_35) (fun k => k .undef M_33) fun t59_36 M_37 =>
 guardM t54 true (fun k_38 => notW t59_36 fun t60 =>
 k_38 t60 M_37) (fun k => k .undef M_37) fun t60_39 M_40 =>
 guardM t50 false (fun k_41 => pickW t54 t60_39 (Bo false) fun t61 =>
 k_41 t61 M_40) (fun k => k .undef M_40) fun t61_42 M_43 =>
 pickW t50 (Bo true) t61_42 fun t62 =>
 condW t62 (
 Q (Bo false) M_43) (
 intW .add (nthD xs_14 0) (N .i64 1) fun t44 =>
 next_13 [t44] M_43)) (
 strW .add t15 (St [13, 10]) fun t65 =>
 c_rolodex_vline_Unfold [t65] M_15 fun t66 M_44 =>
 extW t66 0 fun t67 =>
 extW t66 1 fun t68 =>
 lenStr a0 fun t70 =>
 intW .gtr t70 (N .i64 0) fun t71 =>
 guardM t71 true (fun k_45 => k_45 a0 M_44) (fun k => k .undef M_44) fun t73 M_46 =>
 guardM t71 true (fun k_47 => idxB t73 (N .i64 0) fun t74 =>
 k_47 t74 M_46) (fun k => k .undef M_46) fun t74_48 M_49 =>
 guardM t71 true (fun k_50 => intW .eql t74_48 (N .u8 32) fun t75 =>
 k_50 t75 M_49) (fun k => k .undef M_49) fun t75_51 M_52 =>
 guardM t71 true (fun k_53 => k_53 t75_51 M_52) (fun k => k .undef M_52) fun t76 M_54 =>
 guardM t76 false (fun k_55 => k_55 a0 M_54) (fun k => k .undef M_54) fun t77 M_56 =>
 guardM t76 false (fun k_57 => idxB t77 (N .i64 0) fun t78 =>
 k_57 t78 M_56) (fun k => k .undef M_56) fun t78_58 M_59 =>
 guardM t76 false (fun k_60 => intW .eql t78_58 (N .u8 9) fun t79 =>
 k_60 t79 M_59) (fun k => k .undef M_59) fun t79_61 M_62 =>
 guardM t71 true (fun k_63 => pickW t76 (Bo true) t79_61 fun t80 =>
 k_63 t80 M_62) (fun k => k .undef M_62) fun t80_64 M_65 =>
 pickW t71 t80_64 (Bo false) fun t81 =>
 condW t81 (
 Q (Bo true) M_65) (
 lenW t67 fun t83 =>
 intW .eql t83 (N .i64 1) fun t84 =>
 guardM t84 true (fun k_66 => k_66 t67 M_65) (fun k => k .undef M_65) fun t86 M_67 =>
 guardM t84 true (fun k_68 => idxS t86 (N .i64 0) 1 fun t87 =>
 k_68 t87 M_67) (fun k => k .undef M_67) fun t87_69 M_70 =>
 guardM t84 true (fun k_71 => load1 M_70 t87_69 fun t88 =>
 k_71 t88 M_70) (fun k => k .undef M_70) fun t88_72 M_73 =>
 guardM t84 true (fun k_74 => k_74 a0 M_73) (fun k => k .undef M_73) fun t89 M_75 =>
 guardM t84 true (fun k_76 => strW .eql t88_72 t89 fun t90 =>
 k_76 t90 M_75) (fun k => k .undef M_75) fun t90_77 M_78 =>
 pickW t84 t90_77 (Bo false) fun t91 =>
 Q t91 M_78))) [(N .i64 0)] M_12)) [(N .i64 0)] M_1)))

/-- rolodex/rolodexlaw23.VlineEscapes -/
def W_rolodex_rolodexlaw23_VlineEscapes (c_rolodex_rolodexlaw23_awake : CallT) (c_rolodex_vline_Escape : CallT) (c_rolodex_vline_Unescape : CallT) (c_rolodex_rolodexref23_Unescape : CallT) (c_rolodex_rolodexref23_Escape : CallT) (c_rolodex_vline_Split : CallT) (c_rolodex_rolodexref23_Split : CallT) (a0 a1 : AV) (M0 : RM) (Q : PostV) : Prop :=
 c_rolodex_rolodexlaw23_awake [] M0 fun t16 M =>
 notW t16 fun t17 =>
 condW t17 (
 Q (Bo false) M) (
 lenStr a0 fun t19 =>
 intW .gtr t19 (N .i64 2000) fun t20 =>
 condW t20 (
 Q (Bo true) M) (
 c_rolodex_vline_Escape [a0] M fun t22 M_0 =>
 c_rolodex_vline_Unescape [t22] M_0 fun t25 M_1 =>
 extW t25 0 fun t26 =>
 extW t25 1 fun t27 =>
 c_rolodex_vline_Unescape [a0] M_1 fun t30 M_2 =>
 extW t30 0 fun t31 =>
 extW t30 1 fun t32 =>
 c_rolodex_rolodexref23_Unescape [a0] M_2 fun t35 M_3 =>
 extW t35 0 fun t36 =>
 extW t35 1 fun t37 =>
 c_rolodex_rolodexref23_Escape [a0] M_3 fun t40 M_4 =>
 strW .neq t22 t40 fun t41 =>
 guardM t41 false (fun k => k t27 M_4) (fun k => k .undef M_4) fun t43 M_5 =>
 guardM t41 false (fun k_6 => intW .neq t43 (N .i64 0) fun t44 =>
 k_6 t44 M_5) (fun k => k .undef M_5) fun t44_7 M_8 =>
 pickW t41 (Bo true) t44_7 fun t45 =>
 guardM t45 false (fun k_9 => k_9 t26 M_8) (fun k => k .undef M_8) fun t47 M_10 =>
 guardM t45 false (fun k_11 => k_11 a0 M_10) (fun k => k .undef M_10) fun t48 M_12 =>
 guardM t45 false (fun k_13 => strW .neq t47 t48 fun t49 =>
 k_13 t49 M_12) (fun k => k .undef M_12) fun t49_14 M_15 =>
 pickW t45 (Bo true) t49_14 fun t50 =>
 guardM t50 false (fun k_16 => k_16 t37 M_15) (fun k => k .undef M_15) fun t52 M_17 =>
 guardM t50 false (fun k_18 => k_18 t52 M_17) (fun k => k .undef M_17) fun t53 M_19 =>
 guardM t53 true (fun k_20 => k_20 t32 M_19) (fun k => k .undef M_19) fun t54 M_21 =>
 guardM t53 true (fun k_22 => intW .neq t54 (N .i64 0) fun t55 =>
 k_22 t55 M_21) (fun k => k .undef M_21) fun t55_23 M_24 =>
 guardM t53 true (fun k_25 => k_25 t55_23 M_24) (fun k => k .undef M_24) fun t56 M_26 =>
 guardM t56 false (fun k_27 => k_27 t31 M_26) (fun k => k .undef M_26) fun t57 M_28 =>
 guardM t56 false (fun k_29 => k_29 t36 M_28) (fun k => k .undef M_28) fun t58 M_30 =>
 guardM t56 false (fun k_31 => strW .neq t57 t58 fun t59 =>
 k_31 t59 M_30) (fun k => k .undef M_30) fun t59_32 M_33 =>
 guardM t53 true (fun k_34 => pickW t56 (Bo true) t59_32 fun t60 =>
 k_34 t60 M_33) (fun k => k .undef M_33) fun t60_35 M_36 =>
 guardM t50 false (fun k_37 => pickW t53 t60_35 (Bo false) fun t61 =>
 k_37 t61 M_36) (fun k => k .undef M_36) fun t61_38 M_39 =>
 pickW t50 (Bo true) t61_38 fun t62 =>
 guardM t62 false (fun k_40 => k_40 t37 M_39) (fun k => k .undef M_39) fun t64 M_41 =>
 guardM t62 false (fun k_42 => notW t64 fun t65 =>
 k_42 t65 M_41) (fun k => k .undef M_41) fun t65_43 M_44 =>
 guardM t62 false (fun k_45 => k_45 t65_43 M_44) (fun k => k .undef M_44) fun t66 M_46 =>
 guardM t66 true (fun k_47 => k_47 t32 M_46) (fun k => k .undef M_46) fun t67 M_48 =>
 guardM t66 true (fun k_49 => intW .neq t67 (N .i64 14) fun t68 =>
 k_49 t68 M_48) (fun k => k .undef M_48) fun t68_50 M_51 =>
 guardM t66 true (fun k_52 => k_52 t68_50 M_51) (fun k => k .undef M_51) fun t69 M_53 =>
 guardM t69 false (fun k_54 => k_54 t31 M_53) (fun k => k .undef M_53) fun t70 M_55 =>
 guardM t69 false (fun k_56 => strW .neq t70 (St []) fun t71 =>
 k_56 t71 M_55) (fun k => k .undef M_55) fun t71_57 M_58 =>
 guardM t66 true (fun k_59 => pickW t69 (Bo true) t71_57 fun t72 =>
 k_59 t72 M_58) (fun k => k .undef M_58) fun t72_60 M_61 =>
 guardM t62 false (fun k_62 => pickW t66 t72_60 (Bo false) fun t73 =>
 k_62 t73 M_61) (fun k => k .undef M_61) fun t73_63 M_64 =>
 pickW t62 (Bo true) t73_63 fun t74 =>
 condW t74 (
 Q (Bo false) M_64) (
 c_rolodex_vline_Split [a0, a1] M_64 fun t77 M_65 =>
 c_rolodex_rolodexref23_Split [a0, a1] M_65 fun t80 M_66 =>
 lenW t77 fun t82 =>
 lenW t80 fun t84 =>
 intW .neq t82 t84 fun t85 =>
 condW t85 (
 Q (Bo false) M_66) (
 loopW (fun next xs M_67 => -- [14]
 lenW t77 fun t88 =>
 intW .lss (nthD xs 0) t88 fun t89 =>
 condW t89 (
 idxS t77 (nthD xs 0) 1 fun t94 =>
 load1 M_67 t94 fun t95 =>
 idxS t80 (nthD xs 0) 1 fun t98 =>
 load1 M_67 t98 fun t99 =>
 strW .neq t95 t99 fun t100 =>
 condW t100 (
 Q (Bo false) M_67) (
 intW .add (nthD xs 0) (N .i64 1) fun t91 =>
 next [t91] M_67)) (
 loopW (fun next_68 xs_69 M_70 => -- [15]
 lenStr t22 fun t103 =>
 intW .lss (nthD xs_69 0) t103 fun t104 =>
 condW t104 (
 idxB t22 (nthD xs_69 0) fun t109 =>
 intW .eql t109 (N .u8 10) fun t110 =>
 condW t110 (
 Q (Bo false) M_70) (
 intW .add (nthD xs_69 0) (N .i64 1) fun t106 =>
 next_68 [t106] M_70)) (
 Q (Bo true) M_70)) [(N .i64 0)] M_67)) [(N .i64 0)] M_66))))

/-- rolodex/rolodexlaw23.VlineEnds -/
def W_rolodex_rolodexlaw23_VlineEnds (c_rolodex_rolodexlaw23_awake : CallT) (c_rolodex_rolodexref23_Raw : CallT) (c_rolodex_vline_Read : CallT) (c_rolodex_rolodexlaw23_of : CallT) (c_rolodex_rolodexref23_Same : CallT) (a0 : AV) (M0 : RM) (Q : PostV) : Prop :=
 c_rolodex_rolodexlaw23_awake [] M0 fun t15 M =>
 notW t15 fun t16 =>
 condW t16 (
 Q (Bo false) M) (
 lenStr a0 fun t18 =>
 intW .gtr t18 (N .i64 3000) fun t19 =>
 condW t19 (
 Q (Bo true) M) (
 c_rolodex_rolodexref23_Raw [a0] M fun t21 M_0 =>
 loopW (fun next xs M_1 => -- [4, 5, 6]
 lenW t21 fun t24 =>
 intW .lss (nthD xs 2) t24 fun t25 =>
 condW t25 (
 loopW (fun next_2 xs_3 M_4 => -- [7]
 idxS t21 (nthD xs 2) 1 fun t31 =>
 load1 M_4 t31 fun t32 =>
 lenStr t32 fun t33 =>
 intW .lss (nthD xs_3 0) t33 fun t34 =>
 condW t34 (
 idxS t21 (nthD xs 2) 1 fun t39 =>
 load1 M_4 t39 fun t40 =>
 idxB t40 (nthD xs_3 0) fun t42 =>
 intW .eql t42 (N .u8 13) fun t43 =>
 condW t43 (
 Q (Bo true) M_4) (
 intW .add (nthD xs_3 0) (N .i64 1) fun t36 =>
 next_2 [t36] M_4)) (
 idxS t21 (nthD xs 2) 1 fun t47 =>
 load1 M_4 t47 fun t48 =>
 strW .add (nthD xs 0) t48 fun t49 =>
 strW .add t49 (St [10]) fun t50 =>
 idxS t21 (nthD xs 2) 1 fun t54 =>
 load1 M_4 t54 fun t55 =>
 strW .add (nthD xs 1) t55 fun t56 =>
 strW .add t56 (St [13, 10]) fun t57 =>
 intW .add (nthD xs 2) (N .i64 1) fun t27 =>
 next [t50, t57, t27] M_4)) [(N .i64 0)] M_1) (
 c_rolodex_vline_Read [(nthD xs 0)] M_1 fun t60 M_5 =>
 extW t60 0 fun t61 =>
 extW t60 1 fun t62 =>
 extW t60 2 fun t63 =>
 c_rolodex_vline_Read [(nthD xs 1)] M_5 fun t66 M_6 =>
 extW t66 0 fun t67 =>
 extW t66 1 fun t68 =>
 extW t66 2 fun t69 =>
 intW .neq t63 t69 fun t72 =>
 guardM t72 false (fun k => k t62 M_6) (fun k => k .undef M_6) fun t74 M_7 =>
 guardM t72 false (fun k_8 => k_8 t68 M_7) (fun k => k .undef M_7) fun t75 M_9 =>
 guardM t72 false (fun k_10 => intW .neq t74 t75 fun t76 =>
 k_10 t76 M_9) (fun k => k .undef M_9) fun t76_11 M_12 =>
 pickW t72 (Bo true) t76_11 fun t77 =>
 guardM t77 false (fun k_13 => k_13 t61 M_12) (fun k => k .undef M_12) fun t79 M_14 =>
 guardM t77 false (fun k_15 => lenW t79 fun t80 =>
 k_15 t80 M_14) (fun k => k .undef M_14) fun t80_16 M_17 =>
 guardM t77 false (fun k_18 => k_18 t67 M_17) (fun k => k .undef M_17) fun t81 M_19 =>
 guardM t77 false (fun k_20 => lenW t81 fun t82 =>
 k_20 t82 M_19) (fun k => k .undef M_19) fun t82_21 M_22 =>
 guardM t77 false (fun k_23 => intW .neq t80_16 t82_21 fun t83 =>
 k_23 t83 M_22) (fun k => k .undef M_22) fun t83_24 M_25 =>
 pickW t77 (Bo true) t83_24 fun t84 =>
 condW t84 (
 Q (Bo false) M_25) (
 loopW (fun next_26 xs_27 M_28 => -- [14]
 lenW t61 fun t87 =>
 intW .lss (nthD xs_27 0) t87 fun t88 =>
 condW t88 (
 idxS t61 (nthD xs_27 0) 5 fun t93 =>
 loadN M_28 t93 5 fun t94 =>
 idxS t67 (nthD xs_27 0) 5 fun t98 =>
 loadN M_28 t98 5 fun t99 =>
 c_rolodex_rolodexlaw23_of [t94] M_28 fun t95 M_29 =>
 loadN M_29 t98 5 fun t99_71 =>
 (t99_71 = t99 ∧ c_rolodex_rolodexlaw23_of [t99] M_29 fun t100 M_30 =>
 c_rolodex_rolodexref23_Same [t95, t100] M_30 fun t101 M_31 =>
 notW t101 fun t102 =>
 guardK t102 false (fun k_32 => k_32 t61 M_31 none) (fun k => k .undef M_31 none) fun t104 M_33 b =>
 guardK t102 false (fun k_34 => k_34 (nthD xs_27 0) M_33 none) (fun k => k .undef M_33 none) fun t105 M_35 b_36 =>
 guardK t102 false (fun k_37 => idxS t104 t105 5 fun t106 =>
 k_37 t106 M_35 none) (fun k => k .undef M_35 none) fun t106_38 M_39 b_40 =>
 guardK t102 false (fun k_41 => fldW t106_38 4 fun t107 =>
 k_41 t107 M_39 none) (fun k => k .undef M_39 none) fun t107_42 M_43 b_44 =>
 guardK t102 false (fun k_45 => load1 M_43 t107_42 fun t108 =>
 k_45 t108 M_43 none) (fun k => k .undef M_43 none) fun t108_46 M_47 b_48 =>
 guardK t102 false (fun k_49 => k_49 t67 M_47 none) (fun k => k .undef M_47 none) fun t109 M_50 b_51 =>
 guardK t102 false (fun k_52 => k_52 (nthD xs_27 0) M_50 none) (fun k => k .undef M_50 none) fun t110 M_53 b_54 =>
 guardK t102 false (fun k_55 => idxS t109 t110 5 fun t111 =>
 k_55 t111 M_53 none) (fun k => k .undef M_53 none) fun t111_56 M_57 b_58 =>
 guardK t102 false (fun k_59 => fldW t111_56 4 fun t112 =>
 k_59 t112 M_57 none) (fun k => k .undef M_57 none) fun t112_60 M_61 b_62 =>
 guardK t102 false (fun k_63 => load1 M_61 t112_60 fun t113 =>
 k_63 t113 M_61 none) (fun k => k .undef M_61 none) fun t113_64 M_65 b_66 =>
 guardK t102 false (fun k_67 => intW .neq t108_46 t113_64 fun t114 =>
 k_67 t114 M_65 none) (fun k => k .undef M_65 none) fun t114_68 M_69 b_70 =>
 pickW t102 (Bo true) t114_68 fun t115 =>
 condW t115 (
 Q (Bo false) M_69) (
 intW .add (nthD xs_27 0) (N .i64 1) fun t90 =>
 next_26 [t90] M_69))) (
 Q (Bo true) M_28)) [(N .i64 0)] M_25))) [(St []), (St []), (N .i64 0)] M_0))

/-- rolodex/rolodexlaw23.VlineAnywhere -/
def W_rolodex_rolodexlaw23_VlineAnywhere (T_vline_Line : Nat) (c_rolodex_rolodexlaw23_awake : CallT) (c_rolodex_vline_Print : CallT) (c_rolodex_vline_Unfold : CallT) (c_rolodex_vline_Read : CallT) (c_rolodex_rolodexlaw23_of : CallT) (c_rolodex_rolodexref23_Same : CallT) (a0 a1 a2 : AV) (M0 : RM) (Q : PostV) : Prop :=
 boxW T_vline_Line a0 fun r f =>
 newW r f M0 fun t3 M =>
 c_rolodex_rolodexlaw23_awake [] M fun t15 M_0 =>
 notW t15 fun t16 =>
 condW t16 (
 Q (Bo false) M_0) (
 fldW t3 3 fun t17 =>
 load1 M_0 t17 fun t18 =>
 lenStr t18 fun t19 =>
 intW .gtr t19 (N .i64 1000) fun t20 =>
 guardM t20 false (fun k => fldW t3 2 fun t22 =>
 k t22 M_0) (fun k => k .undef M_0) fun t22_1 M_2 =>
 guardM t20 false (fun k_3 => load1 M_2 t22_1 fun t23 =>
 k_3 t23 M_2) (fun k => k .undef M_2) fun t23_4 M_5 =>
 guardM t20 false (fun k_6 => lenW t23_4 fun t24 =>
 k_6 t24 M_5) (fun k => k .undef M_5) fun t24_7 M_8 =>
 guardM t20 false (fun k_9 => intW .gtr t24_7 (N .i64 5) fun t25 =>
 k_9 t25 M_8) (fun k => k .undef M_8) fun t25_10 M_11 =>
 pickW t20 (Bo true) t25_10 fun t26 =>
 condW t26 (
 Q (Bo true) M_11) (
 loadN M_11 t3 5 fun t28 =>
 c_rolodex_vline_Print [t28] M_11 fun t29 M_12 =>
 extW t29 0 fun t30 =>
 extW t29 1 fun t31 =>
 intW .neq t31 (N .i64 0) fun t33 =>
 condW t33 (
 Q (Bo true) M_12) (
 c_rolodex_vline_Unfold [t30] M_12 fun t36 M_13 =>
 extW t36 0 fun t37 =>
 extW t36 1 fun t38 =>
 lenW t37 fun t40 =>
 intW .neq t40 (N .i64 1) fun t41 =>
 guardM t41 false (fun k_14 => k_14 a1 M_13) (fun k => k .undef M_13) fun t43 M_15 =>
 guardM t41 false (fun k_16 => intW .lss t43 (N .i64 1) fun t44 =>
 k_16 t44 M_15) (fun k => k .undef M_15) fun t44_17 M_18 =>
 pickW t41 (Bo true) t44_17 fun t45 =>
 guardM t45 false (fun k_19 => k_19 a1 M_18) (fun k => k .undef M_18) fun t47 M_20 =>
 guardM t45 false (fun k_21 => k_21 t37 M_20) (fun k => k .undef M_20) fun t48 M_22 =>
 guardM t45 false (fun k_23 => idxS t48 (N .i64 0) 1 fun t49 =>
 k_23 t49 M_22) (fun k => k .undef M_22) fun t49_24 M_25 =>
 guardM t45 false (fun k_26 => load1 M_25 t49_24 fun t50 =>
 k_26 t50 M_25) (fun k => k .undef M_25) fun t50_27 M_28 =>
 guardM t45 false (fun k_29 => lenStr t50_27 fun t51 =>
 k_29 t51 M_28) (fun k => k .undef M_28) fun t51_30 M_31 =>
 guardM t45 false (fun k_32 => intW .geq t47 t51_30 fun t52 =>
 k_32 t52 M_31) (fun k => k .undef M_31) fun t52_33 M_34 =>
 pickW t45 (Bo true) t52_33 fun t53 =>
 condW t53 (
 lenW t37 fun t55 =>
 intW .eql t55 (N .i64 1) fun t56 =>
 Q t56 M_34) (
 joinW (fun J =>
 condW a2 (
 J [(St [10, 9])] M_34) (
 J [(St [13, 10, 32])] M_34)) (fun xs M_35 => -- [11]
 idxS t37 (N .i64 0) 1 fun t60 =>
 load1 M_35 t60 fun t61 =>
 getW (subStr t61 none (some a1)) fun t63 =>
 strW .add t63 (nthD xs 0) fun t65 =>
 idxS t37 (N .i64 0) 1 fun t67 =>
 load1 M_35 t67 fun t68 =>
 getW (subStr t68 (some a1) none) fun t70 =>
 strW .add t65 t70 fun t71 =>
 strW .add t71 (St [10]) fun t72 =>
 c_rolodex_vline_Read [t72] M_35 fun t73 M_36 =>
 extW t73 0 fun t74 =>
 extW t73 1 fun t75 =>
 extW t73 2 fun t76 =>
 intW .eql t76 (N .i64 0) fun t78 =>
 guardK t78 true (fun k_37 => k_37 t74 M_36 none) (fun k => k .undef M_36 none) fun t80 M_38 b =>
 guardK t78 true (fun k_39 => lenW t80 fun t81 =>
 k_39 t81 M_38 none) (fun k => k .undef M_38 none) fun t81_40 M_41 b_42 =>
 guardK t78 true (fun k_43 => intW .eql t81_40 (N .i64 1) fun t82 =>
 k_43 t82 M_41 none) (fun k => k .undef M_41 none) fun t82_44 M_45 b_46 =>
 pickW t78 t82_44 (Bo false) fun t83 =>
 guardK t83 true (fun k_47 => k_47 t74 M_45 none) (fun k => k .undef M_45 none) fun t85 M_48 b_49 =>
 guardK t83 true (fun k_50 => idxS t85 (N .i64 0) 5 fun t86 =>
 k_50 t86 M_48 none) (fun k => k .undef M_48 none) fun t86_51 M_52 b_53 =>
 guardK t83 true (fun k_54 => loadN M_52 t86_51 5 fun t87 =>
 k_54 t87 M_52 none) (fun k => k .undef M_52 none) fun t87_55 M_56 b_57 =>
 guardK t83 true (fun k_58 => loadN M_56 t3 5 fun t89 =>
 k_58 t89 M_56 none) (fun k => k .undef M_56 none) fun t89_59 M_60 b_61 =>
 guardM t83 true (fun k_62 => c_rolodex_rolodexlaw23_of [t87_55] M_60 fun t88 M_63 =>
 k_62 t88 M_63) (fun k => k .undef M_60) fun t88_64 M_65 =>
 guardP t83 true (fun k_66 => loadN M_65 t3 5 fun t89_67 =>
 (t89_67 = t89_59 ∧ k_66)) (fun k => k) (guardM t83 true (fun k_68 => c_rolodex_rolodexlaw23_of [t89_59] M_65 fun t90 M_69 =>
 k_68 t90 M_69) (fun k => k .undef M_65) fun t90_70 M_71 =>
 guardM t83 true (fun k_72 => c_rolodex_rolodexref23_Same [t88_64, t90_70] M_71 fun t91 M_73 =>
 k_72 t91 M_73) (fun k => k .undef M_71) fun t91_74 M_75 =>
 pickW t83 t91_74 (Bo false) fun t92 =>
 Q t92 M_75))))))

/-- rolodex/rolodexlaw23.awake -/
def W_rolodex_rolodexlaw23_awake (c_rolodex_vline_Read : CallT) (c_rolodex_vline_Print : CallT) (c_rolodex_vline_Unfold : CallT) (c_rolodex_vline_Unescape : CallT) (c_rolodex_vline_Split : CallT) (c_rolodex_vline_Fold : CallT) (c_rolodex_vline_Escape : CallT) (M0 : RM) (Q : PostV) : Prop :=
 c_rolodex_vline_Read [(St [84, 69, 76, 59, 84, 89, 80, 69, 61, 104, 111, 109, 101, 58, 49, 50, 10])] M0 fun t16 M =>
 extW t16 0 fun t17 =>
 extW t16 1 fun t18 =>
 extW t16 2 fun t19 =>
 intW .neq t19 (N .i64 0) fun t21 =>
 guardM t21 false (fun k => k t18 M) (fun k => k .undef M) fun t23 M_0 =>
 guardM t21 false (fun k_1 => intW .neq t23 (N .i64 0) fun t24 =>
 k_1 t24 M_0) (fun k => k .undef M_0) fun t24_2 M_3 =>
 pickW t21 (Bo true) t24_2 fun t25 =>
 guardM t25 false (fun k_4 => k_4 t17 M_3) (fun k => k .undef M_3) fun t27 M_5 =>
 guardM t25 false (fun k_6 => lenW t27 fun t28 =>
 k_6 t28 M_5) (fun k => k .undef M_5) fun t28_7 M_8 =>
 guardM t25 false (fun k_9 => intW .neq t28_7 (N .i64 1) fun t29 =>
 k_9 t29 M_8) (fun k => k .undef M_8) fun t29_10 M_11 =>
 pickW t25 (Bo true) t29_10 fun t30 =>
 guardM t30 false (fun k_12 => k_12 t17 M_11) (fun k => k .undef M_11) fun t32 M_13 =>
 guardM t30 false (fun k_14 => idxS t32 (N .i64 0) 5 fun t33 =>
 k_14 t33 M_13) (fun k => k .undef M_13) fun t33_15 M_16 =>
 guardM t30 false (fun k_17 => fldW t33_15 2 fun t34 =>
 k_17 t34 M_16) (fun k => k .undef M_16) fun t34_18 M_19 =>
 guardM t30 false (fun k_20 => load1 M_19 t34_18 fun t35 =>
 k_20 t35 M_19) (fun k => k .undef M_19) fun t35_21 M_22 =>
 guardM t30 false (fun k_23 => lenW t35_21 fun t36 =>
 k_23 t36 M_22) (fun k => k .undef M_22) fun t36_24 M_25 =>
 guardM t30 false (fun k_26 => intW .neq t36_24 (N .i64 1) fun t37 =>
 k_26 t37 M_25) (fun k => k .undef M_25) fun t37_27 M_28 =>
 pickW t30 (Bo true) t37_27 fun t38 =>
 condW t38 (
 Q (Bo false) M_28) (
 c_rolodex_vline_Read [(St [65, 58, 49, 10, 66])] M_28 fun t40 M_29 =>
 extW t40 0 fun t41 =>
 extW t40 1 fun t42 =>
 extW t40 2 fun t43 =>
 idxS t17 (N .i64 0) 5 fun t46 =>
 loadN M_29 t46 5 fun t47 =>
 c_rolodex_vline_Print [t47] M_29 fun t48 M_30 =>
 extW t48 0 fun t49 =>
 extW t48 1 fun t50 =>
 c_rolodex_vline_Unfold [(St [97, 10, 32, 98, 13, 10, 99])] M_30 fun t52 M_31 =>
 extW t52 0 fun t53 =>
 extW t52 1 fun t54 =>
 c_rolodex_vline_Unescape [(St [97, 92, 44, 98])] M_31 fun t56 M_32 =>
 extW t56 0 fun t57 =>
 extW t56 1 fun t58 =>
 c_rolodex_vline_Split [(St [97, 44, 98, 92, 44, 99]), (N .u8 44)] M_32 fun t59 M_33 =>
 idxS t17 (N .i64 0) 5 fun t61 =>
 fldW t61 1 fun t62 =>
 load1 M_33 t62 fun t63 =>
 strW .eql t63 (St [116, 101, 108]) fun t64 =>
 guardK t64 true (fun k_34 => k_34 t17 M_33 none) (fun k => k .undef M_33 none) fun t66 M_35 b =>
 guardK t64 true (fun k_36 => idxS t66 (N .i64 0) 5 fun t67 =>
 k_36 t67 M_35 none) (fun k => k .undef M_35 none) fun t67_37 M_38 b_39 =>
 guardK t64 true (fun k_40 => fldW t67_37 3 fun t68 =>
 k_40 t68 M_38 none) (fun k => k .undef M_38 none) fun t68_41 M_42 b_43 =>
 guardK t64 true (fun k_44 => load1 M_42 t68_41 fun t69 =>
 k_44 t69 M_42 none) (fun k => k .undef M_42 none) fun t69_45 M_46 b_47 =>
 guardK t64 true (fun k_48 => strW .eql t69_45 (St [49, 50]) fun t70 =>
 k_48 t70 M_46 none) (fun k => k .undef M_46 none) fun t70_49 M_50 b_51 =>
 pickW t64 t70_49 (Bo false) fun t71 =>
 guardK t71 true (fun k_52 => k_52 t17 M_50 none) (fun k => k .undef M_50 none) fun t73 M_53 b_54 =>
 guardK t71 true (fun k_55 => idxS t73 (N .i64 0) 5 fun t74 =>
 k_55 t74 M_53 none) (fun k => k .undef M_53 none) fun t74_56 M_57 b_58 =>
 guardK t71 true (fun k_59 => fldW t74_56 2 fun t75 =>
 k_59 t75 M_57 none) (fun k => k .undef M_57 none) fun t75_60 M_61 b_62 =>
 guardK t71 true (fun k_63 => load1 M_61 t75_60 fun t76 =>
 k_63 t76 M_61 none) (fun k => k .undef M_61 none) fun t76_64 M_65 b_66 =>
 guardK t71 true (fun k_67 => idxS t76_64 (N .i64 0) 2 fun t77 =>
 k_67 t77 M_65 none) (fun k => k .undef M_65 none) fun t77_68 M_69 b_70 =>
 guardK t71 true (fun k_71 => fldW t77_68 0 fun t78 =>
 k_71 t78 M_69 none) (fun k => k .undef M_69 none) fun t78_72 M_73 b_74 =>
 guardK t71 true (fun k_75 => load1 M_73 t78_72 fun t79 =>
 k_75 t79 M_73 none) (fun k => k .undef M_73 none) fun t79_76 M_77 b_78 =>
 guardK t71 true (fun k_79 => strW .eql t79_76 (St [116, 121, 112, 101]) fun t80 =>
 k_79 t80 M_77 none) (fun k => k .undef M_77 none) fun t80_80 M_81 b_82 =>
 pickW t71 t80_80 (Bo false) fun t81 =>
 guardK t81 true (fun k_83 => k_83 t17 M_81 none) (fun k => k .undef M_81 none) fun t83 M_84 b_85 =>
 guardK t81 true (fun k_86 => idxS t83 (N .i64 0) 5 fun t84 =>
 k_86 t84 M_84 none) (fun k => k .undef M_84 none) fun t84_87 M_88 b_89 =>
 guardK t81 true (fun k_90 => fldW t84_87 2 fun t85 =>
 k_90 t85 M_88 none) (fun k => k .undef M_88 none) fun t85_91 M_92 b_93 =>
 guardK t81 true (fun k_94 => load1 M_92 t85_91 fun t86 =>
 k_94 t86 M_92 none) (fun k => k .undef M_92 none) fun t86_95 M_96 b_97 =>
 guardK t81 true (fun k_98 => idxS t86_95 (N .i64 0) 2 fun t87 =>
 k_98 t87 M_96 none) (fun k => k .undef M_96 none) fun t87_99 M_100 b_101 =>
 guardK t81 true (fun k_102 => fldW t87_99 1 fun t88 =>
 k_102 t88 M_100 none) (fun k => k .undef M_100 none) fun t88_103 M_104 b_105 =>
 guardK t81 true (fun k_106 => load1 M_104 t88_103 fun t89 =>
 k_106 t89 M_104 none) (fun k => k .undef M_104 none) fun t89_107 M_108 b_109 =>
 guardK t81 true (fun k_110 => idxS t89_107 (N .i64 0) 1 fun t90 =>
 k_110 t90 M_108 none) (fun k => k .undef M_108 none) fun t90_111 M_112 b_113 =>
 guardK t81 true (fun k_114 => load1 M_112 t90_111 fun t91 =>
 k_114 t91 M_112 none) (fun k => k .undef M_112 none) fun t91_115 M_116 b_117 =>
 guardK t81 true (fun k_118 => strW .eql t91_115 (St [104, 111, 109, 101]) fun t92 =>
 k_118 t92 M_116 none) (fun k => k .undef M_116 none) fun t92_119 M_120 b_121 =>
 pickW t81 t92_119 (Bo false) fun t93 =>
 guardK t93 true (fun k_122 => k_122 t43 M_120 none) (fun k => k .undef M_120 none) fun t95 M_123 b_124 =>
 guardK t93 true (fun k_125 => intW .eql t95 (N .i64 3) fun t96 =>
 k_125 t96 M_123 none) (fun k => k .undef M_123 none) fun t96_126 M_127 b_128 =>
 pickW t93 t96_126 (Bo false) fun t97 =>
 guardK t97 true (fun k_129 => k_129 t42 M_127 none) (fun k => k .undef M_127 none) fun t99 M_130 b_131 =>
 guardK t97 true (fun k_132 => intW .eql t99 (N .i64 2) fun t100 =>
 k_132 t100 M_130 none) (fun k => k .undef M_130 none) fun t100_133 M_134 b_135 =>
 pickW t97 t100_133 (Bo false) fun t101 =>
 guardK t101 true (fun k_136 => k_136 t50 M_134 none) (fun k => k .undef M_134 none) fun t103 M_137 b_138 =>
 guardK t101 true (fun k_139 => intW .eql t103 (N .i64 0) fun t104 =>
 k_139 t104 M_137 none) (fun k => k .undef M_137 none) fun t104_140 M_141 b_142 =>
 pickW t101 t104_140 (Bo false) fun t105 =>
 guardK t105 true (fun k_143 => k_143 t49 M_141 none) (fun k => k .undef M_141 none) fun t107 M_144 b_145 =>
 guardK t105 true (fun k_146 => strW .eql t107 (St [84, 69, 76, 59, 84, 89, 80, 69, 61, 104, 111, 109, 101, 58, 49, 50, 13, 10]) fun t108 =>
 k_146 t108 M_144 none) (fun k => k .undef M_144 none) fun t108_147 M_148 b_149 =>
 pickW t105 t108_147 (Bo false) fun t109 =>
 guardK t109 true (fun k_150 => k_150 t53 M_148 none) (fun k => k .undef M_148 none) fun t111 M_151 b_152 =>
 guardK t109 true (fun k_153 => lenW t111 fun t112 =>
 k_153 t112 M_151 none) (fun k => k .undef M_151 none) fun t112_154 M_155 b_156 =>
 guardK t109 true (fun k_157 => intW .eql t112_154 (N .i64 2) fun t113 =>
 k_157 t113 M_155 none) (fun k => k .undef M_155 none) fun t113_158 M_159 b_160 =>
 pickW t109 t113_158 (Bo false) fun t114 =>
 guardK t114 true (fun k_161 => k_161 t53 M_159 none) (fun k => k .undef M_159 none) fun t116 M_162 b_163 =>
 guardK t114 true (fun k_164 => idxS t116 (N .i64 0) 1 fun t117 =>
 k_164 t117 M_162 none) (fun k => k .undef M_162 none) fun t117_165 M_166 b_167 =>
 guardK t114 true (fun k_168 => load1 M_166 t117_165 fun t118 =>
 k_168 t118 M_166 none) (fun k => k .undef M_166 none) fun t118_169 M_170 b_171 =>
 guardK t114 true (fun k_172 => strW .eql t118_169 (St [97, 98]) fun t119 =>
 k_172 t119 M_170 none) (fun k => k .undef M_170 none) fun t119_173 M_174 b_175 =>
 pickW t114 t119_173 (Bo false) fun t120 =>
 guardK t120 true (fun k_176 => k_176 t54 M_174 none) (fun k => k .undef M_174 none) fun t122 M_177 b_178 =>
 guardK t120 true (fun k_179 => idxS t122 (N .i64 1) 1 fun t123 =>
 k_179 t123 M_177 none) (fun k => k .undef M_177 none) fun t123_180 M_181 b_182 =>
 guardK t120 true (fun k_183 => load1 M_181 t123_180 fun t124 =>
 k_183 t124 M_181 none) (fun k => k .undef M_181 none) fun t124_184 M_185 b_186 =>
 guardK t120 true (fun k_187 => intW .eql t124_184 (N .i64 3) fun t125 =>
 k_187 t125 M_185 none) (fun k => k .undef M_185 none) fun t125_188 M_189 b_190 =>
 pickW t120 t125_188 (Bo false) fun t126 =>
 guardK t126 true (fun k_191 => k_191 (St [48, 49, 50, 51, 52, 53, 54, 55, 56, 57, 48, 49, 50, 51, 52, 53, 54, 55, 56, 57, 48, 49, 50, 51, 52, 53, 54, 55, 56, 57, 48, 49, 50, 51, 52, 53, 54, 55, 56, 57, 48, 49, 50, 51, 52, 53, 54, 55, 56, 57, 48, 49, 50, 51, 52, 53, 54, 55, 56, 57, 48, 49, 50, 51, 52, 53, 54, 55, 56, 57, 48, 49, 50, 51, 52, 53]) M_189 none) (fun k => k .undef M_189 none) fun t128 M_192 b_193 =>
 guardK t126 true (fun k_194 => k_194 (St [48, 49, 50, 51, 52, 53, 54, 55, 56, 57, 48, 49, 50, 51, 52, 53, 54, 55, 56, 57, 48, 49, 50, 51, 52, 53, 54, 55, 56, 57, 48, 49, 50, 51, 52, 53, 54, 55, 56, 57, 48, 49, 50, 51, 52, 53, 54, 55, 56, 57, 48, 49, 50, 51, 52, 53, 54, 55, 56, 57, 48, 49, 50, 51, 52, 53, 54, 55, 56, 57, 48, 49, 50, 51, 52, 53]) M_192 none) (fun k => k .undef M_192 none) fun t130 M_195 b_196 =>
 guardK t126 true (fun k_197 => getW (subStr t130 none (some (N .i64 75))) fun t131 =>
 k_197 t131 M_195 none) (fun k => k .undef M_195 none) fun t131_198 M_199 b_200 =>
 guardK t126 true (fun k_201 => strW .add t131_198 (St [13, 10, 32, 53]) fun t132 =>
 k_201 t132 M_199 none) (fun k => k .undef M_199 none) fun t132_202 M_203 b_204 =>
 guardM t126 true (fun k_205 => c_rolodex_vline_Fold [t128] M_203 fun t129 M_206 =>
 k_205 t129 M_206) (fun k => k .undef M_203) fun t129_207 M_208 =>
 guardP t126 true (fun k_209 => getW (subStr t130 none (some (N .i64 75))) fun t131_210 =>
 (t131_210 = t131_198 ∧ k_209)) (fun k => k) (guardK t126 true (fun k_211 => strW .eql t129_207 t132_202 fun t133 =>
 k_211 t133 M_208 none) (fun k => k .undef M_208 none) fun t133_212 M_213 b_214 =>
 pickW t126 t133_212 (Bo false) fun t134 =>
 guardM t134 true (fun k_215 => c_rolodex_vline_Escape [(St [97, 44, 98])] M_213 fun t136 M_216 =>
 k_215 t136 M_216) (fun k => k .undef M_213) fun t136_217 M_218 =>
 guardK t134 true (fun k_219 => strW .eql t136_217 (St [97, 92, 44, 98]) fun t137 =>
 k_219 t137 M_218 none) (fun k => k .undef M_218 none) fun t137_220 M_221 b_222 =>
 pickW t134 t137_220 (Bo false) fun t138 =>
 guardK t138 true (fun k_223 => k_223 t58 M_221 none) (fun k => k .undef M_221 none) fun t140 M_224 b_225 =>
 guardK t138 true (fun k_226 => intW .eql t140 (N .i64 0) fun t141 =>
 k_226 t141 M_224 none) (fun k => k .undef M_224 none) fun t141_227 M_228 b_229 =>
 pickW t138 t141_227 (Bo false) fun t142 =>
 guardK t142 true (fun k_230 => k_230 t57 M_228 none) (fun k => k .undef M_228 none) fun t144 M_231 b_232 =>
 guardK t142 true (fun k_233 => strW .eql t144 (St [97, 44, 98]) fun t145 =>
 k_233 t145 M_231 none) (fun k => k .undef M_231 none) fun t145_234 M_235 b_236 =>
 pickW t142 t145_234 (Bo false) fun t146 =>
 guardK t146 true (fun k_237 => k_237 t59 M_235 none) (fun k => k .undef M_235 none) fun t148 M_238 b_239 =>
 guardK t146 true (fun k_240 => lenW t148 fun t149 =>
 k_240 t149 M_238 none) (fun k => k .undef M_238 none) fun t149_241 M_242 b_243 =>
 guardK t146 true (fun k_244 => intW .eql t149_241 (N .i64 2) fun t150 =>
 k_244 t150 M_242 none) (fun k => k .undef M_242 none) fun t150_245 M_246 b_247 =>
 pickW t146 t150_245 (Bo false) fun t151 =>
 Q t151 M_246))

/-- rolodex/vline.Unescape -/
def W_rolodex_vline_Unescape (T_strings_Builder : Nat) (c_strings_Builder_WriteByte : CallT) (c_strings_IndexByte : CallT) (c_strings_Builder_String : CallT) (a0 : AV) (M0 : RM) (Q : PostV) : Prop :=
 newW (.row [(.sc (.pointer none)), (.sc (.slice none 0 0))] false T_strings_Builder 0) (fun b => .ptr b 0) M0 fun t4 M =>
 loopW (fun next xs M_0 => -- [5]
 lenStr a0 fun t8 =>
 intW .lss (nthD xs 0) t8 fun t9 =>
 condW t9 (
 joinW (fun J =>
 idxB a0 (nthD xs 0) fun t14 =>
 intW .neq t14 (N .u8 92) fun t15 =>
 condW t15 (
 idxB a0 (nthD xs 0) fun t18 =>
 c_strings_Builder_WriteByte [t4, t18] M_0 fun t19 M_1 =>
 J [(nthD xs 0)] M_1) (
 intW .add (nthD xs 0) (N .i64 1) fun t21 =>
 lenStr a0 fun t25 =>
 intW .lss t21 t25 fun t26 =>
 guardM t26 true (fun k => k a0 M_0) (fun k => k .undef M_0) fun t28 M_2 =>
 guardM t26 true (fun k_3 => k_3 t21 M_2) (fun k => k .undef M_2) fun t29 M_4 =>
 guardM t26 true (fun k_5 => idxB t28 t29 fun t30 =>
 k_5 t30 M_4) (fun k => k .undef M_4) fun t30_6 M_7 =>
 guardM t26 true (fun k_8 => intW .eql t30_6 (N .u8 110) fun t31 =>
 k_8 t31 M_7) (fun k => k .undef M_7) fun t31_9 M_10 =>
 guardM t26 true (fun k_11 => k_11 t31_9 M_10) (fun k => k .undef M_10) fun t32 M_12 =>
 guardM t32 false (fun k_13 => k_13 a0 M_12) (fun k => k .undef M_12) fun t33 M_14 =>
 guardM t32 false (fun k_15 => k_15 t21 M_14) (fun k => k .undef M_14) fun t34 M_16 =>
 guardM t32 false (fun k_17 => idxB t33 t34 fun t35 =>
 k_17 t35 M_16) (fun k => k .undef M_16) fun t35_18 M_19 =>
 guardM t32 false (fun k_20 => intW .eql t35_18 (N .u8 78) fun t36 =>
 k_20 t36 M_19) (fun k => k .undef M_19) fun t36_21 M_22 =>
 guardM t26 true (fun k_23 => pickW t32 (Bo true) t36_21 fun t37 =>
 k_23 t37 M_22) (fun k => k .undef M_22) fun t37_24 M_25 =>
 pickW t26 t37_24 (Bo false) fun t38 =>
 condW t38 (
 c_strings_Builder_WriteByte [t4, (N .u8 10)] M_25 fun t39 M_26 =>
 J [t21] M_26) (
 lenStr a0 fun t43 =>
 intW .lss t21 t43 fun t44 =>
 guardM t44 true (fun k_27 => k_27 a0 M_25) (fun k => k .undef M_25) fun t46 M_28 =>
 guardM t44 true (fun k_29 => k_29 t21 M_28) (fun k => k .undef M_28) fun t47 M_30 =>
 guardM t44 true (fun k_31 => idxB t46 t47 fun t48 =>
 k_31 t48 M_30) (fun k => k .undef M_30) fun t48_32 M_33 =>
 guardM t44 true (fun k_34 => c_strings_IndexByte [(St [92, 44, 59, 58]), t48_32] M_33 fun t49 M_35 =>
 k_34 t49 M_35) (fun k => k .undef M_33) fun t49_36 M_37 =>
 guardM t44 true (fun k_38 => intW .geq t49_36 (N .i64 0) fun t50 =>
 k_38 t50 M_37) (fun k => k .undef M_37) fun t50_39 M_40 =>
 pickW t44 t50_39 (Bo false) fun t51 =>
 condW t51 (
 idxB a0 t21 fun t54 =>
 c_strings_Builder_WriteByte [t4, t54] M_40 fun t55 M_41 =>
 J [t21] M_41) (
 Q (.tup [(St []), (N .i64 14)]) M_40)))) (fun xs_42 M_43 => -- [5]
 intW .add (nthD xs_42 0) (N .i64 1) fun t11 =>
 next [t11] M_43)) (
 c_strings_Builder_String [t4] M_0 fun t56 M_44 =>
 Q (.tup [t56, (N .i64 0)]) M_44)) [(N .i64 0)] M

/-- rolodex/vline.Print -/
def W_rolodex_vline_Print (T_vline_Line : Nat) (c_rolodex_vline_good : CallT) (c_rolodex_vline_laid : CallT) (c_rolodex_vline_Fold : CallT) (a0 : AV) (M0 : RM) (Q : PostV) : Prop :=
 boxW T_vline_Line a0 fun r f =>
 newW r f M0 fun t1 M =>
 loadN M t1 5 fun t5 =>
 c_rolodex_vline_good [t5] M fun t6 M_0 =>
 notW t6 fun t7 =>
 condW t7 (
 Q (.tup [(St []), (N .i64 1)]) M_0) (
 loadN M_0 t1 5 fun t8 =>
 c_rolodex_vline_laid [t8] M_0 fun t9 M_1 =>
 lenStr t9 fun t11 =>
 intW .gtr t11 (N .i64 912) fun t12 =>
 condW t12 (
 Q (.tup [(St []), (N .i64 2)]) M_1) (
 c_rolodex_vline_Fold [t9] M_1 fun t14 M_2 =>
 strW .add t14 (St [13, 10]) fun t15 =>
 Q (.tup [t15, (N .i64 0)]) M_2))

/-- rolodex/vline.Read -/
def W_rolodex_vline_Read (c_rolodex_vline_Unfold : CallT) (c_rolodex_vline_read : CallT) (T_vline_Line : Nat) (a0 : AV) (M0 : RM) (Q : PostV) : Prop :=
 c_rolodex_vline_Unfold [a0] M0 fun t14 M =>
 extW t14 0 fun t15 =>
 extW t14 1 fun t16 =>
 lenW t15 fun t18 =>
 loopW (fun next xs M_0 => -- [7, 19]
 intW .lss (nthD xs 1) t18 fun t20 =>
 condW t20 (
 joinW (fun J =>
 idxS t15 (nthD xs 1) 1 fun t22 =>
 load1 M_0 t22 fun t23 =>
 strW .eql t23 (St []) fun t25 =>
 condW t25 (
 J [(nthD xs 0)] M_0) (
 lenStr t23 fun t27 =>
 intW .gtr t27 (N .i64 912) fun t28 =>
 condW t28 (
 idxS t16 (nthD xs 1) 1 fun t31 =>
 load1 M_0 t31 fun t32 =>
 Q (.tup [(.sc (.slice none 0 0)), t32, (N .i64 2)]) M_0) (
 c_rolodex_vline_read [t23] M_0 fun t35 M_1 =>
 extW t35 0 fun t36 =>
 extW t35 1 fun t37 =>
 newW (.row [(St []), (St []), (.sc (.slice none 0 0)), (St []), (N .i64 0)] false T_vline_Line 0) (fun b => .ptr b 0) M_1 fun t10 M_2 =>
 storeW M_2 t10 t36 5 fun M_3 =>
 notW t37 fun t39 =>
 condW t39 (
 idxS t16 (nthD xs 1) 1 fun t42 =>
 load1 M_3 t42 fun t43 =>
 Q (.tup [(.sc (.slice none 0 0)), t43, (N .i64 3)]) M_3) (
 idxS t16 (nthD xs 1) 1 fun t46 =>
 load1 M_3 t46 fun t47 =>
 fldW t10 4 fun t48 =>
 storeW M_3 t48 t47 1 fun M_4 =>
 loadN M_4 t10 5 fun t50 =>
 rowsW T_vline_Line 1 [(St []), (St []), (.sc (.slice none 0 0)), (St []), (N .i64 0)] [(0, 5, t50)] fun r f =>
 newW r f M_4 fun t51 M_5 =>
 appW T_vline_Line 5 80 [(St []), (St []), (.sc (.slice none 0 0)), (St []), (N .i64 0)] false (nthD xs 0) t51 M_5 fun t52 M_6 =>
 J [t52] M_6)))) (fun xs_7 M_8 => -- [7]
 intW .add (nthD xs 1) (N .i64 1) fun t53 =>
 next [(nthD xs_7 0), t53] M_8)) (
 Q (.tup [(nthD xs 0), (N .i64 0), (N .i64 0)]) M_0)) [(.sc (.slice none 0 0)), (N .i64 0)] M

/-- rolodex/vline.Split -/
def W_rolodex_vline_Split (T_string : Nat) (a0 a1 : AV) (M0 : RM) (Q : PostV) : Prop :=
 lenStr a0 fun t10 =>
 loopW (fun next xs M => -- [5, 6, 7, 11]
 intW .lss (nthD xs 3) t10 fun t12 =>
 condW t12 (
 joinW (fun J =>
 joinW (fun J_0 =>
 idxB a0 (nthD xs 3) fun t16 =>
 intW .eql t16 a1 fun t18 =>
 guardM t18 true (fun k => k (nthD xs 2) M) (fun k => k .undef M) fun t20 M_1 =>
 guardM t18 true (fun k_2 => notW t20 fun t21 =>
 k_2 t21 M_1) (fun k => k .undef M_1) fun t21_3 M_4 =>
 pickW t18 t21_3 (Bo false) fun t22 =>
 condW t22 (
 getW (subStr a0 (some (nthD xs 1)) (some (nthD xs 3))) fun t27 =>
 rowsW T_string 1 [(St [])] [(0, 1, t27)] fun r f =>
 newW r f M_4 fun t28 M_5 =>
 appW T_string 1 16 [(St [])] false (nthD xs 0) t28 M_5 fun t29 M_6 =>
 intW .add (nthD xs 3) (N .i64 1) fun t31 =>
 J_0 [t29, t31] M_6) (
 J_0 [(nthD xs 0), (nthD xs 1)] M_4)) (fun xs_7 M_8 => -- [5, 6]
 idxB a0 (nthD xs 3) fun t34 =>
 intW .eql t34 (N .u8 92) fun t35 =>
 guardM t35 true (fun k_9 => k_9 (nthD xs 2) M_8) (fun k => k .undef M_8) fun t37 M_10 =>
 guardM t35 true (fun k_11 => notW t37 fun t38 =>
 k_11 t38 M_10) (fun k => k .undef M_10) fun t38_12 M_13 =>
 pickW t35 t38_12 (Bo false) fun t39 =>
 J [(nthD xs_7 0), (nthD xs_7 1), t39] M_13)) (fun xs_14 M_15 => -- [5, 6, 7]
 intW .add (nthD xs 3) (N .i64 1) fun t40 =>
 next [(nthD xs_14 0), (nthD xs_14 1), (nthD xs_14 2), t40] M_15)) (
 getW (subStr a0 (some (nthD xs 1)) none) fun t44 =>
 rowsW T_string 1 [(St [])] [(0, 1, t44)] fun r_16 f_17 =>
 newW r_16 f_17 M fun t45 M_18 =>
 appW T_string 1 16 [(St [])] false (nthD xs 0) t45 M_18 fun t46 M_19 =>
 Q t46 M_19)) [(.sc (.slice none 0 0)), (N .i64 0), (Bo false), (N .i64 0)] M0

/-- rolodex/rolodexref23.Read -/
def W_rolodex_rolodexref23_Read (c_rolodex_rolodexref23_Unfold : CallT) (T_rolodexref23_Line : Nat) (c_rolodex_rolodexref23_Read1 : CallT) (a0 : AV) (M0 : RM) (Q : PostV) : Prop :=
 c_rolodex_rolodexref23_Unfold [a0] M0 fun t13 M =>
 extW t13 0 fun t14 =>
 extW t13 1 fun t15 =>
 makeW T_rolodexref23_Line 80 [(St []), (St []), (.sc (.slice none 0 0)), (St []), (N .i64 0)] (N .i64 0) (N .i64 0) fun r f =>
 newW r f M fun t16 M_0 =>
 loopW (fun next xs M_1 => -- [7, 8]
 lenW t14 fun t19 =>
 intW .lss (nthD xs 1) t19 fun t20 =>
 condW t20 (
 joinW (fun J =>
 idxS t14 (nthD xs 1) 1 fun t25 =>
 load1 M_1 t25 fun t26 =>
 lenStr t26 fun t27 =>
 intW .gtr t27 (N .i64 912) fun t28 =>
 condW t28 (
 idxS t15 (nthD xs 1) 1 fun t31 =>
 load1 M_1 t31 fun t32 =>
 Q (.tup [(.sc (.slice none 0 0)), t32, (N .i64 2)]) M_1) (
 idxS t14 (nthD xs 1) 1 fun t35 =>
 load1 M_1 t35 fun t36 =>
 strW .eql t36 (St []) fun t37 =>
 condW t37 (
 J [(nthD xs 0)] M_1) (
 idxS t14 (nthD xs 1) 1 fun t41 =>
 load1 M_1 t41 fun t42 =>
 c_rolodex_rolodexref23_Read1 [t42] M_1 fun t43 M_2 =>
 extW t43 0 fun t44 =>
 extW t43 1 fun t45 =>
 newW (.row [(St []), (St []), (.sc (.slice none 0 0)), (St []), (N .i64 0)] false T_rolodexref23_Line 0) (fun b => .ptr b 0) M_2 fun t9 M_3 =>
 storeW M_3 t9 t44 5 fun M_4 =>
 notW t45 fun t47 =>
 condW t47 (
 idxS t15 (nthD xs 1) 1 fun t50 =>
 load1 M_4 t50 fun t51 =>
 Q (.tup [(.sc (.slice none 0 0)), t51, (N .i64 3)]) M_4) (
 idxS t15 (nthD xs 1) 1 fun t54 =>
 load1 M_4 t54 fun t55 =>
 fldW t9 4 fun t56 =>
 storeW M_4 t56 t55 1 fun M_5 =>
 loadN M_5 t9 5 fun t58 =>
 rowsW T_rolodexref23_Line 1 [(St []), (St []), (.sc (.slice none 0 0)), (St []), (N .i64 0)] [(0, 5, t58)] fun r_6 f_7 =>
 newW r_6 f_7 M_5 fun t59 M_8 =>
 appW T_rolodexref23_Line 5 80 [(St []), (St []), (.sc (.slice none 0 0)), (St []), (N .i64 0)] false (nthD xs 0) t59 M_8 fun t60 M_9 =>
 J [t60] M_9)))) (fun xs_10 M_11 => -- [7]
 intW .add (nthD xs 1) (N .i64 1) fun t22 =>
 next [(nthD xs_10 0), t22] M_11)) (
 Q (.tup [(nthD xs 0), (N .i64 0), (N .i64 0)]) M_1)) [t16, (N .i64 0)] M_0

/-- rolodex/vline.Unfold -/
def W_rolodex_vline_Unfold (c_strings_Cut : CallT) (c_strings_TrimSuffix : CallT) (T_string : Nat) (T_int : Nat) (a0 : AV) (M0 : RM) (Q : PostV) : Prop :=
 loopW (fun next xs M => -- [0, 4, 5, 6]
 strW .neq (nthD xs 0) (St []) fun t11 =>
 condW t11 (
 joinW (fun J =>
 c_strings_Cut [(nthD xs 0), (St [10])] M fun t16 M_0 =>
 extW t16 0 fun t17 =>
 extW t16 1 fun t18 =>
 extW t16 2 fun t19 =>
 joinW (fun J_1 =>
 condW t19 (
 c_strings_TrimSuffix [t17, (St [13])] M_0 fun t22 M_2 =>
 J_1 [t22] M_2) (
 J_1 [t17] M_0)) (fun xs_3 M_4 => -- [7]
 lenW (nthD xs 1) fun t25 =>
 intW .gtr t25 (N .i64 0) fun t26 =>
 guardM t26 true (fun k => k (nthD xs_3 0) M_4) (fun k => k .undef M_4) fun t28 M_5 =>
 guardM t26 true (fun k_6 => strW .neq t28 (St []) fun t29 =>
 k_6 t29 M_5) (fun k => k .undef M_5) fun t29_7 M_8 =>
 pickW t26 t29_7 (Bo false) fun t30 =>
 guardM t30 true (fun k_9 => k_9 (nthD xs_3 0) M_8) (fun k => k .undef M_8) fun t32 M_10 =>
 guardM t30 true (fun k_11 => idxB t32 (N .i64 0) fun t33 =>
 k_11 t33 M_10) (fun k => k .undef M_10) fun t33_12 M_13 =>
 guardM t30 true (fun k_14 => intW .eql t33_12 (N .u8 32) fun t34 =>
 k_14 t34 M_13) (fun k => k .undef M_13) fun t34_15 M_16 =>
 guardM t30 true (fun k_17 => k_17 t34_15 M_16) (fun k => k .undef M_16) fun t35 M_18 =>
 guardM t35 false (fun k_19 => k_19 (nthD xs_3 0) M_18) (fun k => k .undef M_18) fun t36 M_20 =>
 guardM t35 false (fun k_21 => idxB t36 (N .i64 0) fun t37 =>
 k_21 t37 M_20) (fun k => k .undef M_20) fun t37_22 M_23 =>
 guardM t35 false (fun k_24 => intW .eql t37_22 (N .u8 9) fun t38 =>
 k_24 t38 M_23) (fun k => k .undef M_23) fun t38_25 M_26 =>
 guardM t30 true (fun k_27 => pickW t35 (Bo true) t38_25 fun t39 =>
 k_27 t39 M_26) (fun k => k .undef M_26) fun t39_28 M_29 =>
 pickW t30 t39_28 (Bo false) fun t40 =>
 condW t40 (
 lenW (nthD xs 1) fun t43 =>
 intW .sub t43 (N .i64 1) fun t44 =>
 idxS (nthD xs 1) t44 1 fun t45 =>
 load1 M_29 t45 fun t46 =>
 getW (subStr (nthD xs_3 0) (some (N .i64 1)) none) fun t48 =>
 strW .add t46 t48 fun t49 =>
 idxS (nthD xs 1) t44 1 fun t50 =>
 storeW M_29 t50 t49 1 fun M_30 =>
 J [t18, (nthD xs 1), (nthD xs 2)] M_30) (
 rowsW T_string 1 [(St [])] [(0, 1, (nthD xs_3 0))] fun r f =>
 newW r f M_29 fun t53 M_31 =>
 appW T_string 1 16 [(St [])] false (nthD xs 1) t53 M_31 fun t54 M_32 =>
 rowsW T_int 1 [(N .i64 0)] [(0, 1, (nthD xs 3))] fun r_33 f_34 =>
 newW r_33 f_34 M_32 fun t57 M_35 =>
 appW T_int 1 8 [(N .i64 0)] false (nthD xs 2) t57 M_35 fun t58 M_36 =>
 J [t18, t54, t58] M_36))) (fun xs_37 M_38 => -- [0, 4, 5]
 intW .add (nthD xs 3) (N .i64 1) fun t13 =>
 next [(nthD xs_37 0), (nthD xs_37 1), (nthD xs_37 2), t13] M_38)) (
 Q (.tup [(nthD xs 1), (nthD xs 2)]) M)) [a0, (.sc (.slice none 0 0)), (.sc (.slice none 0 0)), (N .i64 1)] M0

/-- rolodex/rolodexref23.Unfold -/
def W_rolodex_rolodexref23_Unfold (c_rolodex_rolodexref23_Raw : CallT) (T_string : Nat) (T_int : Nat) (a0 : AV) (M0 : RM) (Q : PostV) : Prop :=
 c_rolodex_rolodexref23_Raw [a0] M0 fun t10 M =>
 makeW T_string 16 [(St [])] (N .i64 0) (N .i64 0) fun r f =>
 newW r f M fun t11 M_0 =>
 makeW T_int 8 [(N .i64 0)] (N .i64 0) (N .i64 0) fun r_1 f_2 =>
 newW r_1 f_2 M_0 fun t12 M_3 =>
 loopW (fun next xs M_4 => -- [5, 6, 7]
 lenW t10 fun t15 =>
 intW .lss (nthD xs 2) t15 fun t16 =>
 condW t16 (
 joinW (fun J =>
 idxS t10 (nthD xs 2) 1 fun t21 =>
 load1 M_4 t21 fun t22 =>
 intW .gtr (nthD xs 2) (N .i64 0) fun t24 =>
 guardM t24 true (fun k => k t22 M_4) (fun k => k .undef M_4) fun t26 M_5 =>
 guardM t24 true (fun k_6 => lenStr t26 fun t27 =>
 k_6 t27 M_5) (fun k => k .undef M_5) fun t27_7 M_8 =>
 guardM t24 true (fun k_9 => intW .gtr t27_7 (N .i64 0) fun t28 =>
 k_9 t28 M_8) (fun k => k .undef M_8) fun t28_10 M_11 =>
 pickW t24 t28_10 (Bo false) fun t29 =>
 guardM t29 true (fun k_12 => k_12 t22 M_11) (fun k => k .undef M_11) fun t31 M_13 =>
 guardM t29 true (fun k_14 => idxB t31 (N .i64 0) fun t32 =>
 k_14 t32 M_13) (fun k => k .undef M_13) fun t32_15 M_16 =>
 guardM t29 true (fun k_17 => intW .eql t32_15 (N .u8 32) fun t33 =>
 k_17 t33 M_16) (fun k => k .undef M_16) fun t33_18 M_19 =>
 guardM t29 true (fun k_20 => k_20 t33_18 M_19) (fun k => k .undef M_19) fun t34 M_21 =>
 guardM t34 false (fun k_22 => k_22 t22 M_21) (fun k => k .undef M_21) fun t35 M_23 =>
 guardM t34 false (fun k_24 => idxB t35 (N .i64 0) fun t36 =>
 k_24 t36 M_23) (fun k => k .undef M_23) fun t36_25 M_26 =>
 guardM t34 false (fun k_27 => intW .eql t36_25 (N .u8 9) fun t37 =>
 k_27 t37 M_26) (fun k => k .undef M_26) fun t37_28 M_29 =>
 guardM t29 true (fun k_30 => pickW t34 (Bo true) t37_28 fun t38 =>
 k_30 t38 M_29) (fun k => k .undef M_29) fun t38_31 M_32 =>
 pickW t29 t38_31 (Bo false) fun t39 =>
 condW t39 (
 lenW (nthD xs 0) fun t42 =>
 intW .sub t42 (N .i64 1) fun t43 =>
 lenW (nthD xs 0) fun t46 =>
 intW .sub t46 (N .i64 1) fun t47 =>
 idxS (nthD xs 0) t47 1 fun t48 =>
 load1 M_32 t48 fun t49 =>
 getW (subStr t22 (some (N .i64 1)) none) fun t51 =>
 strW .add t49 t51 fun t52 =>
 idxS (nthD xs 0) t43 1 fun t53 =>
 storeW M_32 t53 t52 1 fun M_33 =>
 J [(nthD xs 0), (nthD xs 1)] M_33) (
 rowsW T_string 1 [(St [])] [(0, 1, t22)] fun r_34 f_35 =>
 newW r_34 f_35 M_32 fun t56 M_36 =>
 appW T_string 1 16 [(St [])] false (nthD xs 0) t56 M_36 fun t57 M_37 =>
 intW .add (nthD xs 2) (N .i64 1) fun t60 =>
 rowsW T_int 1 [(N .i64 0)] [(0, 1, t60)] fun r_38 f_39 =>
 newW r_38 f_39 M_37 fun t61 M_40 =>
 appW T_int 1 8 [(N .i64 0)] false (nthD xs 1) t61 M_40 fun t62 M_41 =>
 J [t57, t62] M_41)) (fun xs_42 M_43 => -- [5, 6]
 intW .add (nthD xs 2) (N .i64 1) fun t18 =>
 next [(nthD xs_42 0), (nthD xs_42 1), t18] M_43)) (
 Q (.tup [(nthD xs 0), (nthD xs 1)]) M_4)) [t11, t12, (N .i64 0)] M_3

/-- rolodex/rolodexref23.Same -/
def W_rolodex_rolodexref23_Same (T_rolodexref23_Line : Nat) (a0 a1 : AV) (M0 : RM) (Q : PostV) : Prop :=
 boxW T_rolodexref23_Line a0 fun r f =>
 newW r f M0 fun t2 M =>
 boxW T_rolodexref23_Line a1 fun r_0 f_1 =>
 newW r_0 f_1 M fun t3 M_2 =>
 fldW t2 0 fun t7 =>
 load1 M_2 t7 fun t8 =>
 fldW t3 0 fun t9 =>
 load1 M_2 t9 fun t10 =>
 strW .neq t8 t10 fun t11 =>
 guardM t11 false (fun k => fldW t2 1 fun t13 =>
 k t13 M_2) (fun k => k .undef M_2) fun t13_3 M_4 =>
 guardM t11 false (fun k_5 => load1 M_4 t13_3 fun t14 =>
 k_5 t14 M_4) (fun k => k .undef M_4) fun t14_6 M_7 =>
 guardM t11 false (fun k_8 => fldW t3 1 fun t15 =>
 k_8 t15 M_7) (fun k => k .undef M_7) fun t15_9 M_10 =>
 guardM t11 false (fun k_11 => load1 M_10 t15_9 fun t16 =>
 k_11 t16 M_10) (fun k => k .undef M_10) fun t16_12 M_13 =>
 guardM t11 false (fun k_14 => strW .neq t14_6 t16_12 fun t17 =>
 k_14 t17 M_13) (fun k => k .undef M_13) fun t17_15 M_16 =>
 pickW t11 (Bo true) t17_15 fun t18 =>
 guardM t18 false (fun k_17 => fldW t2 3 fun t20 =>
 k_17 t20 M_16) (fun k => k .undef M_16) fun t20_18 M_19 =>
 guardM t18 false (fun k_20 => load1 M_19 t20_18 fun t21 =>
 k_20 t21 M_19) (fun k => k .undef M_19) fun t21_21 M_22 =>
 guardM t18 false (fun k_23 => fldW t3 3 fun t22 =>
 k_23 t22 M_22) (fun k => k .undef M_22) fun t22_24 M_25 =>
 guardM t18 false (fun k_26 => load1 M_25 t22_24 fun t23 =>
 k_26 t23 M_25) (fun k => k .undef M_25) fun t23_27 M_28 =>
 guardM t18 false (fun k_29 => strW .neq t21_21 t23_27 fun t24 =>
 k_29 t24 M_28) (fun k => k .undef M_28) fun t24_30 M_31 =>
 pickW t18 (Bo true) t24_30 fun t25 =>
 guardM t25 false (fun k_32 => fldW t2 2 fun t27 =>
 k_32 t27 M_31) (fun k => k .undef M_31) fun t27_33 M_34 =>
 guardM t25 false (fun k_35 => load1 M_34 t27_33 fun t28 =>
 k_35 t28 M_34) (fun k => k .undef M_34) fun t28_36 M_37 =>
 guardM t25 false (fun k_38 => lenW t28_36 fun t29 =>
 k_38 t29 M_37) (fun k => k .undef M_37) fun t29_39 M_40 =>
 guardM t25 false (fun k_41 => fldW t3 2 fun t30 =>
 k_41 t30 M_40) (fun k => k .undef M_40) fun t30_42 M_43 =>
 guardM t25 false (fun k_44 => load1 M_43 t30_42 fun t31 =>
 k_44 t31 M_43) (fun k => k .undef M_43) fun t31_45 M_46 =>
 guardM t25 false (fun k_47 => lenW t31_45 fun t32 =>
 k_47 t32 M_46) (fun k => k .undef M_46) fun t32_48 M_49 =>
 guardM t25 false (fun k_50 => intW .neq t29_39 t32_48 fun t33 =>
 k_50 t33 M_49) (fun k => k .undef M_49) fun t33_51 M_52 =>
 pickW t25 (Bo true) t33_51 fun t34 =>
 condW t34 (
 Q (Bo false) M_52) (
 loopW (fun next xs M_53 => -- [5]
 fldW t2 2 fun t36 =>
 load1 M_53 t36 fun t37 =>
 lenW t37 fun t38 =>
 intW .lss (nthD xs 0) t38 fun t39 =>
 condW t39 (
 fldW t2 2 fun t42 =>
 load1 M_53 t42 fun t43 =>
 idxS t43 (nthD xs 0) 2 fun t45 =>
 fldW t45 0 fun t46 =>
 load1 M_53 t46 fun t47 =>
 fldW t3 2 fun t48 =>
 load1 M_53 t48 fun t49 =>
 idxS t49 (nthD xs 0) 2 fun t51 =>
 fldW t51 0 fun t52 =>
 load1 M_53 t52 fun t53 =>
 strW .neq t47 t53 fun t54 =>
 guardK t54 false (fun k_54 => fldW t2 2 fun t56 =>
 k_54 t56 M_53 none) (fun k => k .undef M_53 none) fun t56_55 M_56 b =>
 guardK t54 false (fun k_57 => load1 M_56 t56_55 fun t57 =>
 k_57 t57 M_56 none) (fun k => k .undef M_56 none) fun t57_58 M_59 b_60 =>
 guardK t54 false (fun k_61 => k_61 (nthD xs 0) M_59 none) (fun k => k .undef M_59 none) fun t58 M_62 b_63 =>
 guardK t54 false (fun k_64 => idxS t57_58 t58 2 fun t59 =>
 k_64 t59 M_62 none) (fun k => k .undef M_62 none) fun t59_65 M_66 b_67 =>
 guardK t54 false (fun k_68 => fldW t59_65 1 fun t60 =>
 k_68 t60 M_66 none) (fun k => k .undef M_66 none) fun t60_69 M_70 b_71 =>
 guardK t54 false (fun k_72 => load1 M_70 t60_69 fun t61 =>
 k_72 t61 M_70 none) (fun k => k .undef M_70 none) fun t61_73 M_74 b_75 =>
 guardK t54 false (fun k_76 => lenW t61_73 fun t62 =>
 k_76 t62 M_74 none) (fun k => k .undef M_74 none) fun t62_77 M_78 b_79 =>
 guardK t54 false (fun k_80 => fldW t3 2 fun t63 =>
 k_80 t63 M_78 none) (fun k => k .undef M_78 none) fun t63_81 M_82 b_83 =>
 guardK t54 false (fun k_84 => load1 M_82 t63_81 fun t64 =>
 k_84 t64 M_82 none) (fun k => k .undef M_82 none) fun t64_85 M_86 b_87 =>
 guardK t54 false (fun k_88 => k_88 (nthD xs 0) M_86 none) (fun k => k .undef M_86 none) fun t65 M_89 b_90 =>
 guardK t54 false (fun k_91 => idxS t64_85 t65 2 fun t66 =>
 k_91 t66 M_89 none) (fun k => k .undef M_89 none) fun t66_92 M_93 b_94 =>
 guardK t54 false (fun k_95 => fldW t66_92 1 fun t67 =>
 k_95 t67 M_93 none) (fun k => k .undef M_93 none) fun t67_96 M_97 b_98 =>
 guardK t54 false (fun k_99 => load1 M_97 t67_96 fun t68 =>
 k_99 t68 M_97 none) (fun k => k .undef M_97 none) fun t68_100 M_101 b_102 =>
 guardK t54 false (fun k_103 => lenW t68_100 fun t69 =>
 k_103 t69 M_101 none) (fun k => k .undef M_101 none) fun t69_104 M_105 b_106 =>
 guardK t54 false (fun k_107 => intW .neq t62_77 t69_104 fun t70 =>
 k_107 t70 M_105 none) (fun k => k .undef M_105 none) fun t70_108 M_109 b_110 =>
 pickW t54 (Bo true) t70_108 fun t71 =>
 condW t71 (
 Q (Bo false) M_109) (
 loopW (fun next_111 xs_112 M_113 => -- [6]
 fldW t2 2 fun t73 =>
 load1 M_113 t73 fun t74 =>
 idxS t74 (nthD xs 0) 2 fun t76 =>
 fldW t76 1 fun t77 =>
 load1 M_113 t77 fun t78 =>
 lenW t78 fun t79 =>
 intW .lss (nthD xs_112 0) t79 fun t80 =>
 condW t80 (
 fldW t2 2 fun t83 =>
 load1 M_113 t83 fun t84 =>
 idxS t84 (nthD xs 0) 2 fun t86 =>
 fldW t86 1 fun t87 =>
 load1 M_113 t87 fun t88 =>
 idxS t88 (nthD xs_112 0) 1 fun t90 =>
 load1 M_113 t90 fun t91 =>
 fldW t3 2 fun t92 =>
 load1 M_113 t92 fun t93 =>
 idxS t93 (nthD xs 0) 2 fun t95 =>
 fldW t95 1 fun t96 =>
 load1 M_113 t96 fun t97 =>
 idxS t97 (nthD xs_112 0) 1 fun t99 =>
 load1 M_113 t99 fun t100 =>
 strW .neq t91 t100 fun t101 =>
 condW t101 (
 Q (Bo false) M_113) (
 intW .add (nthD xs_112 0) (N .i64 1) fun t82 =>
 next_111 [t82] M_113)) (
 intW .add (nthD xs 0) (N .i64 1) fun t41 =>
 next [t41] M_113)) [(N .i64 0)] M_109)) (
 Q (Bo true) M_53)) [(N .i64 0)] M_52)

/-- rolodex/rolodexlaw23.of -/
def W_rolodex_rolodexlaw23_of (T_vline_Line : Nat) (T_rolodexref23_Line : Nat) (T_rolodexref23_Param : Nat) (a0 : AV) (M0 : RM) (Q : PostV) : Prop :=
 boxW T_vline_Line a0 fun r f =>
 newW r f M0 fun t1 M =>
 newW (.row [(St []), (St []), (.sc (.slice none 0 0)), (St []), (N .i64 0)] false T_rolodexref23_Line 0) (fun b => .ptr b 0) M fun t2 M_0 =>
 fldW t1 0 fun t5 =>
 load1 M_0 t5 fun t6 =>
 fldW t1 1 fun t7 =>
 load1 M_0 t7 fun t8 =>
 fldW t1 3 fun t9 =>
 load1 M_0 t9 fun t10 =>
 fldW t1 4 fun t11 =>
 load1 M_0 t11 fun t12 =>
 buildW [(St []), (St []), (.sc (.slice none 0 0)), (St []), (N .i64 0)] [(0, 1, t6), (1, 1, t8), (3, 1, t10), (4, 1, t12)] fun t13 =>
 newW (.row [(St []), (St []), (.sc (.slice none 0 0)), (St []), (N .i64 0)] false T_rolodexref23_Line 0) (fun b => .ptr b 0) M_0 fun t3 M_1 =>
 storeW M_1 t3 t13 5 fun M_2 =>
 loopW (fun next xs M_3 => -- [4]
 fldW t1 2 fun t15 =>
 load1 M_3 t15 fun t16 =>
 lenW t16 fun t17 =>
 intW .lss (nthD xs 0) t17 fun t18 =>
 condW t18 (
 fldW t3 2 fun t21 =>
 load1 M_3 t21 fun t22 =>
 fldW t1 2 fun t23 =>
 load1 M_3 t23 fun t24 =>
 idxS t24 (nthD xs 0) 2 fun t26 =>
 fldW t26 0 fun t27 =>
 load1 M_3 t27 fun t28 =>
 fldW t1 2 fun t29 =>
 load1 M_3 t29 fun t30 =>
 idxS t30 (nthD xs 0) 2 fun t32 =>
 fldW t32 1 fun t33 =>
 load1 M_3 t33 fun t34 =>
 buildW [(St []), (.sc (.slice none 0 0))] [(0, 1, t28), (1, 1, t34)] fun t35 =>
 rowsW T_rolodexref23_Param 1 [(St []), (.sc (.slice none 0 0))] [(0, 2, t35)] fun r_4 f_5 =>
 newR r_4 f_5 M_3 fun t36 M_6 b =>
 appW T_rolodexref23_Param 2 40 [(St []), (.sc (.slice none 0 0))] false t22 t36 M_6 fun t37 M_7 =>
 fldW t3 2 fun t38 =>
 storeW M_7 t38 t37 1 fun M_8 =>
 intW .add (nthD xs 0) (N .i64 1) fun t20 =>
 next [t20] M_8) (
 loadN M_3 t3 5 fun t39 =>
 storeW M_3 t2 t39 5 fun M_9 =>
 loadN M_9 t2 5 fun res =>
 Q res M_9)) [(N .i64 0)] M_2

/-- rolodex/rolodexref23.Print -/
def W_rolodex_rolodexref23_Print (T_rolodexref23_Line : Nat) (c_rolodex_rolodexref23_Up : CallT) (c_rolodex_rolodexref23_Params : CallT) (c_rolodex_rolodexref23_Read1 : CallT) (c_rolodex_rolodexref23_Same : CallT) (c_rolodex_rolodexref23_Fold : CallT) (a0 : AV) (M0 : RM) (Q : PostV) : Prop :=
 boxW T_rolodexref23_Line a0 fun r f =>
 newW r f M0 fun t1 M =>
 fldW t1 1 fun t7 =>
 load1 M t7 fun t8 =>
 loadN M t1 5 fun t10 =>
 fldW t1 3 fun t14 =>
 load1 M t14 fun t15 =>
 c_rolodex_rolodexref23_Up [t8] M fun t9 M_0 =>
 loadN M_0 t1 5 fun t10_21 =>
 (t10_21 = t10 ∧ load1 M_0 t14 fun t15_20 =>
 (t15_20 = t15 ∧ c_rolodex_rolodexref23_Params [t10, (Bo true), (St [44, 59, 58])] M_0 fun t11 M_1 =>
 load1 M_1 t14 fun t15_19 =>
 (t15_19 = t15 ∧ strW .add t9 t11 fun t12 =>
 strW .add t12 (St [58]) fun t13 =>
 strW .add t13 t15 fun t16 =>
 joinW (fun J =>
 fldW t1 0 fun t17 =>
 load1 M_1 t17 fun t18 =>
 strW .neq t18 (St []) fun t19 =>
 condW t19 (
 fldW t1 0 fun t20 =>
 load1 M_1 t20 fun t21 =>
 strW .add t21 (St [46]) fun t22 =>
 strW .add t22 t16 fun t24 =>
 J [t24] M_1) (
 J [t16] M_1)) (fun xs M_2 => -- [4]
 fldW t1 3 fun t25 =>
 load1 M_2 t25 fun t26 =>
 lenStr t26 fun t27 =>
 intW .gtr t27 (N .i64 100000) fun t28 =>
 condW t28 (
 Q (.tup [(St []), (N .i64 2)]) M_2) (
 c_rolodex_rolodexref23_Read1 [(nthD xs 0)] M_2 fun t31 M_3 =>
 extW t31 0 fun t32 =>
 extW t31 1 fun t33 =>
 newW (.row [(St []), (St []), (.sc (.slice none 0 0)), (St []), (N .i64 0)] false T_rolodexref23_Line 0) (fun b => .ptr b 0) M_3 fun t5 M_4 =>
 storeW M_4 t5 t32 5 fun M_5 =>
 notW t33 fun t35 =>
 guardM t35 false (fun k => loadN M_5 t5 5 fun t37 =>
 k t37 M_5) (fun k => k .undef M_5) fun t37_6 M_7 =>
 guardM t35 false (fun k_8 => loadN M_7 t1 5 fun t38 =>
 k_8 t38 M_7) (fun k => k .undef M_7) fun t38_9 M_10 =>
 guardM t35 false (fun k_11 => c_rolodex_rolodexref23_Same [t37_6, t38_9] M_10 fun t39 M_12 =>
 k_11 t39 M_12) (fun k => k .undef M_10) fun t39_13 M_14 =>
 guardM t35 false (fun k_15 => notW t39_13 fun t40 =>
 k_15 t40 M_14) (fun k => k .undef M_14) fun t40_16 M_17 =>
 pickW t35 (Bo true) t40_16 fun t41 =>
 condW t41 (
 Q (.tup [(St []), (N .i64 1)]) M_17) (
 lenStr (nthD xs 0) fun t43 =>
 intW .gtr t43 (N .i64 912) fun t44 =>
 condW t44 (
 Q (.tup [(St []), (N .i64 2)]) M_17) (
 c_rolodex_rolodexref23_Fold [(nthD xs 0)] M_17 fun t46 M_18 =>
 strW .add t46 (St [13, 10]) fun t47 =>
 Q (.tup [t47, (N .i64 0)]) M_18)))))))

/-- rolodex/vline.Fold -/
def W_rolodex_vline_Fold (T_strings_Builder : Nat) (c_rolodex_vline_piece : CallT) (c_strings_Builder_WriteString : CallT) (c_strings_Builder_String : CallT) (a0 : AV) (M0 : RM) (Q : PostV) : Prop :=
 newW (.row [(.sc (.pointer none)), (.sc (.slice none 0 0))] false T_strings_Builder 0) (fun b => .ptr b 0) M0 fun t3 M =>
 loopW (fun next xs M_0 => -- [0, 4]
 strW .neq (nthD xs 0) (St []) fun t7 =>
 condW t7 (
 c_rolodex_vline_piece [(nthD xs 0), (nthD xs 1)] M_0 fun t10 M_1 =>
 getW (subStr (nthD xs 0) none (some t10)) fun t13 =>
 c_strings_Builder_WriteString [t3, t13] M_1 fun t14 M_2 =>
 getW (subStr (nthD xs 0) (some t10) none) fun t17 =>
 joinW (fun J =>
 strW .neq t17 (St []) fun t19 =>
 condW t19 (
 c_strings_Builder_WriteString [t3, (St [13, 10, 32])] M_2 fun t20 M_3 =>
 J [] M_3) (
 J [] M_2)) (fun xs_4 M_5 => -- []
 next [t17, (N .i64 74)] M_5)) (
 c_strings_Builder_String [t3] M_0 fun t21 M_6 =>
 Q t21 M_6)) [a0, (N .i64 75)] M

/-- rolodex/rolodexref23.Fold -/
def W_rolodex_rolodexref23_Fold (T_uint8 : Nat) (c_rolodex_rolodexref23_Rune : CallT) (a0 : AV) (M0 : RM) (Q : PostV) : Prop :=
 makeW T_uint8 1 [(N .u8 0)] (N .i64 0) (N .i64 0) fun r f =>
 newW r f M0 fun t6 M =>
 loopW (fun next xs M_0 => -- [0, 3, 4]
 lenStr (nthD xs 0) fun t8 =>
 intW .gtr t8 (N .i64 0) fun t9 =>
 condW t9 (
 c_rolodex_rolodexref23_Rune [(nthD xs 0)] M_0 fun t11 M_1 =>
 joinW (fun J =>
 intW .eql t11 (N .i64 0) fun t13 =>
 condW t13 (
 J [(N .i64 1)] M_1) (
 J [t11] M_1)) (fun xs_2 M_3 => -- [5]
 joinW (fun J_4 =>
 intW .add (nthD xs 2) (nthD xs_2 0) fun t16 =>
 intW .gtr t16 (N .i64 75) fun t17 =>
 condW t17 (
 rowsW T_uint8 3 [(N .u8 0)] [(0, 1, (N .u8 13)), (1, 1, (N .u8 10)), (2, 1, (N .u8 32))] fun r_5 f_6 =>
 newW r_5 f_6 M_3 fun t19 M_7 =>
 appW T_uint8 1 1 [(N .u8 0)] false (nthD xs 1) t19 M_7 fun t20 M_8 =>
 J_4 [t20, (N .i64 1)] M_8) (
 J_4 [(nthD xs 1), (nthD xs 2)] M_3)) (fun xs_9 M_10 => -- [3, 4]
 getW (subStr (nthD xs 0) none (some (nthD xs_2 0))) fun t24 =>
 appW T_uint8 1 1 [(N .u8 0)] false (nthD xs_9 0) t24 M_10 fun t25 M_11 =>
 intW .add (nthD xs_9 1) (nthD xs_2 0) fun t28 =>
 getW (subStr (nthD xs 0) (some (nthD xs_2 0)) none) fun t31 =>
 next [t31, t25, t28] M_11))) (
 strOfW M_0 (nthD xs 1) fun t33 =>
 Q t33 M_0)) [a0, t6, (N .i64 0)] M

/-- rolodex/rolodexref23.Raw -/
def W_rolodex_rolodexref23_Raw (T_string : Nat) (a0 : AV) (M0 : RM) (Q : PostV) : Prop :=
 makeW T_string 16 [(St [])] (N .i64 0) (N .i64 0) fun r f =>
 newW r f M0 fun t7 M =>
 loopW (fun next xs M_0 => -- [3, 4, 5]
 lenStr a0 fun t10 =>
 intW .lss (nthD xs 2) t10 fun t11 =>
 condW t11 (
 joinW (fun J =>
 idxB a0 (nthD xs 2) fun t16 =>
 intW .eql t16 (N .u8 10) fun t17 =>
 condW t17 (
 joinW (fun J_1 =>
 intW .gtr (nthD xs 2) (nthD xs 1) fun t21 =>
 guardM t21 true (fun k => k a0 M_0) (fun k => k .undef M_0) fun t23 M_2 =>
 guardM t21 true (fun k_3 => k_3 (nthD xs 2) M_2) (fun k => k .undef M_2) fun t24 M_4 =>
 guardM t21 true (fun k_5 => intW .sub t24 (N .i64 1) fun t25 =>
 k_5 t25 M_4) (fun k => k .undef M_4) fun t25_6 M_7 =>
 guardM t21 true (fun k_8 => idxB t23 t25_6 fun t26 =>
 k_8 t26 M_7) (fun k => k .undef M_7) fun t26_9 M_10 =>
 guardM t21 true (fun k_11 => intW .eql t26_9 (N .u8 13) fun t27 =>
 k_11 t27 M_10) (fun k => k .undef M_10) fun t27_12 M_13 =>
 pickW t21 t27_12 (Bo false) fun t28 =>
 condW t28 (
 intW .sub (nthD xs 2) (N .i64 1) fun t30 =>
 J_1 [t30] M_13) (
 J_1 [(nthD xs 2)] M_13)) (fun xs_14 M_15 => -- [6]
 getW (subStr a0 (some (nthD xs 1)) (some (nthD xs_14 0))) fun t35 =>
 rowsW T_string 1 [(St [])] [(0, 1, t35)] fun r_16 f_17 =>
 newW r_16 f_17 M_15 fun t36 M_18 =>
 appW T_string 1 16 [(St [])] false (nthD xs 0) t36 M_18 fun t37 M_19 =>
 intW .add (nthD xs 2) (N .i64 1) fun t39 =>
 J [t37, t39] M_19)) (
 J [(nthD xs 0), (nthD xs 1)] M_0)) (fun xs_20 M_21 => -- [3, 4]
 intW .add (nthD xs 2) (N .i64 1) fun t13 =>
 next [(nthD xs_20 0), (nthD xs_20 1), t13] M_21)) (
 joinW (fun J_22 =>
 lenStr a0 fun t42 =>
 intW .lss (nthD xs 1) t42 fun t43 =>
 condW t43 (
 getW (subStr a0 (some (nthD xs 1)) none) fun t47 =>
 rowsW T_string 1 [(St [])] [(0, 1, t47)] fun r_23 f_24 =>
 newW r_23 f_24 M_0 fun t48 M_25 =>
 appW T_string 1 16 [(St [])] false (nthD xs 0) t48 M_25 fun t49 M_26 =>
 J_22 [t49] M_26) (
 J_22 [(nthD xs 0)] M_0)) (fun xs_27 M_28 => -- [3]
 Q (nthD xs_27 0) M_28))) [t7, (N .i64 0), (N .i64 0)] M

/-- rolodex/rolodexref23.Formed -/
def W_rolodex_rolodexref23_Formed (c_rolodex_rolodexref23_Rune : CallT) (a0 : AV) (M0 : RM) (Q : PostV) : Prop :=
 loopW (fun next xs M => -- [0]
 lenStr (nthD xs 0) fun t5 =>
 intW .gtr t5 (N .i64 0) fun t6 =>
 condW t6 (
 c_rolodex_rolodexref23_Rune [(nthD xs 0)] M fun t8 M_0 =>
 intW .eql t8 (N .i64 0) fun t10 =>
 condW t10 (
 Q (Bo false) M_0) (
 getW (subStr (nthD xs 0) (some t8) none) fun t13 =>
 next [t13] M_0)) (
 Q (Bo true) M)) [a0] M0

/-- rolodex/vline.Escape -/
def W_rolodex_vline_Escape (T_strings_Builder : Nat) (T_uint8 : Nat) (c_strings_Builder_WriteByte : CallT) (c_strings_Builder_WriteString : CallT) (c_strings_Builder_String : CallT) (a0 : AV) (M0 : RM) (Q : PostV) : Prop :=
 newW (.row [(.sc (.pointer none)), (.sc (.slice none 0 0))] false T_strings_Builder 0) (fun b => .ptr b 0) M0 fun t3 M =>
 bytesW T_uint8 a0 fun r f =>
 newW r f M fun t7 M_0 =>
 lenW t7 fun t8 =>
 loopW (fun next xs M_1 => -- [9]
 intW .lss (nthD xs 0) t8 fun t10 =>
 condW t10 (
 joinW (fun J =>
 idxS t7 (nthD xs 0) 1 fun t11 =>
 load1 M_1 t11 fun t12 =>
 joinW (fun J_2 =>
 intW .eql t12 (N .u8 92) fun t17 =>
 condW t17 (
 J_2 [t17] M_1) (
 intW .eql t12 (N .u8 44) fun t18 =>
 condW t18 (
 J_2 [t18] M_1) (
 intW .eql t12 (N .u8 59) fun t19 =>
 J_2 [t19] M_1))) (fun xs_3 M_4 => -- [16]
 condW (nthD xs_3 0) (
 c_strings_Builder_WriteByte [t3, (N .u8 92)] M_4 fun t20 M_5 =>
 c_strings_Builder_WriteByte [t3, t12] M_5 fun t22 M_6 =>
 J [] M_6) (
 intW .eql t12 (N .u8 10) fun t24 =>
 condW t24 (
 c_strings_Builder_WriteString [t3, (St [92, 110])] M_4 fun t25 M_7 =>
 J [] M_7) (
 c_strings_Builder_WriteByte [t3, t12] M_4 fun t15 M_8 =>
 J [] M_8)))) (fun xs_9 M_10 => -- []
 intW .add (nthD xs 0) (N .i64 1) fun t26 =>
 next [t26] M_10)) (
 c_strings_Builder_String [t3] M_1 fun t27 M_11 =>
 Q t27 M_11)) [(N .i64 0)] M_0

/-- rolodex/rolodexref23.Unescape -/
def W_rolodex_rolodexref23_Unescape (T_uint8 : Nat) (a0 : AV) (M0 : RM) (Q : PostV) : Prop :=
 makeW T_uint8 1 [(N .u8 0)] (N .i64 0) (N .i64 0) fun r f =>
 newW r f M0 fun t6 M =>
 loopW (fun next xs M_0 => -- [4, 5]
 lenStr a0 fun t9 =>
 intW .lss (nthD xs 1) t9 fun t10 =>
 condW t10 (
 joinW (fun J =>
 idxB a0 (nthD xs 1) fun t15 =>
 intW .neq t15 (N .u8 92) fun t16 =>
 condW t16 (
 idxB a0 (nthD xs 1) fun t20 =>
 rowsW T_uint8 1 [(N .u8 0)] [(0, 1, t20)] fun r_1 f_2 =>
 newW r_1 f_2 M_0 fun t21 M_3 =>
 appW T_uint8 1 1 [(N .u8 0)] false (nthD xs 0) t21 M_3 fun t22 M_4 =>
 J [t22, (nthD xs 1)] M_4) (
 intW .add (nthD xs 1) (N .i64 1) fun t24 =>
 lenStr a0 fun t27 =>
 intW .eql t24 t27 fun t28 =>
 condW t28 (
 Q (.tup [(St []), (Bo false)]) M_0) (
 idxB a0 t24 fun t31 =>
 joinW (fun J_5 =>
 intW .eql t31 (N .u8 92) fun t33 =>
 condW t33 (
 J_5 [t33] M_0) (
 intW .eql t31 (N .u8 44) fun t34 =>
 condW t34 (
 J_5 [t34] M_0) (
 intW .eql t31 (N .u8 59) fun t35 =>
 condW t35 (
 J_5 [t35] M_0) (
 intW .eql t31 (N .u8 58) fun t36 =>
 J_5 [t36] M_0)))) (fun xs_6 M_7 => -- [32]
 condW (nthD xs_6 0) (
 idxB a0 t24 fun t40 =>
 rowsW T_uint8 1 [(N .u8 0)] [(0, 1, t40)] fun r_8 f_9 =>
 newW r_8 f_9 M_7 fun t41 M_10 =>
 appW T_uint8 1 1 [(N .u8 0)] false (nthD xs 0) t41 M_10 fun t42 M_11 =>
 J [t42, t24] M_11) (
 joinW (fun J_12 =>
 intW .eql t31 (N .u8 110) fun t44 =>
 condW t44 (
 J_12 [t44] M_7) (
 intW .eql t31 (N .u8 78) fun t45 =>
 J_12 [t45] M_7)) (fun xs_13 M_14 => -- [43]
 condW (nthD xs_13 0) (
 rowsW T_uint8 1 [(N .u8 0)] [(0, 1, (N .u8 10))] fun r_15 f_16 =>
 newW r_15 f_16 M_14 fun t47 M_17 =>
 appW T_uint8 1 1 [(N .u8 0)] false (nthD xs 0) t47 M_17 fun t48 M_18 =>
 J [t48, t24] M_18) (
 Q (.tup [(St []), (Bo false)]) M_14))))))) (fun xs_19 M_20 => -- [4, 5]
 intW .add (nthD xs_19 1) (N .i64 1) fun t12 =>
 next [(nthD xs_19 0), t12] M_20)) (
 strOfW M_0 (nthD xs 0) fun t50 =>
 Q (.tup [t50, (Bo true)]) M_0)) [t6, (N .i64 0)] M

/-- rolodex/rolodexref23.Escape -/
def W_rolodex_rolodexref23_Escape (T_uint8 : Nat) (a0 : AV) (M0 : RM) (Q : PostV) : Prop :=
 makeW T_uint8 1 [(N .u8 0)] (N .i64 0) (N .i64 0) fun r f =>
 newW r f M0 fun t5 M =>
 loopW (fun next xs M_0 => -- [3, 4]
 lenStr a0 fun t8 =>
 intW .lss (nthD xs 1) t8 fun t9 =>
 condW t9 (
 joinW (fun J =>
 idxB a0 (nthD xs 1) fun t14 =>
 joinW (fun J_1 =>
 intW .eql t14 (N .u8 92) fun t22 =>
 condW t22 (
 J_1 [t22] M_0) (
 intW .eql t14 (N .u8 44) fun t23 =>
 condW t23 (
 J_1 [t23] M_0) (
 intW .eql t14 (N .u8 59) fun t24 =>
 J_1 [t24] M_0))) (fun xs_2 M_3 => -- [21]
 condW (nthD xs_2 0) (
 idxB a0 (nthD xs 1) fun t28 =>
 rowsW T_uint8 2 [(N .u8 0)] [(0, 1, (N .u8 92)), (1, 1, t28)] fun r_4 f_5 =>
 newW r_4 f_5 M_3 fun t29 M_6 =>
 appW T_uint8 1 1 [(N .u8 0)] false (nthD xs 0) t29 M_6 fun t30 M_7 =>
 J [t30] M_7) (
 intW .eql t14 (N .u8 10) fun t32 =>
 condW t32 (
 rowsW T_uint8 2 [(N .u8 0)] [(0, 1, (N .u8 92)), (1, 1, (N .u8 110))] fun r_8 f_9 =>
 newW r_8 f_9 M_3 fun t34 M_10 =>
 appW T_uint8 1 1 [(N .u8 0)] false (nthD xs 0) t34 M_10 fun t35 M_11 =>
 J [t35] M_11) (
 idxB a0 (nthD xs 1) fun t18 =>
 rowsW T_uint8 1 [(N .u8 0)] [(0, 1, t18)] fun r_12 f_13 =>
 newW r_12 f_13 M_3 fun t19 M_14 =>
 appW T_uint8 1 1 [(N .u8 0)] false (nthD xs 0) t19 M_14 fun t20 M_15 =>
 J [t20] M_15)))) (fun xs_16 M_17 => -- [3]
 intW .add (nthD xs 1) (N .i64 1) fun t11 =>
 next [(nthD xs_16 0), t11] M_17)) (
 strOfW M_0 (nthD xs 0) fun t37 =>
 Q t37 M_0)) [t5, (N .i64 0)] M

/-- rolodex/rolodexref23.Split -/
def W_rolodex_rolodexref23_Split (T_string : Nat) (a0 a1 : AV) (M0 : RM) (Q : PostV) : Prop :=
 makeW T_string 16 [(St [])] (N .i64 0) (N .i64 0) fun r f =>
 newW r f M0 fun t9 M =>
 loopW (fun next xs M_0 => -- [5, 6, 7, 8]
 lenStr a0 fun t12 =>
 intW .lss (nthD xs 3) t12 fun t13 =>
 condW t13 (
 joinW (fun J =>
 joinW (fun J_1 =>
 idxB a0 (nthD xs 3) fun t18 =>
 intW .eql t18 a1 fun t20 =>
 guardM t20 true (fun k => k (nthD xs 2) M_0) (fun k => k .undef M_0) fun t22 M_2 =>
 guardM t20 true (fun k_3 => notW t22 fun t23 =>
 k_3 t23 M_2) (fun k => k .undef M_2) fun t23_4 M_5 =>
 pickW t20 t23_4 (Bo false) fun t24 =>
 condW t24 (
 getW (subStr a0 (some (nthD xs 1)) (some (nthD xs 3))) fun t29 =>
 rowsW T_string 1 [(St [])] [(0, 1, t29)] fun r_6 f_7 =>
 newW r_6 f_7 M_5 fun t30 M_8 =>
 appW T_string 1 16 [(St [])] false (nthD xs 0) t30 M_8 fun t31 M_9 =>
 intW .add (nthD xs 3) (N .i64 1) fun t33 =>
 J_1 [t31, t33] M_9) (
 J_1 [(nthD xs 0), (nthD xs 1)] M_5)) (fun xs_10 M_11 => -- [5, 6]
 idxB a0 (nthD xs 3) fun t36 =>
 intW .eql t36 (N .u8 92) fun t37 =>
 guardM t37 true (fun k_12 => k_12 (nthD xs 2) M_11) (fun k => k .undef M_11) fun t39 M_13 =>
 guardM t37 true (fun k_14 => notW t39 fun t40 =>
 k_14 t40 M_13) (fun k => k .undef M_13) fun t40_15 M_16 =>
 pickW t37 t40_15 (Bo false) fun t41 =>
 J [(nthD xs_10 0), (nthD xs_10 1), t41] M_16)) (fun xs_17 M_18 => -- [5, 6, 7]
 intW .add (nthD xs 3) (N .i64 1) fun t15 =>
 next [(nthD xs_17 0), (nthD xs_17 1), (nthD xs_17 2), t15] M_18)) (
 getW (subStr a0 (some (nthD xs 1)) none) fun t45 =>
 rowsW T_string 1 [(St [])] [(0, 1, t45)] fun r_19 f_20 =>
 newW r_19 f_20 M_0 fun t46 M_21 =>
 appW T_string 1 16 [(St [])] false (nthD xs 0) t46 M_21 fun t47 M_22 =>
 Q t47 M_22)) [t9, (N .i64 0), (Bo false), (N .i64 0)] M

/-- (*strings.Builder).WriteByte -/
def W_strings_Builder_WriteByte (c_strings_Builder_copyCheck : CallT) (T_uint8 : Nat) (a0 a1 : AV) (M0 : RM) (Q : PostV) : Prop :=
 c_strings_Builder_copyCheck [a0] M0 fun t6 M =>
 ptrW a0 fun t9 =>
 fldW t9 1 fun t10 =>
 load1 M t10 fun t11 =>
 rowsW T_uint8 1 [(N .u8 0)] [(0, 1, a1)] fun r f =>
 newW r f M fun t13 M_0 =>
 appW T_uint8 1 1 [(N .u8 0)] false t11 t13 M_0 fun t14 M_1 =>
 ptrW a0 fun t15 =>
 fldW t15 1 fun t16 =>
 storeW M_1 t16 t14 1 fun M_2 =>
 Q (.sc .nilIface) M_2

/-- strings.IndexByte -/
def W_strings_IndexByte (c_internal_stringslite_IndexByte : CallT) (a0 a1 : AV) (M0 : RM) (Q : PostV) : Prop :=
 c_internal_stringslite_IndexByte [a0, a1] M0 fun t7 M =>
 Q t7 M

/-- (*strings.Builder).String -/
def W_strings_Builder_String (T_uint8 : Nat) (a0 : AV) (M0 : RM) (Q : PostV) : Prop :=
 ptrW a0 fun t4 =>
 fldW t4 1 fun t5 =>
 load1 M0 t5 fun t6 =>
 sdataW t6 fun t7 =>
 ptrW a0 fun t9 =>
 fldW t9 1 fun t10 =>
 load1 M0 t10 fun t11 =>
 lenW t11 fun t12 =>
 ustrW T_uint8 t7 t12 M0 fun t13 M =>
 Q t13 M

/-- rolodex/vline.good -/
def W_rolodex_vline_good (T_vline_Line : Nat) (c_rolodex_vline_goodName : CallT) (c_rolodex_vline_goodValue : CallT) (T_vline_Param : Nat) (c_slices_ContainsFunc_string_string : CallT) (n_rolodex_vline_good_1 : Nat) (a0 : AV) (M0 : RM) (Q : PostV) : Prop :=
 boxW T_vline_Line a0 fun r f =>
 newW r f M0 fun t1 M =>
 fldW t1 0 fun t5 =>
 load1 M t5 fun t6 =>
 strW .neq t6 (St []) fun t7 =>
 guardM t7 true (fun k => fldW t1 0 fun t9 =>
 k t9 M) (fun k => k .undef M) fun t9_0 M_1 =>
 guardM t7 true (fun k_2 => load1 M_1 t9_0 fun t10 =>
 k_2 t10 M_1) (fun k => k .undef M_1) fun t10_3 M_4 =>
 guardM t7 true (fun k_5 => c_rolodex_vline_goodName [t10_3] M_4 fun t11 M_6 =>
 k_5 t11 M_6) (fun k => k .undef M_4) fun t11_7 M_8 =>
 guardM t7 true (fun k_9 => notW t11_7 fun t12 =>
 k_9 t12 M_8) (fun k => k .undef M_8) fun t12_10 M_11 =>
 pickW t7 t12_10 (Bo false) fun t13 =>
 guardM t13 false (fun k_12 => fldW t1 1 fun t15 =>
 k_12 t15 M_11) (fun k => k .undef M_11) fun t15_13 M_14 =>
 guardM t13 false (fun k_15 => load1 M_14 t15_13 fun t16 =>
 k_15 t16 M_14) (fun k => k .undef M_14) fun t16_16 M_17 =>
 guardM t13 false (fun k_18 => c_rolodex_vline_goodName [t16_16] M_17 fun t17 M_19 =>
 k_18 t17 M_19) (fun k => k .undef M_17) fun t17_20 M_21 =>
 guardM t13 false (fun k_22 => notW t17_20 fun t18 =>
 k_22 t18 M_21) (fun k => k .undef M_21) fun t18_23 M_24 =>
 pickW t13 (Bo true) t18_23 fun t19 =>
 guardM t19 false (fun k_25 => fldW t1 3 fun t21 =>
 k_25 t21 M_24) (fun k => k .undef M_24) fun t21_26 M_27 =>
 guardM t19 false (fun k_28 => load1 M_27 t21_26 fun t22 =>
 k_28 t22 M_27) (fun k => k .undef M_27) fun t22_29 M_30 =>
 guardM t19 false (fun k_31 => c_rolodex_vline_goodValue [t22_29, (St [])] M_30 fun t23 M_32 =>
 k_31 t23 M_32) (fun k => k .undef M_30) fun t23_33 M_34 =>
 guardM t19 false (fun k_35 => notW t23_33 fun t24 =>
 k_35 t24 M_34) (fun k => k .undef M_34) fun t24_36 M_37 =>
 pickW t19 (Bo true) t24_36 fun t25 =>
 condW t25 (
 Q (Bo false) M_37) (
 fldW t1 2 fun t26 =>
 load1 M_37 t26 fun t27 =>
 lenW t27 fun t28 =>
 loopW (fun next xs M_38 => -- [29]
 intW .lss (nthD xs 0) t28 fun t30 =>
 condW t30 (
 idxS t27 (nthD xs 0) 2 fun t31 =>
 loadN M_38 t31 2 fun t32 =>
 newW (.row [(St []), (.sc (.slice none 0 0))] false T_vline_Param 0) (fun b => .ptr b 0) M_38 fun t4 M_39 =>
 storeW M_39 t4 t32 2 fun M_40 =>
 fldW t4 0 fun t33 =>
 load1 M_40 t33 fun t34 =>
 c_rolodex_vline_goodName [t34] M_40 fun t35 M_41 =>
 notW t35 fun t36 =>
 guardM t36 false (fun k_42 => fldW t4 1 fun t38 =>
 k_42 t38 M_41) (fun k => k .undef M_41) fun t38_43 M_44 =>
 guardM t36 false (fun k_45 => load1 M_44 t38_43 fun t39 =>
 k_45 t39 M_44) (fun k => k .undef M_44) fun t39_46 M_47 =>
 guardM t36 false (fun k_48 => lenW t39_46 fun t40 =>
 k_48 t40 M_47) (fun k => k .undef M_47) fun t40_49 M_50 =>
 guardM t36 false (fun k_51 => intW .eql t40_49 (N .i64 0) fun t41 =>
 k_51 t41 M_50) (fun k => k .undef M_50) fun t41_52 M_53 =>
 pickW t36 (Bo true) t41_52 fun t42 =>
 guardM t42 false (fun k_54 => fldW t4 1 fun t44 =>
 k_54 t44 M_53) (fun k => k .undef M_53) fun t44_55 M_56 =>
 guardM t42 false (fun k_57 => load1 M_56 t44_55 fun t45 =>
 k_57 t45 M_56) (fun k => k .undef M_56) fun t45_58 M_59 =>
 guardM t42 false (fun k_60 => c_slices_ContainsFunc_string_string [t45_58, (.fn (.func n_rolodex_vline_good_1) [] [])] M_59 fun t46 M_61 =>
 k_60 t46 M_61) (fun k => k .undef M_59) fun t46_62 M_63 =>
 pickW t42 (Bo true) t46_62 fun t47 =>
 condW t47 (
 Q (Bo false) M_63) (
 intW .add (nthD xs 0) (N .i64 1) fun t48 =>
 next [t48] M_63)) (
 Q (Bo true) M_38)) [(N .i64 0)] M_37)

/-- rolodex/vline.laid -/
def W_rolodex_vline_laid (T_vline_Line : Nat) (T_strings_Builder : Nat) (c_strings_Builder_WriteString : CallT) (c_rolodex_vline_great : CallT) (T_vline_Param : Nat) (c_strings_Builder_WriteByte : CallT) (c_strings_ContainsAny : CallT) (c_strings_Builder_String : CallT) (a0 : AV) (M0 : RM) (Q : PostV) : Prop :=
 boxW T_vline_Line a0 fun r f =>
 newW r f M0 fun t1 M =>
 newW (.row [(.sc (.pointer none)), (.sc (.slice none 0 0))] false T_strings_Builder 0) (fun b => .ptr b 0) M fun t3 M_0 =>
 joinW (fun J =>
 fldW t1 0 fun t8 =>
 load1 M_0 t8 fun t9 =>
 strW .neq t9 (St []) fun t10 =>
 condW t10 (
 fldW t1 0 fun t11 =>
 load1 M_0 t11 fun t12 =>
 strW .add t12 (St [46]) fun t13 =>
 c_strings_Builder_WriteString [t3, t13] M_0 fun t14 M_1 =>
 J [] M_1) (
 J [] M_0)) (fun xs M_2 => -- []
 fldW t1 1 fun t15 =>
 load1 M_2 t15 fun t16 =>
 c_rolodex_vline_great [t16] M_2 fun t17 M_3 =>
 c_strings_Builder_WriteString [t3, t17] M_3 fun t18 M_4 =>
 fldW t1 2 fun t19 =>
 load1 M_4 t19 fun t20 =>
 lenW t20 fun t21 =>
 loopW (fun next xs_5 M_6 => -- [22]
 intW .lss (nthD xs_5 0) t21 fun t23 =>
 condW t23 (
 idxS t20 (nthD xs_5 0) 2 fun t24 =>
 loadN M_6 t24 2 fun t25 =>
 newW (.row [(St []), (.sc (.slice none 0 0))] false T_vline_Param 0) (fun b => .ptr b 0) M_6 fun t5 M_7 =>
 storeW M_7 t5 t25 2 fun M_8 =>
 fldW t5 0 fun t26 =>
 load1 M_8 t26 fun t27 =>
 c_rolodex_vline_great [t27] M_8 fun t28 M_9 =>
 strW .add (St [59]) t28 fun t29 =>
 strW .add t29 (St [61]) fun t30 =>
 c_strings_Builder_WriteString [t3, t30] M_9 fun t31 M_10 =>
 fldW t5 1 fun t32 =>
 load1 M_10 t32 fun t33 =>
 lenW t33 fun t34 =>
 loopW (fun next_11 xs_12 M_13 => -- [35]
 intW .lss (nthD xs_12 0) t34 fun t36 =>
 condW t36 (
 joinW (fun J_14 =>
 idxS t33 (nthD xs_12 0) 1 fun t38 =>
 load1 M_13 t38 fun t39 =>
 joinW (fun J_15 =>
 intW .gtr (nthD xs_12 0) (N .i64 0) fun t41 =>
 condW t41 (
 c_strings_Builder_WriteByte [t3, (N .u8 44)] M_13 fun t42 M_16 =>
 J_15 [] M_16) (
 J_15 [] M_13)) (fun xs_17 M_18 => -- []
 joinW (fun J_19 =>
 c_strings_ContainsAny [t39, (St [44, 59, 58])] M_18 fun t44 M_20 =>
 condW t44 (
 strW .add (St [34]) t39 fun t46 =>
 strW .add t46 (St [34]) fun t47 =>
 J_19 [t47] M_20) (
 J_19 [t39] M_20)) (fun xs_21 M_22 => -- [7]
 c_strings_Builder_WriteString [t3, (nthD xs_21 0)] M_22 fun t49 M_23 =>
 J_14 [] M_23))) (fun xs_24 M_25 => -- []
 intW .add (nthD xs_12 0) (N .i64 1) fun t50 =>
 next_11 [t50] M_25)) (
 intW .add (nthD xs_5 0) (N .i64 1) fun t51 =>
 next [t51] M_13)) [(N .i64 0)] M_10) (
 fldW t1 3 fun t54 =>
 load1 M_6 t54 fun t55 =>
 c_strings_Builder_String [t3] M_6 fun t52 M_26 =>
 load1 M_26 t54 fun t55_27 =>
 (t55_27 = t55 ∧ strW .add t52 (St [58]) fun t53 =>
 strW .add t53 t55 fun t56 =>
 Q t56 M_26))) [(N .i64 0)] M_4)

/-- rolodex/vline.read -/
def W_rolodex_vline_read (T_vline_Line : Nat) (c_unicode_utf8_ValidString : CallT) (c_rolodex_vline_word : CallT) (c_strings_HasPrefix : CallT) (c_rolodex_vline_goodName : CallT) (c_rolodex_vline_params : CallT) (c_rolodex_vline_goodValue : CallT) (a0 : AV) (M0 : RM) (Q : PostV) : Prop :=
 newW (.row [(St []), (St []), (.sc (.slice none 0 0)), (St []), (N .i64 0)] false T_vline_Line 0) (fun b => .ptr b 0) M0 fun t2 M =>
 c_unicode_utf8_ValidString [a0] M fun t8 M_0 =>
 notW t8 fun t9 =>
 condW t9 (
 buildW [(St []), (St []), (.sc (.slice none 0 0)), (St []), (N .i64 0)] [] fun t10 =>
 storeW M_0 t2 t10 5 fun M_1 =>
 loadN M_1 t2 5 fun res =>
 Q (.tup [res, (Bo false)]) M_1) (
 newW (.row [(St []), (St []), (.sc (.slice none 0 0)), (St []), (N .i64 0)] false T_vline_Line 0) (fun b => .ptr b 0) M_0 fun t4 M_2 =>
 c_rolodex_vline_word [a0] M_2 fun t13 M_3 =>
 extW t13 0 fun t14 =>
 extW t13 1 fun t15 =>
 fldW t4 1 fun t16 =>
 storeW M_3 t16 t14 1 fun M_4 =>
 joinW (fun J =>
 c_strings_HasPrefix [t15, (St [46])] M_4 fun t18 M_5 =>
 condW t18 (
 fldW t4 1 fun t19 =>
 load1 M_5 t19 fun t20 =>
 fldW t4 0 fun t21 =>
 storeW M_5 t21 t20 1 fun M_6 =>
 fldW t4 0 fun t22 =>
 load1 M_6 t22 fun t23 =>
 c_rolodex_vline_goodName [t23] M_6 fun t24 M_7 =>
 notW t24 fun t25 =>
 condW t25 (
 buildW [(St []), (St []), (.sc (.slice none 0 0)), (St []), (N .i64 0)] [] fun t26 =>
 storeW M_7 t2 t26 5 fun M_8 =>
 loadN M_8 t2 5 fun res_9 =>
 Q (.tup [res_9, (Bo false)]) M_8) (
 getW (subStr t15 (some (N .i64 1)) none) fun t29 =>
 c_rolodex_vline_word [t29] M_7 fun t30 M_10 =>
 extW t30 0 fun t31 =>
 extW t30 1 fun t32 =>
 fldW t4 1 fun t33 =>
 storeW M_10 t33 t31 1 fun M_11 =>
 J [t32] M_11)) (
 J [t15] M_5)) (fun xs M_12 => -- [0]
 c_rolodex_vline_params [(nthD xs 0)] M_12 fun t36 M_13 =>
 extW t36 0 fun t37 =>
 extW t36 1 fun t38 =>
 extW t36 2 fun t39 =>
 notW t39 fun t41 =>
 guardM t41 false (fun k => fldW t4 1 fun t43 =>
 k t43 M_13) (fun k => k .undef M_13) fun t43_14 M_15 =>
 guardM t41 false (fun k_16 => load1 M_15 t43_14 fun t44 =>
 k_16 t44 M_15) (fun k => k .undef M_15) fun t44_17 M_18 =>
 guardM t41 false (fun k_19 => c_rolodex_vline_goodName [t44_17] M_18 fun t45 M_20 =>
 k_19 t45 M_20) (fun k => k .undef M_18) fun t45_21 M_22 =>
 guardM t41 false (fun k_23 => notW t45_21 fun t46 =>
 k_23 t46 M_22) (fun k => k .undef M_22) fun t46_24 M_25 =>
 pickW t41 (Bo true) t46_24 fun t47 =>
 guardM t47 false (fun k_26 => k_26 t38 M_25) (fun k => k .undef M_25) fun t49 M_27 =>
 guardM t47 false (fun k_28 => c_strings_HasPrefix [t49, (St [58])] M_27 fun t50 M_29 =>
 k_28 t50 M_29) (fun k => k .undef M_27) fun t50_30 M_31 =>
 guardM t47 false (fun k_32 => notW t50_30 fun t51 =>
 k_32 t51 M_31) (fun k => k .undef M_31) fun t51_33 M_34 =>
 pickW t47 (Bo true) t51_33 fun t52 =>
 guardM t52 false (fun k_35 => k_35 t38 M_34) (fun k => k .undef M_34) fun t54 M_36 =>
 guardM t52 false (fun k_37 => getW (subStr t54 (some (N .i64 1)) none) fun t55 =>
 k_37 t55 M_36) (fun k => k .undef M_36) fun t55_38 M_39 =>
 guardM t52 false (fun k_40 => c_rolodex_vline_goodValue [t55_38, (St [])] M_39 fun t56 M_41 =>
 k_40 t56 M_41) (fun k => k .undef M_39) fun t56_42 M_43 =>
 guardM t52 false (fun k_44 => notW t56_42 fun t57 =>
 k_44 t57 M_43) (fun k => k .undef M_43) fun t57_45 M_46 =>
 pickW t52 (Bo true) t57_45 fun t58 =>
 condW t58 (
 buildW [(St []), (St []), (.sc (.slice none 0 0)), (St []), (N .i64 0)] [] fun t59 =>
 storeW M_46 t2 t59 5 fun M_47 =>
 loadN M_47 t2 5 fun res_48 =>
 Q (.tup [res_48, (Bo false)]) M_47) (
 getW (subStr t38 (some (N .i64 1)) none) fun t62 =>
 fldW t4 2 fun t63 =>
 storeW M_46 t63 t37 1 fun M_49 =>
 fldW t4 3 fun t64 =>
 storeW M_49 t64 t62 1 fun M_50 =>
 loadN M_50 t4 5 fun t65 =>
 storeW M_50 t2 t65 5 fun M_51 =>
 loadN M_51 t2 5 fun res_52 =>
 Q (.tup [res_52, (Bo true)]) M_51)))

/-- rolodex/rolodexref23.Read1 -/
def W_rolodex_rolodexref23_Read1 (T_rolodexref23_Line : Nat) (c_rolodex_rolodexref23_Formed : CallT) (c_rolodex_rolodexref23_word : CallT) (c_rolodex_rolodexref23_Low : CallT) (T_rolodexref23_Param : Nat) (c_rolodex_rolodexref23_values : CallT) (c_rolodex_rolodexref23_plain : CallT) (a0 : AV) (M0 : RM) (Q : PostV) : Prop :=
 newW (.row [(St []), (St []), (.sc (.slice none 0 0)), (St []), (N .i64 0)] false T_rolodexref23_Line 0) (fun b => .ptr b 0) M0 fun t2 M =>
 buildW [(St []), (St []), (.sc (.slice none 0 0)), (St []), (N .i64 0)] [] fun t9 =>
 newW (.row [(St []), (St []), (.sc (.slice none 0 0)), (St []), (N .i64 0)] false T_rolodexref23_Line 0) (fun b => .ptr b 0) M fun t4 M_0 =>
 storeW M_0 t4 t9 5 fun M_1 =>
 c_rolodex_rolodexref23_Formed [a0] M_1 fun t11 M_2 =>
 notW t11 fun t12 =>
 condW t12 (
 loadN M_2 t4 5 fun t13 =>
 storeW M_2 t2 t13 5 fun M_3 =>
 loadN M_3 t2 5 fun res =>
 Q (.tup [res, (Bo false)]) M_3) (
 c_rolodex_rolodexref23_word [a0] M_2 fun t15 M_4 =>
 joinW (fun J =>
 lenStr a0 fun t18 =>
 intW .lss t15 t18 fun t19 =>
 guardM t19 true (fun k => k a0 M_4) (fun k => k .undef M_4) fun t21 M_5 =>
 guardM t19 true (fun k_6 => k_6 t15 M_5) (fun k => k .undef M_5) fun t22 M_7 =>
 guardM t19 true (fun k_8 => idxB t21 t22 fun t23 =>
 k_8 t23 M_7) (fun k => k .undef M_7) fun t23_9 M_10 =>
 guardM t19 true (fun k_11 => intW .eql t23_9 (N .u8 46) fun t24 =>
 k_11 t24 M_10) (fun k => k .undef M_10) fun t24_12 M_13 =>
 pickW t19 t24_12 (Bo false) fun t25 =>
 condW t25 (
 getW (subStr a0 none (some t15)) fun t28 =>
 c_rolodex_rolodexref23_Low [t28] M_13 fun t29 M_14 =>
 fldW t4 0 fun t30 =>
 storeW M_14 t30 t29 1 fun M_15 =>
 intW .lss t15 (N .i64 1) fun t32 =>
 guardM t32 false (fun k_16 => k_16 t15 M_15) (fun k => k .undef M_15) fun t34 M_17 =>
 guardM t32 false (fun k_18 => intW .gtr t34 (N .i64 20) fun t35 =>
 k_18 t35 M_17) (fun k => k .undef M_17) fun t35_19 M_20 =>
 pickW t32 (Bo true) t35_19 fun t36 =>
 condW t36 (
 loadN M_20 t4 5 fun t37 =>
 storeW M_20 t2 t37 5 fun M_21 =>
 loadN M_21 t2 5 fun res_22 =>
 Q (.tup [res_22, (Bo false)]) M_21) (
 intW .add t15 (N .i64 1) fun t40 =>
 getW (subStr a0 (some t40) none) fun t41 =>
 c_rolodex_rolodexref23_word [t41] M_20 fun t43 M_23 =>
 J [t41, t43] M_23)) (
 J [a0, t15] M_13)) (fun xs M_24 => -- [0, 5]
 intW .lss (nthD xs 1) (N .i64 1) fun t45 =>
 guardM t45 false (fun k_25 => k_25 (nthD xs 1) M_24) (fun k => k .undef M_24) fun t47 M_26 =>
 guardM t45 false (fun k_27 => intW .gtr t47 (N .i64 20) fun t48 =>
 k_27 t48 M_26) (fun k => k .undef M_26) fun t48_28 M_29 =>
 pickW t45 (Bo true) t48_28 fun t49 =>
 condW t49 (
 loadN M_29 t4 5 fun t50 =>
 storeW M_29 t2 t50 5 fun M_30 =>
 loadN M_30 t2 5 fun res_31 =>
 Q (.tup [res_31, (Bo false)]) M_30) (
 getW (subStr (nthD xs 0) none (some (nthD xs 1))) fun t53 =>
 c_rolodex_rolodexref23_Low [t53] M_29 fun t54 M_32 =>
 fldW t4 1 fun t55 =>
 storeW M_32 t55 t54 1 fun M_33 =>
 getW (subStr (nthD xs 0) (some (nthD xs 1)) none) fun t58 =>
 loopW (fun next xs_34 M_35 => -- [0]
 lenStr (nthD xs_34 0) fun t60 =>
 intW .gtr t60 (N .i64 0) fun t61 =>
 guardM t61 true (fun k_36 => k_36 (nthD xs_34 0) M_35) (fun k => k .undef M_35) fun t63 M_37 =>
 guardM t61 true (fun k_38 => idxB t63 (N .i64 0) fun t64 =>
 k_38 t64 M_37) (fun k => k .undef M_37) fun t64_39 M_40 =>
 guardM t61 true (fun k_41 => intW .eql t64_39 (N .u8 59) fun t65 =>
 k_41 t65 M_40) (fun k => k .undef M_40) fun t65_42 M_43 =>
 pickW t61 t65_42 (Bo false) fun t66 =>
 condW t66 (
 getW (subStr (nthD xs_34 0) (some (N .i64 1)) none) fun t68 =>
 c_rolodex_rolodexref23_word [t68] M_43 fun t70 M_44 =>
 intW .lss t70 (N .i64 1) fun t72 =>
 guardM t72 false (fun k_45 => k_45 t70 M_44) (fun k => k .undef M_44) fun t74 M_46 =>
 guardM t72 false (fun k_47 => intW .gtr t74 (N .i64 20) fun t75 =>
 k_47 t75 M_46) (fun k => k .undef M_46) fun t75_48 M_49 =>
 pickW t72 (Bo true) t75_48 fun t76 =>
 guardM t76 false (fun k_50 => k_50 t70 M_49) (fun k => k .undef M_49) fun t78 M_51 =>
 guardM t76 false (fun k_52 => k_52 t68 M_51) (fun k => k .undef M_51) fun t79 M_53 =>
 guardM t76 false (fun k_54 => lenStr t79 fun t80 =>
 k_54 t80 M_53) (fun k => k .undef M_53) fun t80_55 M_56 =>
 guardM t76 false (fun k_57 => intW .eql t78 t80_55 fun t81 =>
 k_57 t81 M_56) (fun k => k .undef M_56) fun t81_58 M_59 =>
 pickW t76 (Bo true) t81_58 fun t82 =>
 guardM t82 false (fun k_60 => k_60 t68 M_59) (fun k => k .undef M_59) fun t84 M_61 =>
 guardM t82 false (fun k_62 => k_62 t70 M_61) (fun k => k .undef M_61) fun t85 M_63 =>
 guardM t82 false (fun k_64 => idxB t84 t85 fun t86 =>
 k_64 t86 M_63) (fun k => k .undef M_63) fun t86_65 M_66 =>
 guardM t82 false (fun k_67 => intW .neq t86_65 (N .u8 61) fun t87 =>
 k_67 t87 M_66) (fun k => k .undef M_66) fun t87_68 M_69 =>
 pickW t82 (Bo true) t87_68 fun t88 =>
 condW t88 (
 loadN M_69 t4 5 fun t89 =>
 storeW M_69 t2 t89 5 fun M_70 =>
 loadN M_70 t2 5 fun res_71 =>
 Q (.tup [res_71, (Bo false)]) M_70) (
 getW (subStr t68 none (some t70)) fun t92 =>
 c_rolodex_rolodexref23_Low [t92] M_69 fun t93 M_72 =>
 buildW [(St []), (.sc (.slice none 0 0))] [(0, 1, t93)] fun t94 =>
 newW (.row [(St []), (.sc (.slice none 0 0))] false T_rolodexref23_Param 0) (fun b => .ptr b 0) M_72 fun t6 M_73 =>
 storeW M_73 t6 t94 2 fun M_74 =>
 intW .add t70 (N .i64 1) fun t98 =>
 getW (subStr t68 (some t98) none) fun t99 =>
 c_rolodex_rolodexref23_values [t99] M_74 fun t100 M_75 =>
 extW t100 0 fun t101 =>
 extW t100 1 fun t102 =>
 extW t100 2 fun t103 =>
 fldW t6 1 fun t104 =>
 storeW M_75 t104 t101 1 fun M_76 =>
 notW t103 fun t106 =>
 condW t106 (
 loadN M_76 t4 5 fun t107 =>
 storeW M_76 t2 t107 5 fun M_77 =>
 loadN M_77 t2 5 fun res_78 =>
 Q (.tup [res_78, (Bo false)]) M_77) (
 fldW t4 2 fun t108 =>
 load1 M_76 t108 fun t109 =>
 loadN M_76 t6 2 fun t110 =>
 rowsW T_rolodexref23_Param 1 [(St []), (.sc (.slice none 0 0))] [(0, 2, t110)] fun r f =>
 newW r f M_76 fun t111 M_79 =>
 appW T_rolodexref23_Param 2 40 [(St []), (.sc (.slice none 0 0))] false t109 t111 M_79 fun t112 M_80 =>
 fldW t4 2 fun t113 =>
 storeW M_80 t113 t112 1 fun M_81 =>
 next [t102] M_81))) (
 lenStr (nthD xs_34 0) fun t115 =>
 intW .eql t115 (N .i64 0) fun t116 =>
 guardM t116 false (fun k_82 => k_82 (nthD xs_34 0) M_43) (fun k => k .undef M_43) fun t118 M_83 =>
 guardM t116 false (fun k_84 => idxB t118 (N .i64 0) fun t119 =>
 k_84 t119 M_83) (fun k => k .undef M_83) fun t119_85 M_86 =>
 guardM t116 false (fun k_87 => intW .neq t119_85 (N .u8 58) fun t120 =>
 k_87 t120 M_86) (fun k => k .undef M_86) fun t120_88 M_89 =>
 pickW t116 (Bo true) t120_88 fun t121 =>
 condW t121 (
 loadN M_89 t4 5 fun t122 =>
 storeW M_89 t2 t122 5 fun M_90 =>
 loadN M_90 t2 5 fun res_91 =>
 Q (.tup [res_91, (Bo false)]) M_90) (
 getW (subStr (nthD xs_34 0) (some (N .i64 1)) none) fun t124 =>
 fldW t4 3 fun t125 =>
 storeW M_89 t125 t124 1 fun M_92 =>
 loopW (fun next_93 xs_94 M_95 => -- [8]
 fldW t4 3 fun t127 =>
 load1 M_95 t127 fun t128 =>
 lenStr t128 fun t129 =>
 intW .lss (nthD xs_94 0) t129 fun t130 =>
 condW t130 (
 fldW t4 3 fun t133 =>
 load1 M_95 t133 fun t134 =>
 idxB t134 (nthD xs_94 0) fun t136 =>
 c_rolodex_rolodexref23_plain [t136] M_95 fun t137 M_96 =>
 notW t137 fun t138 =>
 condW t138 (
 loadN M_96 t4 5 fun t139 =>
 storeW M_96 t2 t139 5 fun M_97 =>
 loadN M_97 t2 5 fun res_98 =>
 Q (.tup [res_98, (Bo false)]) M_97) (
 intW .add (nthD xs_94 0) (N .i64 1) fun t132 =>
 next_93 [t132] M_96)) (
 loadN M_95 t4 5 fun t140 =>
 storeW M_95 t2 t140 5 fun M_99 =>
 loadN M_99 t2 5 fun res_100 =>
 Q (.tup [res_100, (Bo true)]) M_99)) [(N .i64 0)] M_92))) [t58] M_33)))

/-- strings.Cut -/
def W_strings_Cut (c_internal_stringslite_Cut : CallT) (a0 a1 : AV) (M0 : RM) (Q : PostV) : Prop :=
 c_internal_stringslite_Cut [a0, a1] M0 fun t9 M =>
 extW t9 0 fun t10 =>
 extW t9 1 fun t11 =>
 extW t9 2 fun t12 =>
 Q (.tup [t10, t11, t12]) M

/-- strings.TrimSuffix -/
def W_strings_TrimSuffix (c_internal_stringslite_TrimSuffix : CallT) (a0 a1 : AV) (M0 : RM) (Q : PostV) : Prop :=
 c_internal_stringslite_TrimSuffix [a0, a1] M0 fun t7 M =>
 Q t7 M

/-- rolodex/rolodexref23.Up -/
def W_rolodex_rolodexref23_Up (T_uint8 : Nat) (a0 : AV) (M0 : RM) (Q : PostV) : Prop :=
 bytesW T_uint8 a0 fun r f =>
 newW r f M0 fun t6 M =>
 loopW (fun next xs M_0 => -- [4]
 lenW t6 fun t9 =>
 intW .lss (nthD xs 0) t9 fun t10 =>
 condW t10 (
 joinW (fun J =>
 idxS t6 (nthD xs 0) 1 fun t15 =>
 load1 M_0 t15 fun t16 =>
 intW .geq t16 (N .u8 97) fun t17 =>
 guardM t17 true (fun k => k t6 M_0) (fun k => k .undef M_0) fun t19 M_1 =>
 guardM t17 true (fun k_2 => k_2 (nthD xs 0) M_1) (fun k => k .undef M_1) fun t20 M_3 =>
 guardM t17 true (fun k_4 => idxS t19 t20 1 fun t21 =>
 k_4 t21 M_3) (fun k => k .undef M_3) fun t21_5 M_6 =>
 guardM t17 true (fun k_7 => load1 M_6 t21_5 fun t22 =>
 k_7 t22 M_6) (fun k => k .undef M_6) fun t22_8 M_9 =>
 guardM t17 true (fun k_10 => intW .leq t22_8 (N .u8 122) fun t23 =>
 k_10 t23 M_9) (fun k => k .undef M_9) fun t23_11 M_12 =>
 pickW t17 t23_11 (Bo false) fun t24 =>
 condW t24 (
 idxS t6 (nthD xs 0) 1 fun t29 =>
 load1 M_12 t29 fun t30 =>
 intW .sub t30 (N .u8 32) fun t31 =>
 idxS t6 (nthD xs 0) 1 fun t32 =>
 storeW M_12 t32 t31 1 fun M_13 =>
 J [] M_13) (
 J [] M_12)) (fun xs_14 M_15 => -- []
 intW .add (nthD xs 0) (N .i64 1) fun t12 =>
 next [t12] M_15)) (
 strOfW M_0 t6 fun t34 =>
 Q t34 M_0)) [(N .i64 0)] M

/-- rolodex/rolodexref23.Params -/
def W_rolodex_rolodexref23_Params (T_rolodexref23_Line : Nat) (c_rolodex_rolodexref23_Up : CallT) (c_rolodex_rolodexref23_has : CallT) (a0 a1 a2 : AV) (M0 : RM) (Q : PostV) : Prop :=
 boxW T_rolodexref23_Line a0 fun r f =>
 newW r f M0 fun t3 M =>
 loopW (fun next xs M_0 => -- [7, 8]
 fldW t3 2 fun t13 =>
 load1 M_0 t13 fun t14 =>
 lenW t14 fun t15 =>
 intW .lss (nthD xs 1) t15 fun t16 =>
 condW t16 (
 joinW (fun J =>
 fldW t3 2 fun t19 =>
 load1 M_0 t19 fun t20 =>
 idxS t20 (nthD xs 1) 2 fun t22 =>
 fldW t22 0 fun t23 =>
 load1 M_0 t23 fun t24 =>
 joinW (fun J_1 =>
 condW a1 (
 c_rolodex_rolodexref23_Up [t24] M_0 fun t27 M_2 =>
 J_1 [t27] M_2) (
 J_1 [t24] M_0)) (fun xs_3 M_4 => -- [9]
 strW .add (nthD xs 0) (St [59]) fun t29 =>
 strW .add t29 (nthD xs_3 0) fun t31 =>
 strW .add t31 (St [61]) fun t32 =>
 loopW (fun next_5 xs_6 M_7 => -- [7, 10]
 fldW t3 2 fun t34 =>
 load1 M_7 t34 fun t35 =>
 idxS t35 (nthD xs 1) 2 fun t37 =>
 fldW t37 1 fun t38 =>
 load1 M_7 t38 fun t39 =>
 lenW t39 fun t40 =>
 intW .lss (nthD xs_6 1) t40 fun t41 =>
 condW t41 (
 joinW (fun J_8 =>
 fldW t3 2 fun t44 =>
 load1 M_7 t44 fun t45 =>
 idxS t45 (nthD xs 1) 2 fun t47 =>
 fldW t47 1 fun t48 =>
 load1 M_7 t48 fun t49 =>
 idxS t49 (nthD xs_6 1) 1 fun t51 =>
 load1 M_7 t51 fun t52 =>
 joinW (fun J_9 =>
 intW .gtr (nthD xs_6 1) (N .i64 0) fun t54 =>
 condW t54 (
 strW .add (nthD xs_6 0) (St [44]) fun t56 =>
 J_9 [t56] M_7) (
 J_9 [(nthD xs_6 0)] M_7)) (fun xs_10 M_11 => -- [7]
 joinW (fun J_12 =>
 c_rolodex_rolodexref23_has [t52, a2] M_11 fun t59 M_13 =>
 condW t59 (
 strW .add (St [34]) t52 fun t61 =>
 strW .add t61 (St [34]) fun t62 =>
 J_12 [t62] M_13) (
 J_12 [t52] M_13)) (fun xs_14 M_15 => -- [11]
 strW .add (nthD xs_10 0) (nthD xs_14 0) fun t65 =>
 J_8 [t65] M_15))) (fun xs_16 M_17 => -- [7]
 intW .add (nthD xs_6 1) (N .i64 1) fun t43 =>
 next_5 [(nthD xs_16 0), t43] M_17)) (
 J [(nthD xs_6 0)] M_7)) [t32, (N .i64 0)] M_4)) (fun xs_18 M_19 => -- [7]
 intW .add (nthD xs 1) (N .i64 1) fun t18 =>
 next [(nthD xs_18 0), t18] M_19)) (
 Q (nthD xs 0) M_0)) [(St []), (N .i64 0)] M

/-- rolodex/vline.piece -/
def W_rolodex_vline_piece (c_unicode_utf8_DecodeRuneInString : CallT) (a0 a1 : AV) (M0 : RM) (Q : PostV) : Prop :=
 joinW (fun J =>
 loopW (fun next xs M => -- [5]
 lenStr a0 fun t10 =>
 intW .lss (nthD xs 0) t10 fun t11 =>
 condW t11 (
 getW (subStr a0 (some (nthD xs 0)) none) fun t15 =>
 c_unicode_utf8_DecodeRuneInString [t15] M fun t16 M_0 =>
 extW t16 0 fun t17 =>
 extW t16 1 fun t18 =>
 intW .add (nthD xs 0) t18 fun t21 =>
 intW .gtr t21 a1 fun t23 =>
 condW t23 (
 J [(nthD xs 0)] M_0) (
 intW .add (nthD xs 0) t18 fun t26 =>
 next [t26] M_0)) (
 J [(nthD xs 0)] M)) [(N .i64 0)] M0) (fun xs_1 M_2 => -- [5]
 Q (nthD xs_1 0) M_2)

/-- (*strings.Builder).WriteString -/
def W_strings_Builder_WriteString (c_strings_Builder_copyCheck : CallT) (T_uint8 : Nat) (a0 a1 : AV) (M0 : RM) (Q : PostV) : Prop :=
 c_strings_Builder_copyCheck [a0] M0 fun t7 M =>
 ptrW a0 fun t10 =>
 fldW t10 1 fun t11 =>
 load1 M t11 fun t12 =>
 appW T_uint8 1 1 [(N .u8 0)] false t12 a1 M fun t14 M_0 =>
 ptrW a0 fun t15 =>
 fldW t15 1 fun t16 =>
 storeW M_0 t16 t14 1 fun M_1 =>
 lenStr a1 fun t18 =>
 Q (.tup [t18, (.sc .nilIface)]) M_1

/-- rolodex/rolodexref23.Rune -/
def W_rolodex_rolodexref23_Rune (a0 : AV) (M0 : RM) (Q : PostV) : Prop :=
 lenStr a0 fun t9 =>
 intW .eql t9 (N .i64 0) fun t10 =>
 condW t10 (
 Q (N .i64 0) M0) (
 idxB a0 (N .i64 0) fun t12 =>
 cvtW .i64 t12 fun t13 =>
 intW .lss t13 (N .i64 128) fun t15 =>
 condW t15 (
 Q (N .i64 1) M0) (
 joinW (fun J =>
 intW .geq t13 (N .i64 194) fun t18 =>
 guardM t18 true (fun k => k t13 M0) (fun k => k .undef M0) fun t20 M =>
 guardM t18 true (fun k_0 => intW .lss t20 (N .i64 224) fun t21 =>
 k_0 t21 M) (fun k => k .undef M) fun t21_1 M_2 =>
 pickW t18 t21_1 (Bo false) fun t22 =>
 condW t22 (
 intW .sub t13 (N .i64 192) fun t24 =>
 J [(N .i64 2), t24] M_2) (
 intW .geq t13 (N .i64 224) fun t27 =>
 guardM t27 true (fun k_3 => k_3 t13 M_2) (fun k => k .undef M_2) fun t29 M_4 =>
 guardM t27 true (fun k_5 => intW .lss t29 (N .i64 240) fun t30 =>
 k_5 t30 M_4) (fun k => k .undef M_4) fun t30_6 M_7 =>
 pickW t27 t30_6 (Bo false) fun t31 =>
 condW t31 (
 intW .sub t13 (N .i64 224) fun t33 =>
 J [(N .i64 3), t33] M_7) (
 intW .geq t13 (N .i64 240) fun t36 =>
 guardM t36 true (fun k_8 => k_8 t13 M_7) (fun k => k .undef M_7) fun t38 M_9 =>
 guardM t36 true (fun k_10 => intW .lss t38 (N .i64 245) fun t39 =>
 k_10 t39 M_9) (fun k => k .undef M_9) fun t39_11 M_12 =>
 pickW t36 t39_11 (Bo false) fun t40 =>
 condW t40 (
 intW .sub t13 (N .i64 240) fun t42 =>
 J [(N .i64 4), t42] M_12) (
 Q (N .i64 0) M_12)))) (fun xs M_13 => -- [4, 5]
 lenStr a0 fun t44 =>
 intW .lss t44 (nthD xs 0) fun t46 =>
 condW t46 (
 Q (N .i64 0) M_13) (
 loopW (fun next xs_14 M_15 => -- [5, 6]
 intW .lss (nthD xs_14 1) (nthD xs 0) fun t49 =>
 condW t49 (
 idxB a0 (nthD xs_14 1) fun t54 =>
 cvtW .i64 t54 fun t55 =>
 intW .lss t55 (N .i64 128) fun t57 =>
 guardM t57 false (fun k_16 => k_16 t55 M_15) (fun k => k .undef M_15) fun t59 M_17 =>
 guardM t57 false (fun k_18 => intW .gtr t59 (N .i64 191) fun t60 =>
 k_18 t60 M_17) (fun k => k .undef M_17) fun t60_19 M_20 =>
 pickW t57 (Bo true) t60_19 fun t61 =>
 condW t61 (
 Q (N .i64 0) M_20) (
 intW .mul (N .i64 64) (nthD xs_14 0) fun t63 =>
 intW .add t63 t55 fun t65 =>
 intW .sub t65 (N .i64 128) fun t66 =>
 intW .add (nthD xs_14 1) (N .i64 1) fun t51 =>
 next [t66, t51] M_20)) (
 intW .eql (nthD xs 0) (N .i64 3) fun t68 =>
 guardM t68 true (fun k_21 => k_21 (nthD xs_14 0) M_15) (fun k => k .undef M_15) fun t70 M_22 =>
 guardM t68 true (fun k_23 => intW .lss t70 (N .i64 2048) fun t71 =>
 k_23 t71 M_22) (fun k => k .undef M_22) fun t71_24 M_25 =>
 guardM t68 true (fun k_26 => k_26 t71_24 M_25) (fun k => k .undef M_25) fun t72 M_27 =>
 guardM t72 false (fun k_28 => k_28 (nthD xs_14 0) M_27) (fun k => k .undef M_27) fun t73 M_29 =>
 guardM t72 false (fun k_30 => intW .geq t73 (N .i64 55296) fun t74 =>
 k_30 t74 M_29) (fun k => k .undef M_29) fun t74_31 M_32 =>
 guardM t72 false (fun k_33 => k_33 t74_31 M_32) (fun k => k .undef M_32) fun t75 M_34 =>
 guardM t75 true (fun k_35 => k_35 (nthD xs_14 0) M_34) (fun k => k .undef M_34) fun t76 M_36 =>
 guardM t75 true (fun k_37 => intW .lss t76 (N .i64 57344) fun t77 =>
 k_37 t77 M_36) (fun k => k .undef M_36) fun t77_38 M_39 =>
 guardM t72 false (fun k_40 => pickW t75 t77_38 (Bo false) fun t78 =>
 k_40 t78 M_39) (fun k => k .undef M_39) fun t78_41 M_42 =>
 guardM t68 true (fun k_43 => pickW t72 (Bo true) t78_41 fun t79 =>
 k_43 t79 M_42) (fun k => k .undef M_42) fun t79_44 M_45 =>
 pickW t68 t79_44 (Bo false) fun t80 =>
 guardM t80 false (fun k_46 => k_46 (nthD xs 0) M_45) (fun k => k .undef M_45) fun t82 M_47 =>
 guardM t80 false (fun k_48 => intW .eql t82 (N .i64 4) fun t83 =>
 k_48 t83 M_47) (fun k => k .undef M_47) fun t83_49 M_50 =>
 guardM t80 false (fun k_51 => k_51 t83_49 M_50) (fun k => k .undef M_50) fun t84 M_52 =>
 guardM t84 true (fun k_53 => k_53 (nthD xs_14 0) M_52) (fun k => k .undef M_52) fun t85 M_54 =>
 guardM t84 true (fun k_55 => intW .lss t85 (N .i64 65536) fun t86 =>
 k_55 t86 M_54) (fun k => k .undef M_54) fun t86_56 M_57 =>
 guardM t84 true (fun k_58 => k_58 t86_56 M_57) (fun k => k .undef M_57) fun t87 M_59 =>
 guardM t87 false (fun k_60 => k_60 (nthD xs_14 0) M_59) (fun k => k .undef M_59) fun t88 M_61 =>
 guardM t87 false (fun k_62 => intW .gtr t88 (N .i64 1114111) fun t89 =>
 k_62 t89 M_61) (fun k => k .undef M_61) fun t89_63 M_64 =>
 guardM t84 true (fun k_65 => pickW t87 (Bo true) t89_63 fun t90 =>
 k_65 t90 M_64) (fun k => k .undef M_64) fun t90_66 M_67 =>
 guardM t80 false (fun k_68 => pickW t84 t90_66 (Bo false) fun t91 =>
 k_68 t91 M_67) (fun k => k .undef M_67) fun t91_69 M_70 =>
 pickW t80 (Bo true) t91_69 fun t92 =>
 condW t92 (
 Q (N .i64 0) M_70) (
 Q (nthD xs 0) M_70))) [(nthD xs 1), (N .i64 1)] M_13))))

/-- (*strings.Builder).copyCheck -/
def W_strings_Builder_copyCheck (x_internal_abi_NoEscape : CallT) (T_strings_Builder : Nat) (a0 : AV) (M0 : RM) (Q : PostV) : Prop :=
 ptrW a0 fun t3 =>
 fldW t3 0 fun t4 =>
 load1 M0 t4 fun t5 =>
 refEqW false 1 t5 (.sc (.pointer none)) fun t6 =>
 condW t6 (
 uptrW M0 a0 fun t9 =>
 x_internal_abi_NoEscape [t9] M0 fun t10 M =>
 ptruW T_strings_Builder 2 M t10 fun t11 =>
 ptrW a0 fun t12 =>
 fldW t12 0 fun t13 =>
 storeW M t13 t11 1 fun M_0 =>
 Q (.tup []) M_0) (
 ptrW a0 fun t15 =>
 fldW t15 0 fun t16 =>
 load1 M0 t16 fun t17 =>
 refEqW true 1 t17 a0 fun t19 =>
 condW t19 (
 False) (
 Q (.tup []) M0))

/-- internal/stringslite.IndexByte -/
def W_internal_stringslite_IndexByte (x_internal_bytealg_IndexByteString : CallT) (a0 a1 : AV) (M0 : RM) (Q : PostV) : Prop :=
 x_internal_bytealg_IndexByteString [a0, a1] M0 fun t7 M =>
 Q t7 M

/-- rolodex/vline.goodName -/
def W_rolodex_vline_goodName (c_strings_Trim : CallT) (a0 : AV) (M0 : RM) (Q : PostV) : Prop :=
 lenStr a0 fun t4 =>
 intW .geq t4 (N .i64 1) fun t5 =>
 guardM t5 true (fun k => k a0 M0) (fun k => k .undef M0) fun t7 M =>
 guardM t5 true (fun k_0 => lenStr t7 fun t8 =>
 k_0 t8 M) (fun k => k .undef M) fun t8_1 M_2 =>
 guardM t5 true (fun k_3 => intW .leq t8_1 (N .i64 20) fun t9 =>
 k_3 t9 M_2) (fun k => k .undef M_2) fun t9_4 M_5 =>
 pickW t5 t9_4 (Bo false) fun t10 =>
 guardM t10 true (fun k_6 => k_6 a0 M_5) (fun k => k .undef M_5) fun t12 M_7 =>
 guardM t10 true (fun k_8 => c_strings_Trim [t12, (St [97, 98, 99, 100, 101, 102, 103, 104, 105, 106, 107, 108, 109, 110, 111, 112, 113, 114, 115, 116, 117, 118, 119, 120, 121, 122, 48, 49, 50, 51, 52, 53, 54, 55, 56, 57, 45])] M_7 fun t13 M_9 =>
 k_8 t13 M_9) (fun k => k .undef M_7) fun t13_10 M_11 =>
 guardM t10 true (fun k_12 => strW .eql t13_10 (St []) fun t14 =>
 k_12 t14 M_11) (fun k => k .undef M_11) fun t14_13 M_14 =>
 pickW t10 t14_13 (Bo false) fun t15 =>
 Q t15 M_14

/-- rolodex/vline.goodValue -/
def W_rolodex_vline_goodValue (T_uint8 : Nat) (c_rolodex_vline_plain : CallT) (c_strings_IndexByte : CallT) (c_unicode_utf8_ValidString : CallT) (a0 a1 : AV) (M0 : RM) (Q : PostV) : Prop :=
 bytesW T_uint8 a0 fun r f =>
 newW r f M0 fun t8 M =>
 lenW t8 fun t9 =>
 loopW (fun next xs M_0 => -- [10]
 intW .lss (nthD xs 0) t9 fun t11 =>
 condW t11 (
 idxS t8 (nthD xs 0) 1 fun t12 =>
 load1 M_0 t12 fun t13 =>
 c_rolodex_vline_plain [t13] M_0 fun t15 M_1 =>
 notW t15 fun t16 =>
 guardM t16 false (fun k => k a1 M_1) (fun k => k .undef M_1) fun t18 M_2 =>
 guardM t16 false (fun k_3 => k_3 t13 M_2) (fun k => k .undef M_2) fun t19 M_4 =>
 guardM t16 false (fun k_5 => c_strings_IndexByte [t18, t19] M_4 fun t20 M_6 =>
 k_5 t20 M_6) (fun k => k .undef M_4) fun t20_7 M_8 =>
 guardM t16 false (fun k_9 => intW .geq t20_7 (N .i64 0) fun t21 =>
 k_9 t21 M_8) (fun k => k .undef M_8) fun t21_10 M_11 =>
 pickW t16 (Bo true) t21_10 fun t22 =>
 condW t22 (
 Q (Bo false) M_11) (
 intW .add (nthD xs 0) (N .i64 1) fun t23 =>
 next [t23] M_11)) (
 c_unicode_utf8_ValidString [a0] M_0 fun t25 M_12 =>
 Q t25 M_12)) [(N .i64 0)] M

/-- slices.ContainsFunc[[]string,string] -/
def W_slices_ContainsFunc_string_string (c_slices_IndexFunc_string_string : CallT) (a0 a1 : AV) (M0 : RM) (Q : PostV) : Prop :=
 c_slices_IndexFunc_string_string [a0, a1] M0 fun t7 M =>
 intW .geq t7 (N .i64 0) fun t8 =>
 Q t8 M

/-- rolodex/vline.good$1 -/
def W_rolodex_vline_good_1 (c_rolodex_vline_goodValue : CallT) (a0 : AV) (M0 : RM) (Q : PostV) : Prop :=
 c_rolodex_vline_goodValue [a0, (St [34])] M0 fun t4 M =>
 notW t4 fun t5 =>
 Q t5 M

/-- rolodex/vline.great -/
def W_rolodex_vline_great (T_uint8 : Nat) (a0 : AV) (M0 : RM) (Q : PostV) : Prop :=
 bytesW T_uint8 a0 fun r f =>
 newW r f M0 fun t7 M =>
 lenW t7 fun t9 =>
 loopW (fun next xs M_0 => -- [10]
 intW .lss (nthD xs 0) t9 fun t11 =>
 condW t11 (
 joinW (fun J =>
 idxS t7 (nthD xs 0) 1 fun t13 =>
 load1 M_0 t13 fun t14 =>
 intW .geq t14 (N .u8 97) fun t16 =>
 guardM t16 true (fun k => k t14 M_0) (fun k => k .undef M_0) fun t18 M_1 =>
 guardM t16 true (fun k_2 => intW .leq t18 (N .u8 122) fun t19 =>
 k_2 t19 M_1) (fun k => k .undef M_1) fun t19_3 M_4 =>
 pickW t16 t19_3 (Bo false) fun t20 =>
 condW t20 (
 intW .add t14 (N .u8 65) fun t24 =>
 intW .sub t24 (N .u8 97) fun t25 =>
 idxS t7 (nthD xs 0) 1 fun t26 =>
 storeW M_4 t26 t25 1 fun M_5 =>
 J [] M_5) (
 J [] M_4)) (fun xs_6 M_7 => -- []
 intW .add (nthD xs 0) (N .i64 1) fun t27 =>
 next [t27] M_7)) (
 strOfW M_0 t7 fun t29 =>
 Q t29 M_0)) [(N .i64 0)] M

/-- strings.ContainsAny -/
def W_strings_ContainsAny (c_strings_IndexAny : CallT) (a0 a1 : AV) (M0 : RM) (Q : PostV) : Prop :=
 c_strings_IndexAny [a0, a1] M0 fun t7 M =>
 intW .geq t7 (N .i64 0) fun t8 =>
 Q t8 M

/-- unicode/utf8.ValidString -/
def W_unicode_utf8_ValidString (c_unicode_utf8_word_string : CallT) (T_utf8_acceptRange : Nat) (a0 : AV) (M0 : RM) (Q : PostV) : Prop :=
 loopW (fun next xs M => -- [0]
 lenStr (nthD xs 0) fun t8 =>
 intW .gtr t8 (N .i64 0) fun t9 =>
 condW t9 (
 idxB (nthD xs 0) (N .i64 0) fun t11 =>
 intW .lss t11 (N .u8 128) fun t13 =>
 condW t13 (
 getW (subStr (nthD xs 0) (some (N .i64 1)) none) fun t15 =>
 joinW (fun J =>
 lenStr t15 fun t17 =>
 intW .gtr t17 (N .i64 8) fun t18 =>
 guardM t18 true (fun k => k t15 M) (fun k => k .undef M) fun t20 M_0 =>
 guardM t18 true (fun k_1 => c_unicode_utf8_word_string [t20] M_0 fun t21 M_2 =>
 k_1 t21 M_2) (fun k => k .undef M_0) fun t21_3 M_4 =>
 guardM t18 true (fun k_5 => intW .and t21_3 (N .u64 9259542123273814144) fun t22 =>
 k_5 t22 M_4) (fun k => k .undef M_4) fun t22_6 M_7 =>
 guardM t18 true (fun k_8 => intW .eql t22_6 (N .u64 0) fun t23 =>
 k_8 t23 M_7) (fun k => k .undef M_7) fun t23_9 M_10 =>
 pickW t18 t23_9 (Bo false) fun t24 =>
 condW t24 (
 getW (subStr t15 (some (N .i64 8)) none) fun t26 =>
 lenStr t26 fun t28 =>
 intW .gtr t28 (N .i64 16) fun t29 =>
 guardK t29 true (fun k_11 => k_11 t26 M_10 none) (fun k => k .undef M_10 none) fun t31 M_12 b =>
 guardK t29 true (fun k_13 => k_13 t26 M_12 none) (fun k => k .undef M_12 none) fun t33 M_14 b_15 =>
 guardK t29 true (fun k_16 => getW (subStr t33 (some (N .i64 8)) none) fun t34 =>
 k_16 t34 M_14 none) (fun k => k .undef M_14 none) fun t34_17 M_18 b_19 =>
 guardM t29 true (fun k_20 => c_unicode_utf8_word_string [t31] M_18 fun t32 M_21 =>
 k_20 t32 M_21) (fun k => k .undef M_18) fun t32_22 M_23 =>
 guardP t29 true (fun k_24 => getW (subStr t33 (some (N .i64 8)) none) fun t34_25 =>
 (t34_25 = t34_17 ∧ k_24)) (fun k => k) (guardM t29 true (fun k_26 => c_unicode_utf8_word_string [t34_17] M_23 fun t35 M_27 =>
 k_26 t35 M_27) (fun k => k .undef M_23) fun t35_28 M_29 =>
 guardK t29 true (fun k_30 => intW .or t32_22 t35_28 fun t36 =>
 k_30 t36 M_29 none) (fun k => k .undef M_29 none) fun t36_31 M_32 b_33 =>
 guardK t29 true (fun k_34 => intW .and t36_31 (N .u64 9259542123273814144) fun t37 =>
 k_34 t37 M_32 none) (fun k => k .undef M_32 none) fun t37_35 M_36 b_37 =>
 guardK t29 true (fun k_38 => intW .eql t37_35 (N .u64 0) fun t38 =>
 k_38 t38 M_36 none) (fun k => k .undef M_36 none) fun t38_39 M_40 b_41 =>
 pickW t29 t38_39 (Bo false) fun t39 =>
 condW t39 (
 getW (subStr t26 (some (N .i64 16)) none) fun t41 =>
 loopW (fun next_42 xs_43 M_44 => -- [0]
 lenStr (nthD xs_43 0) fun t43 =>
 intW .gtr t43 (N .i64 32) fun t44 =>
 guardK t44 true (fun k_45 => k_45 (nthD xs_43 0) M_44 none) (fun k => k .undef M_44 none) fun t46 M_46 b_47 =>
 guardK t44 true (fun k_48 => k_48 (nthD xs_43 0) M_46 none) (fun k => k .undef M_46 none) fun t48 M_49 b_50 =>
 guardK t44 true (fun k_51 => getW (subStr t48 (some (N .i64 8)) none) fun t49 =>
 k_51 t49 M_49 none) (fun k => k .undef M_49 none) fun t49_52 M_53 b_54 =>
 guardK t44 true (fun k_55 => k_55 (nthD xs_43 0) M_53 none) (fun k => k .undef M_53 none) fun t52 M_56 b_57 =>
 guardK t44 true (fun k_58 => getW (subStr t52 (some (N .i64 16)) none) fun t53 =>
 k_58 t53 M_56 none) (fun k => k .undef M_56 none) fun t53_59 M_60 b_61 =>
 guardK t44 true (fun k_62 => k_62 (nthD xs_43 0) M_60 none) (fun k => k .undef M_60 none) fun t55 M_63 b_64 =>
 guardK t44 true (fun k_65 => getW (subStr t55 (some (N .i64 24)) none) fun t56 =>
 k_65 t56 M_63 none) (fun k => k .undef M_63 none) fun t56_66 M_67 b_68 =>
 guardM t44 true (fun k_69 => c_unicode_utf8_word_string [t46] M_67 fun t47 M_70 =>
 k_69 t47 M_70) (fun k => k .undef M_67) fun t47_71 M_72 =>
 guardP t44 true (fun k_73 => getW (subStr t48 (some (N .i64 8)) none) fun t49_74 =>
 (t49_74 = t49_52 ∧ k_73)) (fun k => k) (guardP t44 true (fun k_75 => getW (subStr t52 (some (N .i64 16)) none) fun t53_76 =>
 (t53_76 = t53_59 ∧ k_75)) (fun k => k) (guardP t44 true (fun k_77 => getW (subStr t55 (some (N .i64 24)) none) fun t56_78 =>
 (t56_78 = t56_66 ∧ k_77)) (fun k => k) (guardM t44 true (fun k_79 => c_unicode_utf8_word_string [t49_52] M_72 fun t50 M_80 =>
 k_79 t50 M_80) (fun k => k .undef M_72) fun t50_81 M_82 =>
 guardP t44 true (fun k_83 => getW (subStr t52 (some (N .i64 16)) none) fun t53_84 =>
 (t53_84 = t53_59 ∧ k_83)) (fun k => k) (guardP t44 true (fun k_85 => getW (subStr t55 (some (N .i64 24)) none) fun t56_86 =>
 (t56_86 = t56_66 ∧ k_85)) (fun k => k) (guardK t44 true (fun k_87 => intW .or t47_71 t50_81 fun t51 =>
 k_87 t51 M_82 none) (fun k => k .undef M_82 none) fun t51_88 M_89 b_90 =>
 guardM t44 true (fun k_91 => c_unicode_utf8_word_string [t53_59] M_89 fun t54 M_92 =>
 k_91 t54 M_92) (fun k => k .undef M_89) fun t54_93 M_94 =>
 guardP t44 true (fun k_95 => getW (subStr t55 (some (N .i64 24)) none) fun t56_96 =>
 (t56_96 = t56_66 ∧ k_95)) (fun k => k) (guardM t44 true (fun k_97 => c_unicode_utf8_word_string [t56_66] M_94 fun t57 M_98 =>
 k_97 t57 M_98) (fun k => k .undef M_94) fun t57_99 M_100 =>
 guardK t44 true (fun k_101 => intW .or t54_93 t57_99 fun t58 =>
 k_101 t58 M_100 none) (fun k => k .undef M_100 none) fun t58_102 M_103 b_104 =>
 guardK t44 true (fun k_105 => intW .or t51_88 t58_102 fun t59 =>
 k_105 t59 M_103 none) (fun k => k .undef M_103 none) fun t59_106 M_107 b_108 =>
 guardK t44 true (fun k_109 => intW .and t59_106 (N .u64 9259542123273814144) fun t60 =>
 k_109 t60 M_107 none) (fun k => k .undef M_107 none) fun t60_110 M_111 b_112 =>
 guardK t44 true (fun k_113 => intW .eql t60_110 (N .u64 0) fun t61 =>
 k_113 t61 M_111 none) (fun k => k .undef M_111 none) fun t61_114 M_115 b_116 =>
 pickW t44 t61_114 (Bo false) fun t62 =>
 condW t62 (
 getW (subStr (nthD xs_43 0) (some (N .i64 32)) none) fun t64 =>
 next_42 [t64] M_115) (
 J [(nthD xs_43 0)] M_115)))))))) [t41] M_40) (
 J [t26] M_40))) (
 J [t15] M_10)) (fun xs_117 M_118 => -- [0]
 next [(nthD xs_117 0)] M_118)) (
 idxA .top t11 256 1 fun t66 =>
 load1 M t66 fun t67 =>
 intW .and t67 (N .u8 7) fun t69 =>
 cvtW .i64 t69 fun t70 =>
 shW .shr t67 (N .u64 4) fun t72 =>
 idxA .top t72 16 2 fun t73 =>
 loadN M t73 2 fun t74 =>
 newW (.row [(N .u8 0), (N .u8 0)] false T_utf8_acceptRange 0) (fun b => .ptr b 0) M fun t6 M_119 =>
 storeW M_119 t6 t74 2 fun M_120 =>
 intW .eql t70 (N .i64 2) fun t77 =>
 condW t77 (
 lenStr (nthD xs 0) fun t79 =>
 intW .lss t79 (N .i64 2) fun t80 =>
 guardK t80 false (fun k_121 => k_121 (nthD xs 0) M_120 none) (fun k => k .undef M_120 none) fun t82 M_122 b_123 =>
 guardK t80 false (fun k_124 => idxB t82 (N .i64 1) fun t83 =>
 k_124 t83 M_122 none) (fun k => k .undef M_122 none) fun t83_125 M_126 b_127 =>
 guardK t80 false (fun k_128 => fldW t6 0 fun t84 =>
 k_128 t84 M_126 none) (fun k => k .undef M_126 none) fun t84_129 M_130 b_131 =>
 guardK t80 false (fun k_132 => load1 M_130 t84_129 fun t85 =>
 k_132 t85 M_130 none) (fun k => k .undef M_130 none) fun t85_133 M_134 b_135 =>
 guardK t80 false (fun k_136 => intW .lss t83_125 t85_133 fun t86 =>
 k_136 t86 M_134 none) (fun k => k .undef M_134 none) fun t86_137 M_138 b_139 =>
 pickW t80 (Bo true) t86_137 fun t87 =>
 guardK t87 false (fun k_140 => fldW t6 1 fun t89 =>
 k_140 t89 M_138 none) (fun k => k .undef M_138 none) fun t89_141 M_142 b_143 =>
 guardK t87 false (fun k_144 => load1 M_142 t89_141 fun t90 =>
 k_144 t90 M_142 none) (fun k => k .undef M_142 none) fun t90_145 M_146 b_147 =>
 guardK t87 false (fun k_148 => k_148 (nthD xs 0) M_146 none) (fun k => k .undef M_146 none) fun t91 M_149 b_150 =>
 guardK t87 false (fun k_151 => idxB t91 (N .i64 1) fun t92 =>
 k_151 t92 M_149 none) (fun k => k .undef M_149 none) fun t92_152 M_153 b_154 =>
 guardK t87 false (fun k_155 => intW .lss t90_145 t92_152 fun t93 =>
 k_155 t93 M_153 none) (fun k => k .undef M_153 none) fun t93_156 M_157 b_158 =>
 pickW t87 (Bo true) t93_156 fun t94 =>
 condW t94 (
 Q (Bo false) M_157) (
 getW (subStr (nthD xs 0) (some (N .i64 2)) none) fun t96 =>
 next [t96] M_157)) (
 intW .eql t70 (N .i64 3) fun t98 =>
 condW t98 (
 lenStr (nthD xs 0) fun t100 =>
 intW .lss t100 (N .i64 3) fun t101 =>
 guardK t101 false (fun k_159 => k_159 (nthD xs 0) M_120 none) (fun k => k .undef M_120 none) fun t103 M_160 b_161 =>
 guardK t101 false (fun k_162 => idxB t103 (N .i64 1) fun t104 =>
 k_162 t104 M_160 none) (fun k => k .undef M_160 none) fun t104_163 M_164 b_165 =>
 guardK t101 false (fun k_166 => fldW t6 0 fun t105 =>
 k_166 t105 M_164 none) (fun k => k .undef M_164 none) fun t105_167 M_168 b_169 =>
 guardK t101 false (fun k_170 => load1 M_168 t105_167 fun t106 =>
 k_170 t106 M_168 none) (fun k => k .undef M_168 none) fun t106_171 M_172 b_173 =>
 guardK t101 false (fun k_174 => intW .lss t104_163 t106_171 fun t107 =>
 k_174 t107 M_172 none) (fun k => k .undef M_172 none) fun t107_175 M_176 b_177 =>
 pickW t101 (Bo true) t107_175 fun t108 =>
 guardK t108 false (fun k_178 => fldW t6 1 fun t110 =>
 k_178 t110 M_176 none) (fun k => k .undef M_176 none) fun t110_179 M_180 b_181 =>
 guardK t108 false (fun k_182 => load1 M_180 t110_179 fun t111 =>
 k_182 t111 M_180 none) (fun k => k .undef M_180 none) fun t111_183 M_184 b_185 =>
 guardK t108 false (fun k_186 => k_186 (nthD xs 0) M_184 none) (fun k => k .undef M_184 none) fun t112 M_187 b_188 =>
 guardK t108 false (fun k_189 => idxB t112 (N .i64 1) fun t113 =>
 k_189 t113 M_187 none) (fun k => k .undef M_187 none) fun t113_190 M_191 b_192 =>
 guardK t108 false (fun k_193 => intW .lss t111_183 t113_190 fun t114 =>
 k_193 t114 M_191 none) (fun k => k .undef M_191 none) fun t114_194 M_195 b_196 =>
 pickW t108 (Bo true) t114_194 fun t115 =>
 guardK t115 false (fun k_197 => k_197 (nthD xs 0) M_195 none) (fun k => k .undef M_195 none) fun t117 M_198 b_199 =>
 guardK t115 false (fun k_200 => idxB t117 (N .i64 2) fun t118 =>
 k_200 t118 M_198 none) (fun k => k .undef M_198 none) fun t118_201 M_202 b_203 =>
 guardK t115 false (fun k_204 => intW .lss t118_201 (N .u8 128) fun t119 =>
 k_204 t119 M_202 none) (fun k => k .undef M_202 none) fun t119_205 M_206 b_207 =>
 pickW t115 (Bo true) t119_205 fun t120 =>
 guardK t120 false (fun k_208 => k_208 (nthD xs 0) M_206 none) (fun k => k .undef M_206 none) fun t122 M_209 b_210 =>
 guardK t120 false (fun k_211 => idxB t122 (N .i64 2) fun t123 =>
 k_211 t123 M_209 none) (fun k => k .undef M_209 none) fun t123_212 M_213 b_214 =>
 guardK t120 false (fun k_215 => intW .lss (N .u8 191) t123_212 fun t124 =>
 k_215 t124 M_213 none) (fun k => k .undef M_213 none) fun t124_216 M_217 b_218 =>
 pickW t120 (Bo true) t124_216 fun t125 =>
 condW t125 (
 Q (Bo false) M_217) (
 getW (subStr (nthD xs 0) (some (N .i64 3)) none) fun t127 =>
 next [t127] M_217)) (
 intW .eql t70 (N .i64 4) fun t129 =>
 condW t129 (
 lenStr (nthD xs 0) fun t131 =>
 intW .lss t131 (N .i64 4) fun t132 =>
 guardK t132 false (fun k_219 => k_219 (nthD xs 0) M_120 none) (fun k => k .undef M_120 none) fun t134 M_220 b_221 =>
 guardK t132 false (fun k_222 => idxB t134 (N .i64 1) fun t135 =>
 k_222 t135 M_220 none) (fun k => k .undef M_220 none) fun t135_223 M_224 b_225 =>
 guardK t132 false (fun k_226 => fldW t6 0 fun t136 =>
 k_226 t136 M_224 none) (fun k => k .undef M_224 none) fun t136_227 M_228 b_229 =>
 guardK t132 false (fun k_230 => load1 M_228 t136_227 fun t137 =>
 k_230 t137 M_228 none) (fun k => k .undef M_228 none) fun t137_231 M_232 b_233 =>
 guardK t132 false (fun k_234 => intW .lss t135_223 t137_231 fun t138 =>
 k_234 t138 M_232 none) (fun k => k .undef M_232 none) fun t138_235 M_236 b_237 =>
 pickW t132 (Bo true) t138_235 fun t139 =>
 guardK t139 false (fun k_238 => fldW t6 1 fun t141 =>
 k_238 t141 M_236 none) (fun k => k .undef M_236 none) fun t141_239 M_240 b_241 =>
 guardK t139 false (fun k_242 => load1 M_240 t141_239 fun t142 =>
 k_242 t142 M_240 none) (fun k => k .undef M_240 none) fun t142_243 M_244 b_245 =>
 guardK t139 false (fun k_246 => k_246 (nthD xs 0) M_244 none) (fun k => k .undef M_244 none) fun t143 M_247 b_248 =>
 guardK t139 false (fun k_249 => idxB t143 (N .i64 1) fun t144 =>
 k_249 t144 M_247 none) (fun k => k .undef M_247 none) fun t144_250 M_251 b_252 =>
 guardK t139 false (fun k_253 => intW .lss t142_243 t144_250 fun t145 =>
 k_253 t145 M_251 none) (fun k => k .undef M_251 none) fun t145_254 M_255 b_256 =>
 pickW t139 (Bo true) t145_254 fun t146 =>
 guardK t146 false (fun k_257 => k_257 (nthD xs 0) M_255 none) (fun k => k .undef M_255 none) fun t148 M_258 b_259 =>
 guardK t146 false (fun k_260 => idxB t148 (N .i64 2) fun t149 =>
 k_260 t149 M_258 none) (fun k => k .undef M_258 none) fun t149_261 M_262 b_263 =>
 guardK t146 false (fun k_264 => intW .lss t149_261 (N .u8 128) fun t150 =>
 k_264 t150 M_262 none) (fun k => k .undef M_262 none) fun t150_265 M_266 b_267 =>
 pickW t146 (Bo true) t150_265 fun t151 =>
 guardK t151 false (fun k_268 => k_268 (nthD xs 0) M_266 none) (fun k => k .undef M_266 none) fun t153 M_269 b_270 =>
 guardK t151 false (fun k_271 => idxB t153 (N .i64 2) fun t154 =>
 k_271 t154 M_269 none) (fun k => k .undef M_269 none) fun t154_272 M_273 b_274 =>
 guardK t151 false (fun k_275 => intW .lss (N .u8 191) t154_272 fun t155 =>
 k_275 t155 M_273 none) (fun k => k .undef M_273 none) fun t155_276 M_277 b_278 =>
 pickW t151 (Bo true) t155_276 fun t156 =>
 guardK t156 false (fun k_279 => k_279 (nthD xs 0) M_277 none) (fun k => k .undef M_277 none) fun t158 M_280 b_281 =>
 guardK t156 false (fun k_282 => idxB t158 (N .i64 3) fun t159 =>
 k_282 t159 M_280 none) (fun k => k .undef M_280 none) fun t159_283 M_284 b_285 =>
 guardK t156 false (fun k_286 => intW .lss t159_283 (N .u8 128) fun t160 =>
 k_286 t160 M_284 none) (fun k => k .undef M_284 none) fun t160_287 M_288 b_289 =>
 pickW t156 (Bo true) t160_287 fun t161 =>
 guardK t161 false (fun k_290 => k_290 (nthD xs 0) M_288 none) (fun k => k .undef M_288 none) fun t163 M_291 b_292 =>
 guardK t161 false (fun k_293 => idxB t163 (N .i64 3) fun t164 =>
 k_293 t164 M_291 none) (fun k => k .undef M_291 none) fun t164_294 M_295 b_296 =>
 guardK t161 false (fun k_297 => intW .lss (N .u8 191) t164_294 fun t165 =>
 k_297 t165 M_295 none) (fun k => k .undef M_295 none) fun t165_298 M_299 b_300 =>
 pickW t161 (Bo true) t165_298 fun t166 =>
 condW t166 (
 Q (Bo false) M_299) (
 getW (subStr (nthD xs 0) (some (N .i64 4)) none) fun t168 =>
 next [t168] M_299)) (
 Q (Bo false) M_120))))) (
 Q (Bo true) M)) [a0] M0

/-- rolodex/vline.word -/
def W_rolodex_vline_word (c_rolodex_vline_small : CallT) (c_strings_TrimLeft : CallT) (a0 : AV) (M0 : RM) (Q : PostV) : Prop :=
 lenStr a0 fun t6 =>
 c_rolodex_vline_small [a0] M0 fun t8 M =>
 c_strings_TrimLeft [t8, (St [97, 98, 99, 100, 101, 102, 103, 104, 105, 106, 107, 108, 109, 110, 111, 112, 113, 114, 115, 116, 117, 118, 119, 120, 121, 122, 48, 49, 50, 51, 52, 53, 54, 55, 56, 57, 45])] M fun t9 M_0 =>
 lenStr t9 fun t10 =>
 intW .sub t6 t10 fun t11 =>
 getW (subStr a0 none (some t11)) fun t14 =>
 getW (subStr a0 (some t11) none) fun t18 =>
 c_rolodex_vline_small [t14] M_0 fun t15 M_1 =>
 getW (subStr a0 (some t11) none) fun t18_2 =>
 (t18_2 = t18 ∧ Q (.tup [t15, t18]) M_1)

/-- strings.HasPrefix -/
def W_strings_HasPrefix (c_internal_stringslite_HasPrefix : CallT) (a0 a1 : AV) (M0 : RM) (Q : PostV) : Prop :=
 c_internal_stringslite_HasPrefix [a0, a1] M0 fun t7 M =>
 Q t7 M

/-- rolodex/vline.params -/
def W_rolodex_vline_params (c_strings_HasPrefix : CallT) (T_vline_Param : Nat) (c_rolodex_vline_word : CallT) (c_rolodex_vline_goodName : CallT) (c_rolodex_vline_value : CallT) (T_string : Nat) (a0 : AV) (M0 : RM) (Q : PostV) : Prop :=
 loopW (fun next xs M => -- [0, 2]
 c_strings_HasPrefix [(nthD xs 0), (St [59])] M fun t11 M_0 =>
 condW t11 (
 newW (.row [(St []), (.sc (.slice none 0 0))] false T_vline_Param 0) (fun b => .ptr b 0) M_0 fun t5 M_1 =>
 getW (subStr (nthD xs 0) (some (N .i64 1)) none) fun t14 =>
 c_rolodex_vline_word [t14] M_1 fun t15 M_2 =>
 extW t15 0 fun t16 =>
 extW t15 1 fun t17 =>
 fldW t5 0 fun t18 =>
 storeW M_2 t18 t16 1 fun M_3 =>
 fldW t5 0 fun t19 =>
 load1 M_3 t19 fun t20 =>
 c_rolodex_vline_goodName [t20] M_3 fun t21 M_4 =>
 notW t21 fun t22 =>
 guardM t22 false (fun k => k t17 M_4) (fun k => k .undef M_4) fun t24 M_5 =>
 guardM t22 false (fun k_6 => c_strings_HasPrefix [t24, (St [61])] M_5 fun t25 M_7 =>
 k_6 t25 M_7) (fun k => k .undef M_5) fun t25_8 M_9 =>
 guardM t22 false (fun k_10 => notW t25_8 fun t26 =>
 k_10 t26 M_9) (fun k => k .undef M_9) fun t26_11 M_12 =>
 pickW t22 (Bo true) t26_11 fun t27 =>
 condW t27 (
 Q (.tup [(.sc (.slice none 0 0)), (St []), (Bo false)]) M_12) (
 loopW (fun next_13 xs_14 M_15 => -- [0, 2, 6]
 condW (nthD xs_14 2) (
 getW (subStr (nthD xs_14 0) (some (N .i64 1)) none) fun t33 =>
 c_rolodex_vline_value [t33] M_15 fun t34 M_16 =>
 extW t34 0 fun t35 =>
 extW t34 1 fun t36 =>
 extW t34 2 fun t37 =>
 notW t37 fun t39 =>
 condW t39 (
 Q (.tup [(.sc (.slice none 0 0)), (St []), (Bo false)]) M_16) (
 fldW t5 1 fun t40 =>
 load1 M_16 t40 fun t41 =>
 rowsW T_string 1 [(St [])] [(0, 1, t35)] fun r f =>
 newW r f M_16 fun t43 M_17 =>
 appW T_string 1 16 [(St [])] false t41 t43 M_17 fun t44 M_18 =>
 fldW t5 1 fun t45 =>
 storeW M_18 t45 t44 1 fun M_19 =>
 c_strings_HasPrefix [t36, (St [44])] M_19 fun t30 M_20 =>
 next_13 [t36, (nthD xs_14 1), t30] M_20)) (
 loadN M_15 t5 2 fun t48 =>
 rowsW T_vline_Param 1 [(St []), (.sc (.slice none 0 0))] [(0, 2, t48)] fun r_21 f_22 =>
 newW r_21 f_22 M_15 fun t49 M_23 =>
 appW T_vline_Param 2 40 [(St []), (.sc (.slice none 0 0))] false (nthD xs_14 1) t49 M_23 fun t50 M_24 =>
 next [(nthD xs_14 0), t50] M_24)) [t17, (nthD xs 1), (Bo true)] M_12)) (
 Q (.tup [(nthD xs 1), (nthD xs 0), (Bo true)]) M_0)) [a0, (.sc (.slice none 0 0))] M0

/-- rolodex/rolodexref23.word -/
def W_rolodex_rolodexref23_word (a0 : AV) (M0 : RM) (Q : PostV) : Prop :=
 loopW (fun next xs M => -- [3]
 lenStr a0 fun t6 =>
 intW .lss (nthD xs 0) t6 fun t7 =>
 guardM t7 true (fun k => k a0 M) (fun k => k .undef M) fun t9 M_0 =>
 guardM t7 true (fun k_1 => k_1 (nthD xs 0) M_0) (fun k => k .undef M_0) fun t10 M_2 =>
 guardM t7 true (fun k_3 => idxB t9 t10 fun t11 =>
 k_3 t11 M_2) (fun k => k .undef M_2) fun t11_4 M_5 =>
 guardM t7 true (fun k_6 => intW .geq t11_4 (N .u8 97) fun t12 =>
 k_6 t12 M_5) (fun k => k .undef M_5) fun t12_7 M_8 =>
 guardM t7 true (fun k_9 => k_9 t12_7 M_8) (fun k => k .undef M_8) fun t13 M_10 =>
 guardM t13 true (fun k_11 => k_11 a0 M_10) (fun k => k .undef M_10) fun t14 M_12 =>
 guardM t13 true (fun k_13 => k_13 (nthD xs 0) M_12) (fun k => k .undef M_12) fun t15 M_14 =>
 guardM t13 true (fun k_15 => idxB t14 t15 fun t16 =>
 k_15 t16 M_14) (fun k => k .undef M_14) fun t16_16 M_17 =>
 guardM t13 true (fun k_18 => intW .leq t16_16 (N .u8 122) fun t17 =>
 k_18 t17 M_17) (fun k => k .undef M_17) fun t17_19 M_20 =>
 guardM t7 true (fun k_21 => pickW t13 t17_19 (Bo false) fun t18 =>
 k_21 t18 M_20) (fun k => k .undef M_20) fun t18_22 M_23 =>
 guardM t7 true (fun k_24 => k_24 t18_22 M_23) (fun k => k .undef M_23) fun t19 M_25 =>
 guardM t19 false (fun k_26 => k_26 a0 M_25) (fun k => k .undef M_25) fun t20 M_27 =>
 guardM t19 false (fun k_28 => k_28 (nthD xs 0) M_27) (fun k => k .undef M_27) fun t21 M_29 =>
 guardM t19 false (fun k_30 => idxB t20 t21 fun t22 =>
 k_30 t22 M_29) (fun k => k .undef M_29) fun t22_31 M_32 =>
 guardM t19 false (fun k_33 => intW .geq t22_31 (N .u8 65) fun t23 =>
 k_33 t23 M_32) (fun k => k .undef M_32) fun t23_34 M_35 =>
 guardM t19 false (fun k_36 => k_36 t23_34 M_35) (fun k => k .undef M_35) fun t24 M_37 =>
 guardM t24 true (fun k_38 => k_38 a0 M_37) (fun k => k .undef M_37) fun t25 M_39 =>
 guardM t24 true (fun k_40 => k_40 (nthD xs 0) M_39) (fun k => k .undef M_39) fun t26 M_41 =>
 guardM t24 true (fun k_42 => idxB t25 t26 fun t27 =>
 k_42 t27 M_41) (fun k => k .undef M_41) fun t27_43 M_44 =>
 guardM t24 true (fun k_45 => intW .leq t27_43 (N .u8 90) fun t28 =>
 k_45 t28 M_44) (fun k => k .undef M_44) fun t28_46 M_47 =>
 guardM t19 false (fun k_48 => pickW t24 t28_46 (Bo false) fun t29 =>
 k_48 t29 M_47) (fun k => k .undef M_47) fun t29_49 M_50 =>
 guardM t7 true (fun k_51 => pickW t19 (Bo true) t29_49 fun t30 =>
 k_51 t30 M_50) (fun k => k .undef M_50) fun t30_52 M_53 =>
 guardM t7 true (fun k_54 => k_54 t30_52 M_53) (fun k => k .undef M_53) fun t31 M_55 =>
 guardM t31 false (fun k_56 => k_56 a0 M_55) (fun k => k .undef M_55) fun t32 M_57 =>
 guardM t31 false (fun k_58 => k_58 (nthD xs 0) M_57) (fun k => k .undef M_57) fun t33 M_59 =>
 guardM t31 false (fun k_60 => idxB t32 t33 fun t34 =>
 k_60 t34 M_59) (fun k => k .undef M_59) fun t34_61 M_62 =>
 guardM t31 false (fun k_63 => intW .geq t34_61 (N .u8 48) fun t35 =>
 k_63 t35 M_62) (fun k => k .undef M_62) fun t35_64 M_65 =>
 guardM t31 false (fun k_66 => k_66 t35_64 M_65) (fun k => k .undef M_65) fun t36 M_67 =>
 guardM t36 true (fun k_68 => k_68 a0 M_67) (fun k => k .undef M_67) fun t37 M_69 =>
 guardM t36 true (fun k_70 => k_70 (nthD xs 0) M_69) (fun k => k .undef M_69) fun t38 M_71 =>
 guardM t36 true (fun k_72 => idxB t37 t38 fun t39 =>
 k_72 t39 M_71) (fun k => k .undef M_71) fun t39_73 M_74 =>
 guardM t36 true (fun k_75 => intW .leq t39_73 (N .u8 57) fun t40 =>
 k_75 t40 M_74) (fun k => k .undef M_74) fun t40_76 M_77 =>
 guardM t31 false (fun k_78 => pickW t36 t40_76 (Bo false) fun t41 =>
 k_78 t41 M_77) (fun k => k .undef M_77) fun t41_79 M_80 =>
 guardM t7 true (fun k_81 => pickW t31 (Bo true) t41_79 fun t42 =>
 k_81 t42 M_80) (fun k => k .undef M_80) fun t42_82 M_83 =>
 guardM t7 true (fun k_84 => k_84 t42_82 M_83) (fun k => k .undef M_83) fun t43 M_85 =>
 guardM t43 false (fun k_86 => k_86 a0 M_85) (fun k => k .undef M_85) fun t44 M_87 =>
 guardM t43 false (fun k_88 => k_88 (nthD xs 0) M_87) (fun k => k .undef M_87) fun t45 M_89 =>
 guardM t43 false (fun k_90 => idxB t44 t45 fun t46 =>
 k_90 t46 M_89) (fun k => k .undef M_89) fun t46_91 M_92 =>
 guardM t43 false (fun k_93 => intW .eql t46_91 (N .u8 45) fun t47 =>
 k_93 t47 M_92) (fun k => k .undef M_92) fun t47_94 M_95 =>
 guardM t7 true (fun k_96 => pickW t43 (Bo true) t47_94 fun t48 =>
 k_96 t48 M_95) (fun k => k .undef M_95) fun t48_97 M_98 =>
 pickW t7 t48_97 (Bo false) fun t49 =>
 condW t49 (
 intW .add (nthD xs 0) (N .i64 1) fun t51 =>
 next [t51] M_98) (
 Q (nthD xs 0) M_98)) [(N .i64 0)] M0

/-- rolodex/rolodexref23.Low -/
def W_rolodex_rolodexref23_Low (T_uint8 : Nat) (a0 : AV) (M0 : RM) (Q : PostV) : Prop :=
 bytesW T_uint8 a0 fun r f =>
 newW r f M0 fun t6 M =>
 loopW (fun next xs M_0 => -- [4]
 lenW t6 fun t9 =>
 intW .lss (nthD xs 0) t9 fun t10 =>
 condW t10 (
 joinW (fun J =>
 idxS t6 (nthD xs 0) 1 fun t15 =>
 load1 M_0 t15 fun t16 =>
 intW .geq t16 (N .u8 65) fun t17 =>
 guardM t17 true (fun k => k t6 M_0) (fun k => k .undef M_0) fun t19 M_1 =>
 guardM t17 true (fun k_2 => k_2 (nthD xs 0) M_1) (fun k => k .undef M_1) fun t20 M_3 =>
 guardM t17 true (fun k_4 => idxS t19 t20 1 fun t21 =>
 k_4 t21 M_3) (fun k => k .undef M_3) fun t21_5 M_6 =>
 guardM t17 true (fun k_7 => load1 M_6 t21_5 fun t22 =>
 k_7 t22 M_6) (fun k => k .undef M_6) fun t22_8 M_9 =>
 guardM t17 true (fun k_10 => intW .leq t22_8 (N .u8 90) fun t23 =>
 k_10 t23 M_9) (fun k => k .undef M_9) fun t23_11 M_12 =>
 pickW t17 t23_11 (Bo false) fun t24 =>
 condW t24 (
 idxS t6 (nthD xs 0) 1 fun t29 =>
 load1 M_12 t29 fun t30 =>
 intW .add t30 (N .u8 32) fun t31 =>
 idxS t6 (nthD xs 0) 1 fun t32 =>
 storeW M_12 t32 t31 1 fun M_13 =>
 J [] M_13) (
 J [] M_12)) (fun xs_14 M_15 => -- []
 intW .add (nthD xs 0) (N .i64 1) fun t12 =>
 next [t12] M_15)) (
 strOfW M_0 t6 fun t34 =>
 Q t34 M_0)) [(N .i64 0)] M

/-- rolodex/rolodexref23.values -/
def W_rolodex_rolodexref23_values (c_rolodex_rolodexref23_plain : CallT) (T_string : Nat) (a0 : AV) (M0 : RM) (Q : PostV) : Prop :=
 loopW (fun next xs M => -- [0, 5]
 joinW (fun J =>
 lenStr (nthD xs 0) fun t9 =>
 intW .gtr t9 (N .i64 0) fun t10 =>
 guardM t10 true (fun k => k (nthD xs 0) M) (fun k => k .undef M) fun t12 M_0 =>
 guardM t10 true (fun k_1 => idxB t12 (N .i64 0) fun t13 =>
 k_1 t13 M_0) (fun k => k .undef M_0) fun t13_2 M_3 =>
 guardM t10 true (fun k_4 => intW .eql t13_2 (N .u8 34) fun t14 =>
 k_4 t14 M_3) (fun k => k .undef M_3) fun t14_5 M_6 =>
 pickW t10 t14_5 (Bo false) fun t15 =>
 condW t15 (
 loopW (fun next_7 xs_8 M_9 => -- [6]
 lenStr (nthD xs 0) fun t18 =>
 intW .lss (nthD xs_8 0) t18 fun t19 =>
 guardM t19 true (fun k_10 => k_10 (nthD xs 0) M_9) (fun k => k .undef M_9) fun t21 M_11 =>
 guardM t19 true (fun k_12 => k_12 (nthD xs_8 0) M_11) (fun k => k .undef M_11) fun t22 M_13 =>
 guardM t19 true (fun k_14 => idxB t21 t22 fun t23 =>
 k_14 t23 M_13) (fun k => k .undef M_13) fun t23_15 M_16 =>
 guardM t19 true (fun k_17 => intW .neq t23_15 (N .u8 34) fun t24 =>
 k_17 t24 M_16) (fun k => k .undef M_16) fun t24_18 M_19 =>
 pickW t19 t24_18 (Bo false) fun t25 =>
 guardM t25 true (fun k_20 => k_20 (nthD xs 0) M_19) (fun k => k .undef M_19) fun t27 M_21 =>
 guardM t25 true (fun k_22 => k_22 (nthD xs_8 0) M_21) (fun k => k .undef M_21) fun t28 M_23 =>
 guardM t25 true (fun k_24 => idxB t27 t28 fun t29 =>
 k_24 t29 M_23) (fun k => k .undef M_23) fun t29_25 M_26 =>
 guardM t25 true (fun k_27 => c_rolodex_rolodexref23_plain [t29_25] M_26 fun t30 M_28 =>
 k_27 t30 M_28) (fun k => k .undef M_26) fun t30_29 M_30 =>
 pickW t25 t30_29 (Bo false) fun t31 =>
 condW t31 (
 intW .add (nthD xs_8 0) (N .i64 1) fun t33 =>
 next_7 [t33] M_30) (
 lenStr (nthD xs 0) fun t36 =>
 intW .eql (nthD xs_8 0) t36 fun t37 =>
 guardM t37 false (fun k_31 => k_31 (nthD xs 0) M_30) (fun k => k .undef M_30) fun t39 M_32 =>
 guardM t37 false (fun k_33 => k_33 (nthD xs_8 0) M_32) (fun k => k .undef M_32) fun t40 M_34 =>
 guardM t37 false (fun k_35 => idxB t39 t40 fun t41 =>
 k_35 t41 M_34) (fun k => k .undef M_34) fun t41_36 M_37 =>
 guardM t37 false (fun k_38 => intW .neq t41_36 (N .u8 34) fun t42 =>
 k_38 t42 M_37) (fun k => k .undef M_37) fun t42_39 M_40 =>
 pickW t37 (Bo true) t42_39 fun t43 =>
 condW t43 (
 Q (.tup [(.sc (.slice none 0 0)), (St []), (Bo false)]) M_40) (
 getW (subStr (nthD xs 0) (some (N .i64 1)) (some (nthD xs_8 0))) fun t46 =>
 intW .add (nthD xs_8 0) (N .i64 1) fun t48 =>
 J [t48, t46] M_40))) [(N .i64 1)] M_6) (
 loopW (fun next_41 xs_42 M_43 => -- [6]
 lenStr (nthD xs 0) fun t51 =>
 intW .lss (nthD xs_42 0) t51 fun t52 =>
 guardM t52 true (fun k_44 => k_44 (nthD xs 0) M_43) (fun k => k .undef M_43) fun t54 M_45 =>
 guardM t52 true (fun k_46 => k_46 (nthD xs_42 0) M_45) (fun k => k .undef M_45) fun t55 M_47 =>
 guardM t52 true (fun k_48 => idxB t54 t55 fun t56 =>
 k_48 t56 M_47) (fun k => k .undef M_47) fun t56_49 M_50 =>
 guardM t52 true (fun k_51 => c_rolodex_rolodexref23_plain [t56_49] M_50 fun t57 M_52 =>
 k_51 t57 M_52) (fun k => k .undef M_50) fun t57_53 M_54 =>
 pickW t52 t57_53 (Bo false) fun t58 =>
 guardM t58 true (fun k_55 => k_55 (nthD xs 0) M_54) (fun k => k .undef M_54) fun t60 M_56 =>
 guardM t58 true (fun k_57 => k_57 (nthD xs_42 0) M_56) (fun k => k .undef M_56) fun t61 M_58 =>
 guardM t58 true (fun k_59 => idxB t60 t61 fun t62 =>
 k_59 t62 M_58) (fun k => k .undef M_58) fun t62_60 M_61 =>
 guardM t58 true (fun k_62 => intW .neq t62_60 (N .u8 34) fun t63 =>
 k_62 t63 M_61) (fun k => k .undef M_61) fun t63_63 M_64 =>
 pickW t58 t63_63 (Bo false) fun t64 =>
 guardM t64 true (fun k_65 => k_65 (nthD xs 0) M_64) (fun k => k .undef M_64) fun t66 M_66 =>
 guardM t64 true (fun k_67 => k_67 (nthD xs_42 0) M_66) (fun k => k .undef M_66) fun t67 M_68 =>
 guardM t64 true (fun k_69 => idxB t66 t67 fun t68 =>
 k_69 t68 M_68) (fun k => k .undef M_68) fun t68_70 M_71 =>
 guardM t64 true (fun k_72 => intW .neq t68_70 (N .u8 44) fun t69 =>
 k_72 t69 M_71) (fun k => k .undef M_71) fun t69_73 M_74 =>
 pickW t64 t69_73 (Bo false) fun t70 =>
 guardM t70 true (fun k_75 => k_75 (nthD xs 0) M_74) (fun k => k .undef M_74) fun t72 M_76 =>
 guardM t70 true (fun k_77 => k_77 (nthD xs_42 0) M_76) (fun k => k .undef M_76) fun t73 M_78 =>
 guardM t70 true (fun k_79 => idxB t72 t73 fun t74 =>
 k_79 t74 M_78) (fun k => k .undef M_78) fun t74_80 M_81 =>
 guardM t70 true (fun k_82 => intW .neq t74_80 (N .u8 59) fun t75 =>
 k_82 t75 M_81) (fun k => k .undef M_81) fun t75_83 M_84 =>
 pickW t70 t75_83 (Bo false) fun t76 =>
 guardM t76 true (fun k_85 => k_85 (nthD xs 0) M_84) (fun k => k .undef M_84) fun t78 M_86 =>
 guardM t76 true (fun k_87 => k_87 (nthD xs_42 0) M_86) (fun k => k .undef M_86) fun t79 M_88 =>
 guardM t76 true (fun k_89 => idxB t78 t79 fun t80 =>
 k_89 t80 M_88) (fun k => k .undef M_88) fun t80_90 M_91 =>
 guardM t76 true (fun k_92 => intW .neq t80_90 (N .u8 58) fun t81 =>
 k_92 t81 M_91) (fun k => k .undef M_91) fun t81_93 M_94 =>
 pickW t76 t81_93 (Bo false) fun t82 =>
 condW t82 (
 intW .add (nthD xs_42 0) (N .i64 1) fun t84 =>
 next_41 [t84] M_94) (
 getW (subStr (nthD xs 0) none (some (nthD xs_42 0))) fun t87 =>
 J [(nthD xs_42 0), t87] M_94)) [(N .i64 0)] M_6)) (fun xs_95 M_96 => -- [6, 7]
 rowsW T_string 1 [(St [])] [(0, 1, (nthD xs_95 1))] fun r f =>
 newW r f M_96 fun t90 M_97 =>
 appW T_string 1 16 [(St [])] false (nthD xs 1) t90 M_97 fun t91 M_98 =>
 getW (subStr (nthD xs 0) (some (nthD xs_95 0)) none) fun t94 =>
 lenStr t94 fun t96 =>
 intW .eql t96 (N .i64 0) fun t97 =>
 guardM t97 false (fun k_99 => k_99 t94 M_98) (fun k => k .undef M_98) fun t99 M_100 =>
 guardM t97 false (fun k_101 => idxB t99 (N .i64 0) fun t100 =>
 k_101 t100 M_100) (fun k => k .undef M_100) fun t100_102 M_103 =>
 guardM t97 false (fun k_104 => intW .neq t100_102 (N .u8 44) fun t101 =>
 k_104 t101 M_103) (fun k => k .undef M_103) fun t101_105 M_106 =>
 pickW t97 (Bo true) t101_105 fun t102 =>
 condW t102 (
 Q (.tup [t91, t94, (Bo true)]) M_106) (
 getW (subStr t94 (some (N .i64 1)) none) fun t106 =>
 next [t106, t91] M_106))) [a0, (.sc (.slice none 0 0))] M0

/-- rolodex/rolodexref23.plain -/
def W_rolodex_rolodexref23_plain (a0 : AV) (M0 : RM) (Q : PostV) : Prop :=
 intW .eql a0 (N .u8 9) fun t4 =>
 guardM t4 false (fun k => k a0 M0) (fun k => k .undef M0) fun t6 M =>
 guardM t4 false (fun k_0 => intW .geq t6 (N .u8 32) fun t7 =>
 k_0 t7 M) (fun k => k .undef M) fun t7_1 M_2 =>
 guardM t4 false (fun k_3 => k_3 t7_1 M_2) (fun k => k .undef M_2) fun t8 M_4 =>
 guardM t8 true (fun k_5 => k_5 a0 M_4) (fun k => k .undef M_4) fun t9 M_6 =>
 guardM t8 true (fun k_7 => intW .neq t9 (N .u8 127) fun t10 =>
 k_7 t10 M_6) (fun k => k .undef M_6) fun t10_8 M_9 =>
 guardM t4 false (fun k_10 => pickW t8 t10_8 (Bo false) fun t11 =>
 k_10 t11 M_9) (fun k => k .undef M_9) fun t11_11 M_12 =>
 pickW t4 (Bo true) t11_11 fun t12 =>
 Q t12 M_12

/-- internal/stringslite.Cut -/
def W_internal_stringslite_Cut (c_internal_stringslite_Index : CallT) (a0 a1 : AV) (M0 : RM) (Q : PostV) : Prop :=
 c_internal_stringslite_Index [a0, a1] M0 fun t10 M =>
 intW .geq t10 (N .i64 0) fun t12 =>
 condW t12 (
 getW (subStr a0 none (some t10)) fun t15 =>
 lenStr a1 fun t19 =>
 intW .add t10 t19 fun t20 =>
 getW (subStr a0 (some t20) none) fun t21 =>
 Q (.tup [t15, t21, (Bo true)]) M) (
 Q (.tup [a0, (St []), (Bo false)]) M)

/-- internal/stringslite.TrimSuffix -/
def W_internal_stringslite_TrimSuffix (c_internal_stringslite_HasSuffix : CallT) (a0 a1 : AV) (M0 : RM) (Q : PostV) : Prop :=
 c_internal_stringslite_HasSuffix [a0, a1] M0 fun t7 M =>
 condW t7 (
 lenStr a0 fun t10 =>
 lenStr a1 fun t12 =>
 intW .sub t10 t12 fun t13 =>
 getW (subStr a0 none (some t13)) fun t14 =>
 Q t14 M) (
 Q a0 M)

/-- rolodex/rolodexref23.has -/
def W_rolodex_rolodexref23_has (a0 a1 : AV) (M0 : RM) (Q : PostV) : Prop :=
 loopW (fun next xs M => -- [5]
 lenStr a0 fun t9 =>
 intW .lss (nthD xs 0) t9 fun t10 =>
 condW t10 (
 loopW (fun next_0 xs_1 M_2 => -- [6]
 lenStr a1 fun t15 =>
 intW .lss (nthD xs_1 0) t15 fun t16 =>
 condW t16 (
 idxB a0 (nthD xs 0) fun t21 =>
 idxB a1 (nthD xs_1 0) fun t24 =>
 intW .eql t21 t24 fun t25 =>
 condW t25 (
 Q (Bo true) M_2) (
 intW .add (nthD xs_1 0) (N .i64 1) fun t18 =>
 next_0 [t18] M_2)) (
 intW .add (nthD xs 0) (N .i64 1) fun t12 =>
 next [t12] M_2)) [(N .i64 0)] M) (
 Q (Bo false) M)) [(N .i64 0)] M0

/-- unicode/utf8.DecodeRuneInString -/
def W_unicode_utf8_DecodeRuneInString (c_unicode_utf8_decodeRuneInStringSlow : CallT) (a0 : AV) (M0 : RM) (Q : PostV) : Prop :=
 strW .neq a0 (St []) fun t5 =>
 guardM t5 true (fun k => k a0 M0) (fun k => k .undef M0) fun t7 M =>
 guardM t5 true (fun k_0 => idxB t7 (N .i64 0) fun t8 =>
 k_0 t8 M) (fun k => k .undef M) fun t8_1 M_2 =>
 guardM t5 true (fun k_3 => intW .lss t8_1 (N .u8 128) fun t9 =>
 k_3 t9 M_2) (fun k => k .undef M_2) fun t9_4 M_5 =>
 pickW t5 t9_4 (Bo false) fun t10 =>
 condW t10 (
 idxB a0 (N .i64 0) fun t12 =>
 cvtW .i32 t12 fun t13 =>
 Q (.tup [t13, (N .i64 1)]) M_5) (
 c_unicode_utf8_decodeRuneInStringSlow [a0] M_5 fun t16 M_6 =>
 extW t16 0 fun t17 =>
 extW t16 1 fun t18 =>
 Q (.tup [t17, t18]) M_6)

/-- strings.Trim -/
def W_strings_Trim (c_strings_trimRightByte : CallT) (c_strings_trimLeftByte : CallT) (c_strings_makeASCIISet : CallT) (T_strings_asciiSet : Nat) (c_strings_trimRightASCII : CallT) (c_strings_trimLeftASCII : CallT) (c_strings_trimRightUnicode : CallT) (c_strings_trimLeftUnicode : CallT) (a0 a1 : AV) (M0 : RM) (Q : PostV) : Prop :=
 strW .eql a0 (St []) fun t8 =>
 guardM t8 false (fun k => k a1 M0) (fun k => k .undef M0) fun t10 M =>
 guardM t8 false (fun k_0 => strW .eql t10 (St []) fun t11 =>
 k_0 t11 M) (fun k => k .undef M) fun t11_1 M_2 =>
 pickW t8 (Bo true) t11_1 fun t12 =>
 condW t12 (
 Q a0 M_2) (
 lenStr a1 fun t15 =>
 intW .eql t15 (N .i64 1) fun t16 =>
 guardM t16 true (fun k_3 => k_3 a1 M_2) (fun k => k .undef M_2) fun t18 M_4 =>
 guardM t16 true (fun k_5 => idxB t18 (N .i64 0) fun t19 =>
 k_5 t19 M_4) (fun k => k .undef M_4) fun t19_6 M_7 =>
 guardM t16 true (fun k_8 => intW .lss t19_6 (N .u8 128) fun t20 =>
 k_8 t20 M_7) (fun k => k .undef M_7) fun t20_9 M_10 =>
 pickW t16 t20_9 (Bo false) fun t21 =>
 condW t21 (
 idxB a1 (N .i64 0) fun t24 =>
 idxB a1 (N .i64 0) fun t27 =>
 c_strings_trimRightByte [a0, t24] M_10 fun t25 M_11 =>
 c_strings_trimLeftByte [t25, t27] M_11 fun t28 M_12 =>
 Q t28 M_12) (
 c_strings_makeASCIISet [a1] M_10 fun t31 M_13 =>
 extW t31 0 fun t32 =>
 extW t31 1 fun t33 =>
 newW (.row [(Bo false), (Bo false), (Bo false), (Bo false), (Bo false), (Bo false), (Bo false), (Bo false), (Bo false), (Bo false), (Bo false), (Bo false), (Bo false), (Bo false), (Bo false), (Bo false), (Bo false), (Bo false), (Bo false), (Bo false), (Bo false), (Bo false), (Bo false), (Bo false), (Bo false), (Bo false), (Bo false), (Bo false), (Bo false), (Bo false), (Bo false), (Bo false), (Bo false), (Bo false), (Bo false), (Bo false), (Bo false), (Bo false), (Bo false), (Bo false), (Bo false), (Bo false), (Bo false), (Bo false), (Bo false), (Bo false), (Bo false), (Bo false), (Bo false), (Bo false), (Bo false), (Bo false), (Bo false), (Bo false), (Bo false), (Bo false), (Bo false), (Bo false), (Bo false), (Bo false), (Bo false), (Bo false), (Bo false), (Bo false), (Bo false), (Bo false), (Bo false), (Bo false), (Bo false), (Bo false), (Bo false), (Bo false), (Bo false), (Bo false), (Bo false), (Bo false), (Bo false), (Bo false), (Bo false), (Bo false), (Bo false), (Bo false), (Bo false), (Bo false), (Bo false), (Bo false), (Bo false), (Bo false), (Bo false), (Bo false), (Bo false), (Bo false), (Bo false), (Bo false), (Bo false), (Bo false), (Bo false), (Bo false), (Bo false), (Bo false), (Bo false), (Bo false), (Bo false), (Bo false), (Bo false), (Bo false), (Bo false), (Bo false), (Bo false), (Bo false), (Bo false), (Bo false), (Bo false), (Bo false), (Bo false), (Bo false), (Bo false), (Bo false), (Bo false), (Bo false), (Bo false), (Bo false), (Bo false), (Bo false), (Bo false), (Bo false), (Bo false), (Bo false), (Bo false), (Bo false), (Bo false), (Bo false), (Bo false), (Bo false), (Bo false), (Bo false), (Bo false), (Bo false), (Bo false), (Bo false), (Bo false), (Bo false), (Bo false), (Bo false), (Bo false), (Bo false), (Bo false), (Bo false), (Bo false), (Bo false), (Bo false), (Bo false), (Bo false), (Bo false), (Bo false), (Bo false), (Bo false), (Bo false), (Bo false), (Bo false), (Bo false), (Bo false), (Bo false), (Bo false), (Bo false), (Bo false), (Bo false), (Bo false), (Bo false), (Bo false), (Bo false), (Bo false), (Bo false), (Bo false), (Bo false), (Bo false), (Bo false), (Bo false), (Bo false), (Bo false), (Bo false), (Bo false), (Bo false), (Bo false), (Bo false), (Bo false), (Bo false), (Bo false), (Bo false), (Bo false), (Bo false), (Bo false), (Bo false), (Bo false), (Bo false), (Bo false), (Bo false), (Bo false), (Bo false), (Bo false), (Bo false), (Bo false), (Bo false), (Bo false), (Bo false), (Bo false), (Bo false), (Bo false), (Bo false), (Bo false), (Bo false), (Bo false), (Bo false), (Bo false), (Bo false), (Bo false), (Bo false), (Bo false), (Bo false), (Bo false), (Bo false), (Bo false), (Bo false), (Bo false), (Bo false), (Bo false), (Bo false), (Bo false), (Bo false), (Bo false), (Bo false), (Bo false), (Bo false), (Bo false), (Bo false), (Bo false), (Bo false), (Bo false), (Bo false), (Bo false), (Bo false), (Bo false), (Bo false), (Bo false), (Bo false), (Bo false), (Bo false), (Bo false), (Bo false), (Bo false), (Bo false), (Bo false), (Bo false), (Bo false), (Bo false), (Bo false)] false T_strings_asciiSet 0) (fun b => .ptr b 0) M_13 fun t5 M_14 =>
 storeW M_14 t5 t32 256 fun M_15 =>
 condW t33 (
 c_strings_trimRightASCII [a0, t5] M_15 fun t36 M_16 =>
 c_strings_trimLeftASCII [t36, t5] M_16 fun t37 M_17 =>
 Q t37 M_17) (
 c_strings_trimRightUnicode [a0, a1] M_15 fun t40 M_18 =>
 c_strings_trimLeftUnicode [t40, a1] M_18 fun t42 M_19 =>
 Q t42 M_19)))

/-- rolodex/vline.plain -/
def W_rolodex_vline_plain (a0 : AV) (M0 : RM) (Q : PostV) : Prop :=
 intW .geq a0 (N .u8 32) fun t4 =>
 guardM t4 true (fun k => k a0 M0) (fun k => k .undef M0) fun t6 M =>
 guardM t4 true (fun k_0 => intW .neq t6 (N .u8 127) fun t7 =>
 k_0 t7 M) (fun k => k .undef M) fun t7_1 M_2 =>
 pickW t4 t7_1 (Bo false) fun t8 =>
 guardM t8 false (fun k_3 => k_3 a0 M_2) (fun k => k .undef M_2) fun t10 M_4 =>
 guardM t8 false (fun k_5 => intW .eql t10 (N .u8 9) fun t11 =>
 k_5 t11 M_4) (fun k => k .undef M_4) fun t11_6 M_7 =>
 pickW t8 (Bo true) t11_6 fun t12 =>
 Q t12 M_7

/-- slices.IndexFunc[[]string,string] -/
def W_slices_IndexFunc_string_string (cv : (FuncId → CallT)) (a0 a1 : AV) (M0 : RM) (Q : PostV) : Prop :=
 lenW a0 fun t7 =>
 loopW (fun next xs M => -- [8]
 intW .lss (nthD xs 0) t7 fun t9 =>
 condW t9 (
 idxS a0 (nthD xs 0) 1 fun t14 =>
 load1 M t14 fun t15 =>
 callV cv a1 [t15] M fun t16 M_0 =>
 condW t16 (
 Q (nthD xs 0) M_0) (
 intW .add (nthD xs 0) (N .i64 1) fun t18 =>
 next [t18] M_0)) (
 Q (N .i64 (-1)) M)) [(N .i64 0)] M0

/-- strings.IndexAny -/
def W_strings_IndexAny (c_strings_IndexRune : CallT) (c_strings_shouldUseASCIISet : CallT) (c_strings_makeASCIISet : CallT) (T_strings_asciiSet : Nat) (c_strings_asciiSet_contains : CallT) (a0 a1 : AV) (M0 : RM) (Q : PostV) : Prop :=
 strW .eql a1 (St []) fun t12 =>
 condW t12 (
 Q (N .i64 (-1)) M0) (
 lenStr a1 fun t14 =>
 intW .eql t14 (N .i64 1) fun t15 =>
 condW t15 (
 idxB a1 (N .i64 0) fun t17 =>
 cvtW .i32 t17 fun t18 =>
 joinW (fun J =>
 intW .geq t18 (N .i32 128) fun t20 =>
 condW t20 (
 J [(N .i32 65533)] M0) (
 J [t18] M0)) (fun xs M => -- [5]
 c_strings_IndexRune [a0, (nthD xs 0)] M fun t23 M_0 =>
 Q t23 M_0)) (
 joinW (fun J_1 =>
 lenStr a0 fun t25 =>
 c_strings_shouldUseASCIISet [t25] M0 fun t26 M_2 =>
 condW t26 (
 c_strings_makeASCIISet [a1] M_2 fun t29 M_3 =>
 extW t29 0 fun t30 =>
 extW t29 1 fun t31 =>
 newW (.row [(Bo false), (Bo false), (Bo false), (Bo false), (Bo false), (Bo false), (Bo false), (Bo false), (Bo false), (Bo false), (Bo false), (Bo false), (Bo false), (Bo false), (Bo false), (Bo false), (Bo false), (Bo false), (Bo false), (Bo false), (Bo false), (Bo false), (Bo false), (Bo false), (Bo false), (Bo false), (Bo false), (Bo false), (Bo false), (Bo false), (Bo false), (Bo false), (Bo false), (Bo false), (Bo false), (Bo false), (Bo false), (Bo false), (Bo false), (Bo false), (Bo false), (Bo false), (Bo false), (Bo false), (Bo false), (Bo false), (Bo false), (Bo false), (Bo false), (Bo false), (Bo false), (Bo false), (Bo false), (Bo false), (Bo false), (Bo false), (Bo false), (Bo false), (Bo false), (Bo false), (Bo false), (Bo false), (Bo false), (Bo false), (Bo false), (Bo false), (Bo false), (Bo false), (Bo false), (Bo false), (Bo false), (Bo false), (Bo false), (Bo false), (Bo false), (Bo false), (Bo false), (Bo false), (Bo false), (Bo false), (Bo false), (Bo false), (Bo false), (Bo false), (Bo false), (Bo false), (Bo false), (Bo false), (Bo false), (Bo false), (Bo false), (Bo false), (Bo false), (Bo false), (Bo false), (Bo false), (Bo false), (Bo false), (Bo false), (Bo false), (Bo false), (Bo false), (Bo false), (Bo false), (Bo false), (Bo false), (Bo false), (Bo false), (Bo false), (Bo false), (Bo false), (Bo false), (Bo false), (Bo false), (Bo false), (Bo false), (Bo false), (Bo false), (Bo false), (Bo false), (Bo false), (Bo false), (Bo false), (Bo false), (Bo false), (Bo false), (Bo false), (Bo false), (Bo false), (Bo false), (Bo false), (Bo false), (Bo false), (Bo false), (Bo false), (Bo false), (Bo false), (Bo false), (Bo false), (Bo false), (Bo false), (Bo false), (Bo false), (Bo false), (Bo false), (Bo false), (Bo false), (Bo false), (Bo false), (Bo false), (Bo false), (Bo false), (Bo false), (Bo false), (Bo false), (Bo false), (Bo false), (Bo false), (Bo false), (Bo false), (Bo false), (Bo false), (Bo false), (Bo false), (Bo false), (Bo false), (Bo false), (Bo false), (Bo false), (Bo false), (Bo false), (Bo false), (Bo false), (Bo false), (Bo false), (Bo false), (Bo false), (Bo false), (Bo false), (Bo false), (Bo false), (Bo false), (Bo false), (Bo false), (Bo false), (Bo false), (Bo false), (Bo false), (Bo false), (Bo false), (Bo false), (Bo false), (Bo false), (Bo false), (Bo false), (Bo false), (Bo false), (Bo false), (Bo false), (Bo false), (Bo false), (Bo false), (Bo false), (Bo false), (Bo false), (Bo false), (Bo false), (Bo false), (Bo false), (Bo false), (Bo false), (Bo false), (Bo false), (Bo false), (Bo false), (Bo false), (Bo false), (Bo false), (Bo false), (Bo false), (Bo false), (Bo false), (Bo false), (Bo false), (Bo false), (Bo false), (Bo false), (Bo false), (Bo false), (Bo false), (Bo false), (Bo false), (Bo false), (Bo false), (Bo false), (Bo false), (Bo false), (Bo false), (Bo false), (Bo false), (Bo false), (Bo false), (Bo false), (Bo false), (Bo false), (Bo false), (Bo false), (Bo false), (Bo false), (Bo false), (Bo false), (Bo false), (Bo false), (Bo false), (Bo false), (Bo false)] false T_strings_asciiSet 0) (fun b => .ptr b 0) M_3 fun t6 M_4 =>
 storeW M_4 t6 t30 256 fun M_5 =>
 condW t31 (
 loopW (fun next xs_6 M_7 => -- [8]
 lenStr a0 fun t35 =>
 intW .lss (nthD xs_6 0) t35 fun t36 =>
 condW t36 (
 idxB a0 (nthD xs_6 0) fun t41 =>
 c_strings_asciiSet_contains [t6, t41] M_7 fun t42 M_8 =>
 condW t42 (
 Q (nthD xs_6 0) M_8) (
 intW .add (nthD xs_6 0) (N .i64 1) fun t38 =>
 next [t38] M_8)) (
 Q (N .i64 (-1)) M_7)) [(N .i64 0)] M_5) (
 J_1 [] M_5)) (
 J_1 [] M_2)) (fun xs_9 M_10 => -- []
 siterW a0 fun r f =>
 newW r f M_10 fun t45 M_11 =>
 loopW (fun next_12 xs_13 M_14 => -- []
 snextW t45 M_14 fun t46 M_15 =>
 extW t46 0 fun t47 =>
 condW t47 (
 extW t46 1 fun t48 =>
 extW t46 2 fun t49 =>
 c_strings_IndexRune [a1, t49] M_15 fun t52 M_16 =>
 intW .geq t52 (N .i64 0) fun t53 =>
 condW t53 (
 Q t48 M_16) (
 next_12 [] M_16)) (
 Q (N .i64 (-1)) M_15)) [] M_11)))

/-- unicode/utf8.word[string] -/
def W_unicode_utf8_word_string (a0 : AV) (M0 : RM) (Q : PostV) : Prop :=
 condW (Bo false) (
 idxB a0 (N .i64 0) fun t4 =>
 cvtW .u64 t4 fun t5 =>
 idxB a0 (N .i64 1) fun t7 =>
 cvtW .u64 t7 fun t8 =>
 shW .shl t8 (N .u64 8) fun t9 =>
 intW .or t5 t9 fun t10 =>
 idxB a0 (N .i64 2) fun t12 =>
 cvtW .u64 t12 fun t13 =>
 shW .shl t13 (N .u64 16) fun t14 =>
 intW .or t10 t14 fun t15 =>
 idxB a0 (N .i64 3) fun t17 =>
 cvtW .u64 t17 fun t18 =>
 shW .shl t18 (N .u64 24) fun t19 =>
 intW .or t15 t19 fun t20 =>
 Q t20 M0) (
 idxB a0 (N .i64 0) fun t22 =>
 cvtW .u64 t22 fun t23 =>
 idxB a0 (N .i64 1) fun t25 =>
 cvtW .u64 t25 fun t26 =>
 shW .shl t26 (N .u64 8) fun t27 =>
 intW .or t23 t27 fun t28 =>
 idxB a0 (N .i64 2) fun t30 =>
 cvtW .u64 t30 fun t31 =>
 shW .shl t31 (N .u64 16) fun t32 =>
 intW .or t28 t32 fun t33 =>
 idxB a0 (N .i64 3) fun t35 =>
 cvtW .u64 t35 fun t36 =>
 shW .shl t36 (N .u64 24) fun t37 =>
 intW .or t33 t37 fun t38 =>
 idxB a0 (N .i64 4) fun t40 =>
 cvtW .u64 t40 fun t41 =>
 shW .shl t41 (N .u64 32) fun t42 =>
 intW .or t38 t42 fun t43 =>
 idxB a0 (N .i64 5) fun t45 =>
 cvtW .u64 t45 fun t46 =>
 shW .shl t46 (N .u64 40) fun t47 =>
 intW .or t43 t47 fun t48 =>
 idxB a0 (N .i64 6) fun t50 =>
 cvtW .u64 t50 fun t51 =>
 shW .shl t51 (N .u64 48) fun t52 =>
 intW .or t48 t52 fun t53 =>
 idxB a0 (N .i64 7) fun t55 =>
 cvtW .u64 t55 fun t56 =>
 shW .shl t56 (N .u64 56) fun t57 =>
 intW .or t53 t57 fun t58 =>
 Q t58 M0)

/-- strings.TrimLeft -/
def W_strings_TrimLeft (c_strings_trimLeftByte : CallT) (c_strings_makeASCIISet : CallT) (T_strings_asciiSet : Nat) (c_strings_trimLeftASCII : CallT) (c_strings_trimLeftUnicode : CallT) (a0 a1 : AV) (M0 : RM) (Q : PostV) : Prop :=
 strW .eql a0 (St []) fun t8 =>
 guardM t8 false (fun k => k a1 M0) (fun k => k .undef M0) fun t10 M =>
 guardM t8 false (fun k_0 => strW .eql t10 (St []) fun t11 =>
 k_0 t11 M) (fun k => k .undef M) fun t11_1 M_2 =>
 pickW t8 (Bo true) t11_1 fun t12 =>
 condW t12 (
 Q a0 M_2) (
 lenStr a1 fun t15 =>
 intW .eql t15 (N .i64 1) fun t16 =>
 guardM t16 true (fun k_3 => k_3 a1 M_2) (fun k => k .undef M_2) fun t18 M_4 =>
 guardM t16 true (fun k_5 => idxB t18 (N .i64 0) fun t19 =>
 k_5 t19 M_4) (fun k => k .undef M_4) fun t19_6 M_7 =>
 guardM t16 true (fun k_8 => intW .lss t19_6 (N .u8 128) fun t20 =>
 k_8 t20 M_7) (fun k => k .undef M_7) fun t20_9 M_10 =>
 pickW t16 t20_9 (Bo false) fun t21 =>
 condW t21 (
 idxB a1 (N .i64 0) fun t24 =>
 c_strings_trimLeftByte [a0, t24] M_10 fun t25 M_11 =>
 Q t25 M_11) (
 c_strings_makeASCIISet [a1] M_10 fun t28 M_12 =>
 extW t28 0 fun t29 =>
 extW t28 1 fun t30 =>
 newW (.row [(Bo false), (Bo false), (Bo false), (Bo false), (Bo false), (Bo false), (Bo false), (Bo false), (Bo false), (Bo false), (Bo false), (Bo false), (Bo false), (Bo false), (Bo false), (Bo false), (Bo false), (Bo false), (Bo false), (Bo false), (Bo false), (Bo false), (Bo false), (Bo false), (Bo false), (Bo false), (Bo false), (Bo false), (Bo false), (Bo false), (Bo false), (Bo false), (Bo false), (Bo false), (Bo false), (Bo false), (Bo false), (Bo false), (Bo false), (Bo false), (Bo false), (Bo false), (Bo false), (Bo false), (Bo false), (Bo false), (Bo false), (Bo false), (Bo false), (Bo false), (Bo false), (Bo false), (Bo false), (Bo false), (Bo false), (Bo false), (Bo false), (Bo false), (Bo false), (Bo false), (Bo false), (Bo false), (Bo false), (Bo false), (Bo false), (Bo false), (Bo false), (Bo false), (Bo false), (Bo false), (Bo false), (Bo false), (Bo false), (Bo false), (Bo false), (Bo false), (Bo false), (Bo false), (Bo false), (Bo false), (Bo false), (Bo false), (Bo false), (Bo false), (Bo false), (Bo false), (Bo false), (Bo false), (Bo false), (Bo false), (Bo false), (Bo false), (Bo false), (Bo false), (Bo false), (Bo false), (Bo false), (Bo false), (Bo false), (Bo false), (Bo false), (Bo false), (Bo false), (Bo false), (Bo false), (Bo false), (Bo false), (Bo false), (Bo false), (Bo false), (Bo false), (Bo false), (Bo false), (Bo false), (Bo false), (Bo false), (Bo false), (Bo false), (Bo false), (Bo false), (Bo false), (Bo false), (Bo false), (Bo false), (Bo false), (Bo false), (Bo false), (Bo false), (Bo false), (Bo false), (Bo false), (Bo false), (Bo false), (Bo false), (Bo false), (Bo false), (Bo false), (Bo false), (Bo false), (Bo false), (Bo false), (Bo false), (Bo false), (Bo false), (Bo false), (Bo false), (Bo false), (Bo false), (Bo false), (Bo false), (Bo false), (Bo false), (Bo false), (Bo false), (Bo false), (Bo false), (Bo false), (Bo false), (Bo false), (Bo false), (Bo false), (Bo false), (Bo false), (Bo false), (Bo false), (Bo false), (Bo false), (Bo false), (Bo false), (Bo false), (Bo false), (Bo false), (Bo false), (Bo false), (Bo false), (Bo false), (Bo false), (Bo false), (Bo false), (Bo false), (Bo false), (Bo false), (Bo false), (Bo false), (Bo false), (Bo false), (Bo false), (Bo false), (Bo false), (Bo false), (Bo false), (Bo false), (Bo false), (Bo false), (Bo false), (Bo false), (Bo false), (Bo false), (Bo false), (Bo false), (Bo false), (Bo false), (Bo false), (Bo false), (Bo false), (Bo false), (Bo false), (Bo false), (Bo false), (Bo false), (Bo false), (Bo false), (Bo false), (Bo false), (Bo false), (Bo false), (Bo false), (Bo false), (Bo false), (Bo false), (Bo false), (Bo false), (Bo false), (Bo false), (Bo false), (Bo false), (Bo false), (Bo false), (Bo false), (Bo false), (Bo false), (Bo false), (Bo false), (Bo false), (Bo false), (Bo false), (Bo false), (Bo false), (Bo false), (Bo false), (Bo false), (Bo false), (Bo false), (Bo false), (Bo false), (Bo false), (Bo false), (Bo false), (Bo false), (Bo false), (Bo false), (Bo false), (Bo false), (Bo false), (Bo false), (Bo false)] false T_strings_asciiSet 0) (fun b => .ptr b 0) M_12 fun t5 M_13 =>
 storeW M_13 t5 t29 256 fun M_14 =>
 condW t30 (
 c_strings_trimLeftASCII [a0, t5] M_14 fun t33 M_15 =>
 Q t33 M_15) (
 c_strings_trimLeftUnicode [a0, a1] M_14 fun t36 M_16 =>
 Q t36 M_16)))

/-- rolodex/vline.small -/
def W_rolodex_vline_small (T_uint8 : Nat) (a0 : AV) (M0 : RM) (Q : PostV) : Prop :=
 bytesW T_uint8 a0 fun r f =>
 newW r f M0 fun t7 M =>
 lenW t7 fun t9 =>
 loopW (fun next xs M_0 => -- [10]
 intW .lss (nthD xs 0) t9 fun t11 =>
 condW t11 (
 joinW (fun J =>
 idxS t7 (nthD xs 0) 1 fun t13 =>
 load1 M_0 t13 fun t14 =>
 intW .geq t14 (N .u8 65) fun t16 =>
 guardM t16 true (fun k => k t14 M_0) (fun k => k .undef M_0) fun t18 M_1 =>
 guardM t16 true (fun k_2 => intW .leq t18 (N .u8 90) fun t19 =>
 k_2 t19 M_1) (fun k => k .undef M_1) fun t19_3 M_4 =>
 pickW t16 t19_3 (Bo false) fun t20 =>
 condW t20 (
 intW .add t14 (N .u8 97) fun t24 =>
 intW .sub t24 (N .u8 65) fun t25 =>
 idxS t7 (nthD xs 0) 1 fun t26 =>
 storeW M_4 t26 t25 1 fun M_5 =>
 J [] M_5) (
 J [] M_4)) (fun xs_6 M_7 => -- []
 intW .add (nthD xs 0) (N .i64 1) fun t27 =>
 next [t27] M_7)) (
 strOfW M_0 t7 fun t29 =>
 Q t29 M_0)) [(N .i64 0)] M

/-- internal/stringslite.HasPrefix -/
def W_internal_stringslite_HasPrefix (a0 a1 : AV) (M0 : RM) (Q : PostV) : Prop :=
 lenStr a0 fun t6 =>
 lenStr a1 fun t8 =>
 intW .geq t6 t8 fun t9 =>
 guardM t9 true (fun k => k a0 M0) (fun k => k .undef M0) fun t11 M =>
 guardM t9 true (fun k_0 => k_0 a1 M) (fun k => k .undef M) fun t12 M_1 =>
 guardM t9 true (fun k_2 => lenStr t12 fun t13 =>
 k_2 t13 M_1) (fun k => k .undef M_1) fun t13_3 M_4 =>
 guardM t9 true (fun k_5 => getW (subStr t11 none (some t13_3)) fun t14 =>
 k_5 t14 M_4) (fun k => k .undef M_4) fun t14_6 M_7 =>
 guardM t9 true (fun k_8 => k_8 a1 M_7) (fun k => k .undef M_7) fun t15 M_9 =>
 guardM t9 true (fun k_10 => strW .eql t14_6 t15 fun t16 =>
 k_10 t16 M_9) (fun k => k .undef M_9) fun t16_11 M_12 =>
 pickW t9 t16_11 (Bo false) fun t17 =>
 Q t17 M_12

/-- rolodex/vline.value -/
def W_rolodex_vline_value (c_strings_CutPrefix : CallT) (c_strings_Cut : CallT) (c_rolodex_vline_goodValue : CallT) (c_strings_IndexAny : CallT) (a0 : AV) (M0 : RM) (Q : PostV) : Prop :=
 c_strings_CutPrefix [a0, (St [34])] M0 fun t10 M =>
 extW t10 0 fun t11 =>
 extW t10 1 fun t12 =>
 condW t12 (
 c_strings_Cut [t11, (St [34])] M fun t16 M_0 =>
 extW t16 0 fun t17 =>
 extW t16 1 fun t18 =>
 extW t16 2 fun t19 =>
 guardM t19 true (fun k => k t17 M_0) (fun k => k .undef M_0) fun t24 M_1 =>
 guardM t19 true (fun k_2 => c_rolodex_vline_goodValue [t24, (St [])] M_1 fun t25 M_3 =>
 k_2 t25 M_3) (fun k => k .undef M_1) fun t25_4 M_5 =>
 pickW t19 t25_4 (Bo false) fun t26 =>
 Q (.tup [t17, t18, t26]) M_5) (
 c_strings_IndexAny [a0, (St [44, 59, 58])] M fun t28 M_6 =>
 intW .lss t28 (N .i64 0) fun t30 =>
 condW t30 (
 Q (.tup [(St []), (St []), (Bo false)]) M_6) (
 getW (subStr a0 none (some t28)) fun t33 =>
 getW (subStr a0 (some t28) none) fun t36 =>
 getW (subStr a0 none (some t28)) fun t39 =>
 c_rolodex_vline_goodValue [t39, (St [34])] M_6 fun t40 M_7 =>
 getW (subStr a0 none (some t28)) fun t33_9 =>
 (t33_9 = t33 ∧ getW (subStr a0 (some t28) none) fun t36_8 =>
 (t36_8 = t36 ∧ Q (.tup [t33, t36, t40]) M_7))))

/-- internal/stringslite.Index -/
def W_internal_stringslite_Index (c_internal_stringslite_IndexByte : CallT) (x_internal_bytealg_IndexString : CallT) (c_internal_bytealg_Cutover : CallT) (c_internal_bytealg_IndexRabinKarp_string : CallT) (a0 a1 : AV) (M0 : RM) (Q : PostV) : Prop :=
 lenStr a1 fun t15 =>
 intW .eql t15 (N .i64 0) fun t18 =>
 guardM t18 false (fun k => k a1 M0) (fun k => k .undef M0) fun t20 M =>
 guardM t18 false (fun k_0 => k_0 a0 M) (fun k => k .undef M) fun t21 M_1 =>
 guardM t18 false (fun k_2 => strW .eql t20 t21 fun t22 =>
 k_2 t22 M_1) (fun k => k .undef M_1) fun t22_3 M_4 =>
 pickW t18 (Bo true) t22_3 fun t23 =>
 condW t23 (
 Q (N .i64 0) M_4) (
 intW .eql t15 (N .i64 1) fun t26 =>
 condW t26 (
 idxB a1 (N .i64 0) fun t29 =>
 c_internal_stringslite_IndexByte [a0, t29] M_4 fun t30 M_5 =>
 Q t30 M_5) (
 lenStr a0 fun t34 =>
 intW .geq t15 t34 fun t35 =>
 condW t35 (
 Q (N .i64 (-1)) M_4) (
 load1 M_4 .top fun t38 =>
 intW .leq t15 t38 fun t39 =>
 guardM t39 true (fun k_6 => k_6 a0 M_4) (fun k => k .undef M_4) fun t41 M_7 =>
 guardM t39 true (fun k_8 => lenStr t41 fun t42 =>
 k_8 t42 M_7) (fun k => k .undef M_7) fun t42_9 M_10 =>
 guardM t39 true (fun k_11 => intW .leq t42_9 (N .i64 64) fun t43 =>
 k_11 t43 M_10) (fun k => k .undef M_10) fun t43_12 M_13 =>
 pickW t39 t43_12 (Bo false) fun t44 =>
 condW t44 (
 x_internal_bytealg_IndexString [a0, a1] M_13 fun t47 M_14 =>
 Q t47 M_14) (
 idxB a1 (N .i64 0) fun t49 =>
 idxB a1 (N .i64 1) fun t51 =>
 lenStr a0 fun t53 =>
 intW .sub t53 t15 fun t55 =>
 intW .add t55 (N .i64 1) fun t56 =>
 loopW (fun next xs M_15 => -- [8, 10]
 intW .lss (nthD xs 0) t56 fun t59 =>
 condW t59 (
 joinW (fun J =>
 idxB a0 (nthD xs 0) fun t62 =>
 intW .neq t62 t49 fun t64 =>
 condW t64 (
 intW .add (nthD xs 0) (N .i64 1) fun t67 =>
 getW (subStr a0 (some t67) (some t56)) fun t69 =>
 c_internal_stringslite_IndexByte [t69, t49] M_15 fun t71 M_16 =>
 intW .lss t71 (N .i64 0) fun t73 =>
 condW t73 (
 Q (N .i64 (-1)) M_16) (
 intW .add t71 (N .i64 1) fun t76 =>
 intW .add (nthD xs 0) t76 fun t77 =>
 J [t77] M_16)) (
 J [(nthD xs 0)] M_15)) (fun xs_17 M_18 => -- [8]
 intW .add (nthD xs_17 0) (N .i64 1) fun t80 =>
 idxB a0 t80 fun t81 =>
 intW .eql t81 t51 fun t83 =>
 guardM t83 true (fun k_19 => k_19 a0 M_18) (fun k => k .undef M_18) fun t85 M_20 =>
 guardM t83 true (fun k_21 => k_21 (nthD xs_17 0) M_20) (fun k => k .undef M_20) fun t86 M_22 =>
 guardM t83 true (fun k_23 => k_23 (nthD xs_17 0) M_22) (fun k => k .undef M_22) fun t87 M_24 =>
 guardM t83 true (fun k_25 => k_25 t15 M_24) (fun k => k .undef M_24) fun t88 M_26 =>
 guardM t83 true (fun k_27 => intW .add t87 t88 fun t89 =>
 k_27 t89 M_26) (fun k => k .undef M_26) fun t89_28 M_29 =>
 guardM t83 true (fun k_30 => getW (subStr t85 (some t86) (some t89_28)) fun t90 =>
 k_30 t90 M_29) (fun k => k .undef M_29) fun t90_31 M_32 =>
 guardM t83 true (fun k_33 => k_33 a1 M_32) (fun k => k .undef M_32) fun t91 M_34 =>
 guardM t83 true (fun k_35 => strW .eql t90_31 t91 fun t92 =>
 k_35 t92 M_34) (fun k => k .undef M_34) fun t92_36 M_37 =>
 pickW t83 t92_36 (Bo false) fun t93 =>
 condW t93 (
 Q (nthD xs_17 0) M_37) (
 intW .add (nthD xs_17 0) (N .i64 1) fun t96 =>
 intW .add (nthD xs 1) (N .i64 1) fun t98 =>
 load1 M_37 .top fun t100 =>
 intW .leq t15 t100 fun t101 =>
 guardM t101 true (fun k_38 => k_38 t98 M_37) (fun k => k .undef M_37) fun t103 M_39 =>
 guardM t101 true (fun k_40 => k_40 t96 M_39) (fun k => k .undef M_39) fun t104 M_41 =>
 guardM t101 true (fun k_42 => c_internal_bytealg_Cutover [t104] M_41 fun t105 M_43 =>
 k_42 t105 M_43) (fun k => k .undef M_41) fun t105_44 M_45 =>
 guardM t101 true (fun k_46 => intW .gtr t103 t105_44 fun t106 =>
 k_46 t106 M_45) (fun k => k .undef M_45) fun t106_47 M_48 =>
 pickW t101 t106_47 (Bo false) fun t107 =>
 condW t107 (
 getW (subStr a0 (some t96) none) fun t110 =>
 x_internal_bytealg_IndexString [t110, a1] M_48 fun t112 M_49 =>
 intW .geq t112 (N .i64 0) fun t114 =>
 condW t114 (
 intW .add t112 t96 fun t117 =>
 Q t117 M_49) (
 Q (N .i64 (-1)) M_49)) (
 load1 M_48 .top fun t119 =>
 intW .gtr t15 t119 fun t120 =>
 guardM t120 true (fun k_50 => k_50 t98 M_48) (fun k => k .undef M_48) fun t122 M_51 =>
 guardM t120 true (fun k_52 => k_52 t96 M_51) (fun k => k .undef M_51) fun t123 M_53 =>
 guardM t120 true (fun k_54 => shW .shr t123 (N .u64 4) fun t124 =>
 k_54 t124 M_53) (fun k => k .undef M_53) fun t124_55 M_56 =>
 guardM t120 true (fun k_57 => intW .add (N .i64 4) t124_55 fun t125 =>
 k_57 t125 M_56) (fun k => k .undef M_56) fun t125_58 M_59 =>
 guardM t120 true (fun k_60 => intW .geq t122 t125_58 fun t126 =>
 k_60 t126 M_59) (fun k => k .undef M_59) fun t126_61 M_62 =>
 pickW t120 t126_61 (Bo false) fun t127 =>
 guardM t127 true (fun k_63 => k_63 t96 M_62) (fun k => k .undef M_62) fun t129 M_64 =>
 guardM t127 true (fun k_65 => k_65 t56 M_64) (fun k => k .undef M_64) fun t130 M_66 =>
 guardM t127 true (fun k_67 => intW .lss t129 t130 fun t131 =>
 k_67 t131 M_66) (fun k => k .undef M_66) fun t131_68 M_69 =>
 pickW t127 t131_68 (Bo false) fun t132 =>
 condW t132 (
 getW (subStr a0 (some t96) none) fun t135 =>
 c_internal_bytealg_IndexRabinKarp_string [t135, a1] M_69 fun t137 M_70 =>
 intW .lss t137 (N .i64 0) fun t139 =>
 condW t139 (
 Q (N .i64 (-1)) M_70) (
 intW .add t96 t137 fun t142 =>
 Q t142 M_70)) (
 next [t96, t98] M_69))))) (
 Q (N .i64 (-1)) M_15)) [(N .i64 0), (N .i64 0)] M_13))))

/-- internal/stringslite.HasSuffix -/
def W_internal_stringslite_HasSuffix (a0 a1 : AV) (M0 : RM) (Q : PostV) : Prop :=
 lenStr a0 fun t6 =>
 lenStr a1 fun t8 =>
 intW .geq t6 t8 fun t9 =>
 guardM t9 true (fun k => k a0 M0) (fun k => k .undef M0) fun t11 M =>
 guardM t9 true (fun k_0 => k_0 a0 M) (fun k => k .undef M) fun t12 M_1 =>
 guardM t9 true (fun k_2 => lenStr t12 fun t13 =>
 k_2 t13 M_1) (fun k => k .undef M_1) fun t13_3 M_4 =>
 guardM t9 true (fun k_5 => k_5 a1 M_4) (fun k => k .undef M_4) fun t14 M_6 =>
 guardM t9 true (fun k_7 => lenStr t14 fun t15 =>
 k_7 t15 M_6) (fun k => k .undef M_6) fun t15_8 M_9 =>
 guardM t9 true (fun k_10 => intW .sub t13_3 t15_8 fun t16 =>
 k_10 t16 M_9) (fun k => k .undef M_9) fun t16_11 M_12 =>
 guardM t9 true (fun k_13 => getW (subStr t11 (some t16_11) none) fun t17 =>
 k_13 t17 M_12) (fun k => k .undef M_12) fun t17_14 M_15 =>
 guardM t9 true (fun k_16 => k_16 a1 M_15) (fun k => k .undef M_15) fun t18 M_17 =>
 guardM t9 true (fun k_18 => strW .eql t17_14 t18 fun t19 =>
 k_18 t19 M_17) (fun k => k .undef M_17) fun t19_19 M_20 =>
 pickW t9 t19_19 (Bo false) fun t20 =>
 Q t20 M_20

/-- unicode/utf8.decodeRuneInStringSlow -/
def W_unicode_utf8_decodeRuneInStringSlow (T_utf8_acceptRange : Nat) (a0 : AV) (M0 : RM) (Q : PostV) : Prop :=
 lenStr a0 fun t14 =>
 intW .lss t14 (N .i64 1) fun t16 =>
 condW t16 (
 Q (.tup [(N .i32 65533), (N .i64 0)]) M0) (
 idxB a0 (N .i64 0) fun t18 =>
 idxA .top t18 256 1 fun t20 =>
 load1 M0 t20 fun t21 =>
 intW .geq t21 (N .u8 240) fun t23 =>
 condW t23 (
 cvtW .i32 t21 fun t25 =>
 shW .shl t25 (N .u64 31) fun t26 =>
 shW .shr t26 (N .u64 31) fun t27 =>
 idxB a0 (N .i64 0) fun t29 =>
 cvtW .i32 t29 fun t30 =>
 intW .andNot t30 t27 fun t32 =>
 intW .and (N .i32 65533) t27 fun t34 =>
 intW .or t32 t34 fun t35 =>
 Q (.tup [t35, (N .i64 1)]) M0) (
 intW .and t21 (N .u8 7) fun t37 =>
 cvtW .i64 t37 fun t38 =>
 shW .shr t21 (N .u64 4) fun t40 =>
 idxA .top t40 16 2 fun t41 =>
 loadN M0 t41 2 fun t42 =>
 newW (.row [(N .u8 0), (N .u8 0)] false T_utf8_acceptRange 0) (fun b => .ptr b 0) M0 fun t9 M =>
 storeW M t9 t42 2 fun M_0 =>
 intW .lss t14 t38 fun t45 =>
 condW t45 (
 Q (.tup [(N .i32 65533), (N .i64 1)]) M_0) (
 idxB a0 (N .i64 1) fun t47 =>
 fldW t9 0 fun t49 =>
 load1 M_0 t49 fun t50 =>
 intW .lss t47 t50 fun t51 =>
 guardM t51 false (fun k => fldW t9 1 fun t53 =>
 k t53 M_0) (fun k => k .undef M_0) fun t53_1 M_2 =>
 guardM t51 false (fun k_3 => load1 M_2 t53_1 fun t54 =>
 k_3 t54 M_2) (fun k => k .undef M_2) fun t54_4 M_5 =>
 guardM t51 false (fun k_6 => k_6 t47 M_5) (fun k => k .undef M_5) fun t55 M_7 =>
 guardM t51 false (fun k_8 => intW .lss t54_4 t55 fun t56 =>
 k_8 t56 M_7) (fun k => k .undef M_7) fun t56_9 M_10 =>
 pickW t51 (Bo true) t56_9 fun t57 =>
 condW t57 (
 Q (.tup [(N .i32 65533), (N .i64 1)]) M_10) (
 intW .leq t38 (N .i64 2) fun t59 =>
 condW t59 (
 intW .and t18 (N .u8 31) fun t61 =>
 cvtW .i32 t61 fun t62 =>
 shW .shl t62 (N .u64 6) fun t63 =>
 intW .and t47 (N .u8 63) fun t65 =>
 cvtW .i32 t65 fun t66 =>
 intW .or t63 t66 fun t67 =>
 Q (.tup [t67, (N .i64 2)]) M_10) (
 idxB a0 (N .i64 2) fun t69 =>
 intW .lss t69 (N .u8 128) fun t71 =>
 guardM t71 false (fun k_11 => k_11 t69 M_10) (fun k => k .undef M_10) fun t73 M_12 =>
 guardM t71 false (fun k_13 => intW .lss (N .u8 191) t73 fun t74 =>
 k_13 t74 M_12) (fun k => k .undef M_12) fun t74_14 M_15 =>
 pickW t71 (Bo true) t74_14 fun t75 =>
 condW t75 (
 Q (.tup [(N .i32 65533), (N .i64 1)]) M_15) (
 intW .leq t38 (N .i64 3) fun t77 =>
 condW t77 (
 intW .and t18 (N .u8 15) fun t79 =>
 cvtW .i32 t79 fun t80 =>
 shW .shl t80 (N .u64 12) fun t81 =>
 intW .and t47 (N .u8 63) fun t83 =>
 cvtW .i32 t83 fun t84 =>
 shW .shl t84 (N .u64 6) fun t85 =>
 intW .or t81 t85 fun t86 =>
 intW .and t69 (N .u8 63) fun t88 =>
 cvtW .i32 t88 fun t89 =>
 intW .or t86 t89 fun t90 =>
 Q (.tup [t90, (N .i64 3)]) M_15) (
 idxB a0 (N .i64 3) fun t92 =>
 intW .lss t92 (N .u8 128) fun t94 =>
 guardM t94 false (fun k_16 => k_16 t92 M_15) (fun k => k .undef M_15) fun t96 M_17 =>
 guardM t94 false (fun k_18 => intW .lss (N .u8 191) t96 fun t97 =>
 k_18 t97 M_17) (fun k => k .undef M_17) fun t97_19 M_20 =>
 pickW t94 (Bo true) t97_19 fun t98 =>
 condW t98 (
 Q (.tup [(N .i32 65533), (N .i64 1)]) M_20) (
 intW .and t18 (N .u8 7) fun t100 =>
 cvtW .i32 t100 fun t101 =>
 shW .shl t101 (N .u64 18) fun t102 =>
 intW .and t47 (N .u8 63) fun t104 =>
 cvtW .i32 t104 fun t105 =>
 shW .shl t105 (N .u64 12) fun t106 =>
 intW .or t102 t106 fun t107 =>
 intW .and t69 (N .u8 63) fun t109 =>
 cvtW .i32 t109 fun t110 =>
 shW .shl t110 (N .u64 6) fun t111 =>
 intW .or t107 t111 fun t112 =>
 intW .and t92 (N .u8 63) fun t114 =>
 cvtW .i32 t114 fun t115 =>
 intW .or t112 t115 fun t116 =>
 Q (.tup [t116, (N .i64 4)]) M_20))))))))

/-- strings.trimLeftByte -/
def W_strings_trimLeftByte (a0 a1 : AV) (M0 : RM) (Q : PostV) : Prop :=
 loopW (fun next xs M => -- [0]
 lenStr (nthD xs 0) fun t6 =>
 intW .gtr t6 (N .i64 0) fun t7 =>
 guardM t7 true (fun k => k (nthD xs 0) M) (fun k => k .undef M) fun t9 M_0 =>
 guardM t7 true (fun k_1 => idxB t9 (N .i64 0) fun t10 =>
 k_1 t10 M_0) (fun k => k .undef M_0) fun t10_2 M_3 =>
 guardM t7 true (fun k_4 => k_4 a1 M_3) (fun k => k .undef M_3) fun t11 M_5 =>
 guardM t7 true (fun k_6 => intW .eql t10_2 t11 fun t12 =>
 k_6 t12 M_5) (fun k => k .undef M_5) fun t12_7 M_8 =>
 pickW t7 t12_7 (Bo false) fun t13 =>
 condW t13 (
 getW (subStr (nthD xs 0) (some (N .i64 1)) none) fun t15 =>
 next [t15] M_8) (
 Q (nthD xs 0) M_8)) [a0] M0

/-- strings.trimRightByte -/
def W_strings_trimRightByte (a0 a1 : AV) (M0 : RM) (Q : PostV) : Prop :=
 loopW (fun next xs M => -- [0]
 lenStr (nthD xs 0) fun t6 =>
 intW .gtr t6 (N .i64 0) fun t7 =>
 guardM t7 true (fun k => k (nthD xs 0) M) (fun k => k .undef M) fun t9 M_0 =>
 guardM t7 true (fun k_1 => k_1 (nthD xs 0) M_0) (fun k => k .undef M_0) fun t10 M_2 =>
 guardM t7 true (fun k_3 => lenStr t10 fun t11 =>
 k_3 t11 M_2) (fun k => k .undef M_2) fun t11_4 M_5 =>
 guardM t7 true (fun k_6 => intW .sub t11_4 (N .i64 1) fun t12 =>
 k_6 t12 M_5) (fun k => k .undef M_5) fun t12_7 M_8 =>
 guardM t7 true (fun k_9 => idxB t9 t12_7 fun t13 =>
 k_9 t13 M_8) (fun k => k .undef M_8) fun t13_10 M_11 =>
 guardM t7 true (fun k_12 => k_12 a1 M_11) (fun k => k .undef M_11) fun t14 M_13 =>
 guardM t7 true (fun k_14 => intW .eql t13_10 t14 fun t15 =>
 k_14 t15 M_13) (fun k => k .undef M_13) fun t15_15 M_16 =>
 pickW t7 t15_15 (Bo false) fun t16 =>
 condW t16 (
 lenStr (nthD xs 0) fun t19 =>
 intW .sub t19 (N .i64 1) fun t20 =>
 getW (subStr (nthD xs 0) none (some t20)) fun t21 =>
 next [t21] M_16) (
 Q (nthD xs 0) M_16)) [a0] M0

/-- strings.makeASCIISet -/
def W_strings_makeASCIISet (T_strings_asciiSet : Nat) (a0 : AV) (M0 : RM) (Q : PostV) : Prop :=
 newW (.row [(Bo false), (Bo false), (Bo false), (Bo false), (Bo false), (Bo false), (Bo false), (Bo false), (Bo false), (Bo false), (Bo false), (Bo false), (Bo false), (Bo false), (Bo false), (Bo false), (Bo false), (Bo false), (Bo false), (Bo false), (Bo false), (Bo false), (Bo false), (Bo false), (Bo false), (Bo false), (Bo false), (Bo false), (Bo false), (Bo false), (Bo false), (Bo false), (Bo false), (Bo false), (Bo false), (Bo false), (Bo false), (Bo false), (Bo false), (Bo false), (Bo false), (Bo false), (Bo false), (Bo false), (Bo false), (Bo false), (Bo false), (Bo false), (Bo false), (Bo false), (Bo false), (Bo false), (Bo false), (Bo false), (Bo false), (Bo false), (Bo false), (Bo false), (Bo false), (Bo false), (Bo false), (Bo false), (Bo false), (Bo false), (Bo false), (Bo false), (Bo false), (Bo false), (Bo false), (Bo false), (Bo false), (Bo false), (Bo false), (Bo false), (Bo false), (Bo false), (Bo false), (Bo false), (Bo false), (Bo false), (Bo false), (Bo false), (Bo false), (Bo false), (Bo false), (Bo false), (Bo false), (Bo false), (Bo false), (Bo false), (Bo false), (Bo false), (Bo false), (Bo false), (Bo false), (Bo false), (Bo false), (Bo false), (Bo false), (Bo false), (Bo false), (Bo false), (Bo false), (Bo false), (Bo false), (Bo false), (Bo false), (Bo false), (Bo false), (Bo false), (Bo false), (Bo false), (Bo false), (Bo false), (Bo false), (Bo false), (Bo false), (Bo false), (Bo false), (Bo false), (Bo false), (Bo false), (Bo false), (Bo false), (Bo false), (Bo false), (Bo false), (Bo false), (Bo false), (Bo false), (Bo false), (Bo false), (Bo false), (Bo false), (Bo false), (Bo false), (Bo false), (Bo false), (Bo false), (Bo false), (Bo false), (Bo false), (Bo false), (Bo false), (Bo false), (Bo false), (Bo false), (Bo false), (Bo false), (Bo false), (Bo false), (Bo false), (Bo false), (Bo false), (Bo false), (Bo false), (Bo false), (Bo false), (Bo false), (Bo false), (Bo false), (Bo false), (Bo false), (Bo false), (Bo false), (Bo false), (Bo false), (Bo false), (Bo false), (Bo false), (Bo false), (Bo false), (Bo false), (Bo false), (Bo false), (Bo false), (Bo false), (Bo false), (Bo false), (Bo false), (Bo false), (Bo false), (Bo false), (Bo false), (Bo false), (Bo false), (Bo false), (Bo false), (Bo false), (Bo false), (Bo false), (Bo false), (Bo false), (Bo false), (Bo false), (Bo false), (Bo false), (Bo false), (Bo false), (Bo false), (Bo false), (Bo false), (Bo false), (Bo false), (Bo false), (Bo false), (Bo false), (Bo false), (Bo false), (Bo false), (Bo false), (Bo false), (Bo false), (Bo false), (Bo false), (Bo false), (Bo false), (Bo false), (Bo false), (Bo false), (Bo false), (Bo false), (Bo false), (Bo false), (Bo false), (Bo false), (Bo false), (Bo false), (Bo false), (Bo false), (Bo false), (Bo false), (Bo false), (Bo false), (Bo false), (Bo false), (Bo false), (Bo false), (Bo false), (Bo false), (Bo false), (Bo false), (Bo false), (Bo false), (Bo false), (Bo false), (Bo false), (Bo false), (Bo false), (Bo false), (Bo false), (Bo false), (Bo false), (Bo false), (Bo false), (Bo false)] false T_strings_asciiSet 0) (fun b => .ptr b 0) M0 fun t2 M =>
 loopW (fun next xs M_0 => -- [4]
 lenStr a0 fun t8 =>
 intW .lss (nthD xs 0) t8 fun t9 =>
 condW t9 (
 idxB a0 (nthD xs 0) fun t14 =>
 intW .geq t14 (N .u8 128) fun t16 =>
 condW t16 (
 loadN M_0 t2 256 fun t17 =>
 storeW M_0 t2 t17 256 fun M_1 =>
 loadN M_1 t2 256 fun res =>
 Q (.tup [res, (Bo false)]) M_1) (
 idxA t2 t14 256 1 fun t19 =>
 storeW M_0 t19 (Bo true) 1 fun M_2 =>
 intW .add (nthD xs 0) (N .i64 1) fun t11 =>
 next [t11] M_2)) (
 loadN M_0 t2 256 fun t20 =>
 storeW M_0 t2 t20 256 fun M_3 =>
 loadN M_3 t2 256 fun res_4 =>
 Q (.tup [res_4, (Bo true)]) M_3)) [(N .i64 0)] M

/-- strings.trimLeftASCII -/
def W_strings_trimLeftASCII (c_strings_asciiSet_contains : CallT) (a0 a1 : AV) (M0 : RM) (Q : PostV) : Prop :=
 joinW (fun J =>
 loopW (fun next xs M => -- [0]
 lenStr (nthD xs 0) fun t6 =>
 intW .gtr t6 (N .i64 0) fun t7 =>
 condW t7 (
 idxB (nthD xs 0) (N .i64 0) fun t10 =>
 c_strings_asciiSet_contains [a1, t10] M fun t11 M_0 =>
 notW t11 fun t12 =>
 condW t12 (
 J [(nthD xs 0)] M_0) (
 getW (subStr (nthD xs 0) (some (N .i64 1)) none) fun t14 =>
 next [t14] M_0)) (
 J [(nthD xs 0)] M)) [a0] M0) (fun xs_1 M_2 => -- [0]
 Q (nthD xs_1 0) M_2)

/-- strings.trimRightASCII -/
def W_strings_trimRightASCII (c_strings_asciiSet_contains : CallT) (a0 a1 : AV) (M0 : RM) (Q : PostV) : Prop :=
 joinW (fun J =>
 loopW (fun next xs M => -- [0]
 lenStr (nthD xs 0) fun t6 =>
 intW .gtr t6 (N .i64 0) fun t7 =>
 condW t7 (
 lenStr (nthD xs 0) fun t11 =>
 intW .sub t11 (N .i64 1) fun t12 =>
 idxB (nthD xs 0) t12 fun t13 =>
 c_strings_asciiSet_contains [a1, t13] M fun t14 M_0 =>
 notW t14 fun t15 =>
 condW t15 (
 J [(nthD xs 0)] M_0) (
 lenStr (nthD xs 0) fun t18 =>
 intW .sub t18 (N .i64 1) fun t19 =>
 getW (subStr (nthD xs 0) none (some t19)) fun t20 =>
 next [t20] M_0)) (
 J [(nthD xs 0)] M)) [a0] M0) (fun xs_1 M_2 => -- [0]
 Q (nthD xs_1 0) M_2)

/-- strings.trimLeftUnicode -/
def W_strings_trimLeftUnicode (c_unicode_utf8_DecodeRuneInString : CallT) (c_strings_ContainsRune : CallT) (a0 a1 : AV) (M0 : RM) (Q : PostV) : Prop :=
 joinW (fun J =>
 loopW (fun next xs M => -- [0]
 lenStr (nthD xs 0) fun t8 =>
 intW .gtr t8 (N .i64 0) fun t9 =>
 condW t9 (
 c_unicode_utf8_DecodeRuneInString [(nthD xs 0)] M fun t12 M_0 =>
 extW t12 0 fun t13 =>
 extW t12 1 fun t14 =>
 c_strings_ContainsRune [a1, t13] M_0 fun t17 M_1 =>
 notW t17 fun t18 =>
 condW t18 (
 J [(nthD xs 0)] M_1) (
 getW (subStr (nthD xs 0) (some t14) none) fun t21 =>
 next [t21] M_1)) (
 J [(nthD xs 0)] M)) [a0] M0) (fun xs_2 M_3 => -- [0]
 Q (nthD xs_2 0) M_3)

/-- strings.trimRightUnicode -/
def W_strings_trimRightUnicode (c_unicode_utf8_DecodeLastRuneInString : CallT) (c_strings_ContainsRune : CallT) (a0 a1 : AV) (M0 : RM) (Q : PostV) : Prop :=
 joinW (fun J =>
 loopW (fun next xs M => -- [0]
 lenStr (nthD xs 0) fun t8 =>
 intW .gtr t8 (N .i64 0) fun t9 =>
 condW t9 (
 lenStr (nthD xs 0) fun t12 =>
 intW .sub t12 (N .i64 1) fun t13 =>
 idxB (nthD xs 0) t13 fun t14 =>
 cvtW .i32 t14 fun t15 =>
 joinW (fun J_0 =>
 intW .geq t15 (N .i32 128) fun t17 =>
 condW t17 (
 c_unicode_utf8_DecodeLastRuneInString [(nthD xs 0)] M fun t20 M_1 =>
 extW t20 0 fun t21 =>
 extW t20 1 fun t22 =>
 J_0 [t21, t22] M_1) (
 J_0 [t15, (N .i64 1)] M)) (fun xs_2 M_3 => -- [5, 6]
 c_strings_ContainsRune [a1, (nthD xs_2 0)] M_3 fun t25 M_4 =>
 notW t25 fun t26 =>
 condW t26 (
 J [(nthD xs 0)] M_4) (
 lenStr (nthD xs 0) fun t29 =>
 intW .sub t29 (nthD xs_2 1) fun t31 =>
 getW (subStr (nthD xs 0) none (some t31)) fun t32 =>
 next [t32] M_4))) (
 J [(nthD xs 0)] M)) [a0] M0) (fun xs_5 M_6 => -- [0]
 Q (nthD xs_5 0) M_6)

/-- strings.IndexRune -/
def W_strings_IndexRune (c_strings_IndexByte : CallT) (c_unicode_utf8_ValidRune : CallT) (a0 a1 : AV) (M0 : RM) (Q : PostV) : Prop :=
 intW .leq (N .i32 0) a1 fun t162 =>
 guardM t162 true (fun k => k a1 M0) (fun k => k .undef M0) fun t164 M =>
 guardM t162 true (fun k_0 => intW .lss t164 (N .i32 128) fun t165 =>
 k_0 t165 M) (fun k => k .undef M) fun t165_1 M_2 =>
 pickW t162 t165_1 (Bo false) fun t166 =>
 condW t166 (
 cvtW .u8 a1 fun t169 =>
 c_strings_IndexByte [a0, t169] M_2 fun t170 M_3 =>
 Q t170 M_3) (
 intW .eql a1 (N .i32 65533) fun t173 =>
 condW t173 (
 siterW a0 fun r f =>
 newW r f M_2 fun t175 M_4 =>
 loopW (fun next xs M_5 => -- []
 snextW t175 M_5 fun t176 M_6 =>
 extW t176 0 fun t177 =>
 condW t177 (
 extW t176 1 fun t178 =>
 extW t176 2 fun t179 =>
 intW .eql t179 (N .i32 65533) fun t181 =>
 condW t181 (
 Q t178 M_6) (
 next [] M_6)) (
 Q (N .i64 (-1)) M_6)) [] M_4) (
 c_unicode_utf8_ValidRune [a1] M_2 fun t185 M_7 =>
 notW t185 fun t186 =>
 condW t186 (
 Q (N .i64 (-1)) M_7) (
 False)))

/-- strings.shouldUseASCIISet -/
def W_strings_shouldUseASCIISet (a0 : AV) (M0 : RM) (Q : PostV) : Prop :=
 intW .gtr a0 (N .i64 8) fun t4 =>
 Q t4 M0

/-- (*strings.asciiSet).contains -/
def W_strings_asciiSet_contains (a0 a1 : AV) (M0 : RM) (Q : PostV) : Prop :=
 ptrW a0 fun t7 =>
 idxA t7 a1 256 1 fun t8 =>
 load1 M0 t8 fun t9 =>
 Q t9 M0

/-- strings.CutPrefix -/
def W_strings_CutPrefix (c_internal_stringslite_CutPrefix : CallT) (a0 a1 : AV) (M0 : RM) (Q : PostV) : Prop :=
 c_internal_stringslite_CutPrefix [a0, a1] M0 fun t8 M =>
 extW t8 0 fun t9 =>
 extW t8 1 fun t10 =>
 Q (.tup [t9, t10]) M

/-- internal/bytealg.Cutover -/
def W_internal_bytealg_Cutover (a0 : AV) (M0 : RM) (Q : PostV) : Prop :=
 intW .add a0 (N .i64 16) fun t4 =>
 intW .quo t4 (N .i64 8) fun t5 =>
 Q t5 M0

/-- internal/bytealg.IndexRabinKarp[string] -/
def W_internal_bytealg_IndexRabinKarp_string (c_internal_bytealg_hashStr_string : CallT) (a0 a1 : AV) (M0 : RM) (Q : PostV) : Prop :=
 c_internal_bytealg_hashStr_string [a1] M0 fun t13 M =>
 extW t13 0 fun t14 =>
 extW t13 1 fun t15 =>
 lenStr a1 fun t17 =>
 loopW (fun next xs M_0 => -- [8, 9]
 intW .lss (nthD xs 1) t17 fun t20 =>
 condW t20 (
 intW .mul (nthD xs 0) (N .u32 16777619) fun t24 =>
 idxB a0 (nthD xs 1) fun t27 =>
 cvtW .u32 t27 fun t28 =>
 intW .add t24 t28 fun t29 =>
 intW .add (nthD xs 1) (N .i64 1) fun t22 =>
 next [t29, t22] M_0) (
 intW .eql (nthD xs 0) t14 fun t32 =>
 guardM t32 true (fun k => k a0 M_0) (fun k => k .undef M_0) fun t34 M_1 =>
 guardM t32 true (fun k_2 => k_2 t17 M_1) (fun k => k .undef M_1) fun t35 M_3 =>
 guardM t32 true (fun k_4 => getW (subStr t34 none (some t35)) fun t36 =>
 k_4 t36 M_3) (fun k => k .undef M_3) fun t36_5 M_6 =>
 guardM t32 true (fun k_7 => k_7 a1 M_6) (fun k => k .undef M_6) fun t37 M_8 =>
 guardM t32 true (fun k_9 => strW .eql t36_5 t37 fun t38 =>
 k_9 t38 M_8) (fun k => k .undef M_8) fun t38_10 M_11 =>
 pickW t32 t38_10 (Bo false) fun t39 =>
 condW t39 (
 Q (N .i64 0) M_11) (
 loopW (fun next_12 xs_13 M_14 => -- [8, 10]
 lenStr a0 fun t43 =>
 intW .lss (nthD xs_13 1) t43 fun t44 =>
 condW t44 (
 intW .mul (nthD xs_13 0) (N .u32 16777619) fun t46 =>
 idxB a0 (nthD xs_13 1) fun t50 =>
 cvtW .u32 t50 fun t51 =>
 intW .add t46 t51 fun t52 =>
 intW .sub (nthD xs_13 1) t17 fun t58 =>
 idxB a0 t58 fun t59 =>
 cvtW .u32 t59 fun t60 =>
 intW .mul t15 t60 fun t61 =>
 intW .sub t52 t61 fun t62 =>
 intW .add (nthD xs_13 1) (N .i64 1) fun t64 =>
 intW .eql t62 t14 fun t67 =>
 guardM t67 true (fun k_15 => k_15 a0 M_14) (fun k => k .undef M_14) fun t69 M_16 =>
 guardM t67 true (fun k_17 => k_17 t64 M_16) (fun k => k .undef M_16) fun t70 M_18 =>
 guardM t67 true (fun k_19 => k_19 t17 M_18) (fun k => k .undef M_18) fun t71 M_20 =>
 guardM t67 true (fun k_21 => intW .sub t70 t71 fun t72 =>
 k_21 t72 M_20) (fun k => k .undef M_20) fun t72_22 M_23 =>
 guardM t67 true (fun k_24 => k_24 t64 M_23) (fun k => k .undef M_23) fun t73 M_25 =>
 guardM t67 true (fun k_26 => getW (subStr t69 (some t72_22) (some t73)) fun t74 =>
 k_26 t74 M_25) (fun k => k .undef M_25) fun t74_27 M_28 =>
 guardM t67 true (fun k_29 => k_29 a1 M_28) (fun k => k .undef M_28) fun t75 M_30 =>
 guardM t67 true (fun k_31 => strW .eql t74_27 t75 fun t76 =>
 k_31 t76 M_30) (fun k => k .undef M_30) fun t76_32 M_33 =>
 pickW t67 t76_32 (Bo false) fun t77 =>
 condW t77 (
 intW .sub t64 t17 fun t80 =>
 Q t80 M_33) (
 next_12 [t62, t64] M_33)) (
 Q (N .i64 (-1)) M_14)) [(nthD xs 0), t17] M_11))) [(N .u32 0), (N .i64 0)] M

/-- strings.ContainsRune -/
def W_strings_ContainsRune (c_strings_IndexRune : CallT) (a0 a1 : AV) (M0 : RM) (Q : PostV) : Prop :=
 c_strings_IndexRune [a0, a1] M0 fun t7 M =>
 intW .geq t7 (N .i64 0) fun t8 =>
 Q t8 M

/-- unicode/utf8.DecodeLastRuneInString -/
def W_unicode_utf8_DecodeLastRuneInString (c_unicode_utf8_RuneStart : CallT) (c_unicode_utf8_DecodeRuneInString : CallT) (a0 : AV) (M0 : RM) (Q : PostV) : Prop :=
 lenStr a0 fun t8 =>
 intW .eql t8 (N .i64 0) fun t10 =>
 condW t10 (
 Q (.tup [(N .i32 65533), (N .i64 0)]) M0) (
 intW .sub t8 (N .i64 1) fun t12 =>
 idxB a0 t12 fun t15 =>
 cvtW .i32 t15 fun t16 =>
 intW .lss t16 (N .i32 128) fun t18 =>
 condW t18 (
 Q (.tup [t16, (N .i64 1)]) M0) (
 intW .sub t8 (N .i64 4) fun t21 =>
 minW true t21 (N .i64 0) fun t22 =>
 joinW (fun J =>
 intW .sub t12 (N .i64 1) fun t24 =>
 loopW (fun next xs M => -- [5]
 intW .geq (nthD xs 0) t22 fun t27 =>
 condW t27 (
 idxB a0 (nthD xs 0) fun t32 =>
 c_unicode_utf8_RuneStart [t32] M fun t33 M_0 =>
 condW t33 (
 J [(nthD xs 0)] M_0) (
 intW .sub (nthD xs 0) (N .i64 1) fun t29 =>
 next [t29] M_0)) (
 J [(nthD xs 0)] M)) [t24] M0) (fun xs_1 M_2 => -- [5]
 joinW (fun J_3 =>
 intW .lss (nthD xs_1 0) (N .i64 0) fun t35 =>
 condW t35 (
 J_3 [(N .i64 0)] M_2) (
 J_3 [(nthD xs_1 0)] M_2)) (fun xs_4 M_5 => -- [5]
 getW (subStr a0 (some (nthD xs_4 0)) (some t8)) fun t40 =>
 c_unicode_utf8_DecodeRuneInString [t40] M_5 fun t41 M_6 =>
 extW t41 0 fun t42 =>
 extW t41 1 fun t43 =>
 intW .add (nthD xs_4 0) t43 fun t46 =>
 intW .neq t46 t8 fun t48 =>
 condW t48 (
 Q (.tup [(N .i32 65533), (N .i64 1)]) M_6) (
 Q (.tup [t42, t43]) M_6)))))

/-- unicode/utf8.ValidRune -/
def W_unicode_utf8_ValidRune (a0 : AV) (M0 : RM) (Q : PostV) : Prop :=
 intW .leq (N .i32 0) a0 fun t5 =>
 guardM t5 true (fun k => k a0 M0) (fun k => k .undef M0) fun t7 M =>
 guardM t5 true (fun k_0 => intW .lss t7 (N .i32 55296) fun t8 =>
 k_0 t8 M) (fun k => k .undef M) fun t8_1 M_2 =>
 pickW t5 t8_1 (Bo false) fun t9 =>
 condW t9 (
 Q (Bo true) M_2) (
 intW .lss (N .i32 57343) a0 fun t12 =>
 guardM t12 true (fun k_3 => k_3 a0 M_2) (fun k => k .undef M_2) fun t14 M_4 =>
 guardM t12 true (fun k_5 => intW .leq t14 (N .i32 1114111) fun t15 =>
 k_5 t15 M_4) (fun k => k .undef M_4) fun t15_6 M_7 =>
 pickW t12 t15_6 (Bo false) fun t16 =>
 condW t16 (
 Q (Bo true) M_7) (
 Q (Bo false) M_7))

/-- internal/stringslite.CutPrefix -/
def W_internal_stringslite_CutPrefix (c_internal_stringslite_HasPrefix : CallT) (a0 a1 : AV) (M0 : RM) (Q : PostV) : Prop :=
 c_internal_stringslite_HasPrefix [a0, a1] M0 fun t8 M =>
 notW t8 fun t9 =>
 condW t9 (
 Q (.tup [a0, (Bo false)]) M) (
 lenStr a1 fun t13 =>
 getW (subStr a0 (some t13) none) fun t14 =>
 Q (.tup [t14, (Bo true)]) M)

/-- internal/bytealg.hashStr[string] -/
def W_internal_bytealg_hashStr_string (a0 : AV) (M0 : RM) (Q : PostV) : Prop :=
 loopW (fun next xs M => -- [4, 5]
 lenStr a0 fun t11 =>
 intW .lss (nthD xs 1) t11 fun t12 =>
 condW t12 (
 intW .mul (nthD xs 0) (N .u32 16777619) fun t16 =>
 idxB a0 (nthD xs 1) fun t19 =>
 cvtW .u32 t19 fun t20 =>
 intW .add t16 t20 fun t21 =>
 intW .add (nthD xs 1) (N .i64 1) fun t14 =>
 next [t21, t14] M) (
 lenStr a0 fun t23 =>
 loopW (fun next_0 xs_1 M_2 => -- [6, 7, 8]
 intW .gtr (nthD xs_1 2) (N .i64 0) fun t25 =>
 condW t25 (
 joinW (fun J =>
 joinW (fun J_3 =>
 intW .and (nthD xs_1 2) (N .i64 1) fun t29 =>
 intW .neq t29 (N .i64 0) fun t30 =>
 condW t30 (
 intW .mul (nthD xs_1 0) (nthD xs_1 1) fun t33 =>
 J_3 [t33] M_2) (
 J_3 [(nthD xs_1 0)] M_2)) (fun xs_4 M_5 => -- [6]
 intW .mul (nthD xs_1 1) (nthD xs_1 1) fun t36 =>
 J [(nthD xs_4 0), t36] M_5)) (fun xs_6 M_7 => -- [6, 7]
 shW .shr (nthD xs_1 2) (N .u64 1) fun t27 =>
 next_0 [(nthD xs_6 0), (nthD xs_6 1), t27] M_7)) (
 Q (.tup [(nthD xs 0), (nthD xs_1 0)]) M_2)) [(N .u32 1), (N .u32 16777619), t23] M)) [(N .u32 0), (N .i64 0)] M0

/-- unicode/utf8.RuneStart -/
def W_unicode_utf8_RuneStart (a0 : AV) (M0 : RM) (Q : PostV) : Prop :=
 intW .and a0 (N .u8 192) fun t4 =>
 intW .neq t4 (N .u8 128) fun t5 =>
 Q t5 M0

/-- gosem.cut.vars -/
def W_gosem_cut_vars (M0 : RM) (Q : PostV) : Prop :=
 buildW [(N .u8 0), (N .u8 0)] [(0, 1, (N .u8 128)), (1, 1, (N .u8 191))] fun t0 =>
 buildW [(N .u8 0), (N .u8 0)] [(0, 1, (N .u8 160)), (1, 1, (N .u8 191))] fun t1 =>
 buildW [(N .u8 0), (N .u8 0)] [(0, 1, (N .u8 128)), (1, 1, (N .u8 159))] fun t2 =>
 buildW [(N .u8 0), (N .u8 0)] [(0, 1, (N .u8 144)), (1, 1, (N .u8 191))] fun t3 =>
 buildW [(N .u8 0), (N .u8 0)] [(0, 1, (N .u8 128)), (1, 1, (N .u8 143))] fun t4 =>
 buildW [(N .u8 0), (N .u8 0), (N .u8 0), (N .u8 0), (N .u8 0), (N .u8 0), (N .u8 0), (N .u8 0), (N .u8 0), (N .u8 0), (N .u8 0), (N .u8 0), (N .u8 0), (N .u8 0), (N .u8 0), (N .u8 0), (N .u8 0), (N .u8 0), (N .u8 0), (N .u8 0), (N .u8 0), (N .u8 0), (N .u8 0), (N .u8 0), (N .u8 0), (N .u8 0), (N .u8 0), (N .u8 0), (N .u8 0), (N .u8 0), (N .u8 0), (N .u8 0)] [(0, 2, t0), (2, 2, t1), (4, 2, t2), (6, 2, t3), (8, 2, t4)] fun t5 =>
 storeW M0 .top t5 32 fun M =>
 Q (.tup []) M

end Go.Ab.Vl
