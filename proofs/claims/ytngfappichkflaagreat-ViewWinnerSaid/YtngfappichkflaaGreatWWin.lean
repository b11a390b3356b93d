/- Functions of the program as predicates (printed by a program of ours). By an AI agent. -/
import Derived.Test.YtngfappichkflaaGreatR9
set_option linter.unusedVariables false
set_option linter.unusedSimpArgs false
namespace Go.Ab.Win
open Go Go.Ab

/-- rolodex/rolodexlaw15.ViewWinner -/
def W_rolodex_rolodexlaw15_ViewWinner (c_rolodex_rolodexlaw15_awake : CallT) (T_api_Entry : Nat) (c_rolodex_view_Winner : CallT) (c_rolodex_rolodexref13_Less : CallT) (a0 : AV) (M0 : RM) (Q : PostV) : Prop :=
 c_rolodex_rolodexlaw15_awake [] M0 fun t7 M =>
 notW t7 fun t8 =>
 condW t8 (
 Q (Bo false) M) (
 rowsW T_api_Entry 0 [(N .i64 0), (N .u64 0), (St []), (St []), (St [])] [] fun r f =>
 newW r f M fun t10 M_0 =>
 appW T_api_Entry 5 64 [(N .i64 0), (N .u64 0), (St []), (St []), (St [])] false t10 a0 M_0 fun t12 M_1 =>
 c_rolodex_view_Winner [t12] M_1 fun t13 M_2 =>
 extW t13 0 fun t14 =>
 extW t13 1 fun t15 =>
 newW (.row [(N .i64 0), (N .u64 0), (St []), (St []), (St [])] false T_api_Entry 0) (fun b => .ptr b 0) M_2 fun t3 M_3 =>
 storeW M_3 t3 t14 5 fun M_4 =>
 lenW a0 fun t17 =>
 intW .eql t17 (N .i64 0) fun t18 =>
 condW t18 (
 notW t15 fun t20 =>
 guardM t20 true (fun k => loadN M_4 t3 5 fun t22 =>
 k t22 M_4) (fun k => k .undef M_4) fun t22_5 M_6 =>
 guardM t20 true (fun k_7 => buildW [(N .i64 0), (N .u64 0), (St []), (St []), (St [])] [] fun t23 =>
 k_7 t23 M_6) (fun k => k .undef M_6) fun t23_8 M_9 =>
 guardM t20 true (fun k_10 => aggEqW false [1, 1, 2, 2, 2] t22_5 t23_8 fun t24 =>
 k_10 t24 M_9) (fun k => k .undef M_9) fun t24_11 M_12 =>
 pickW t20 t24_11 (Bo false) fun t25 =>
 Q t25 M_12) (
 loopW (fun next xs M_13 => -- [5, 6]
 lenW a0 fun t28 =>
 intW .lss (nthD xs 1) t28 fun t29 =>
 condW t29 (
 joinW (fun J =>
 fldW t3 0 fun t32 =>
 loadN M_13 t32 2 fun t33 =>
 idxS a0 (nthD xs 1) 5 fun t36 =>
 fldW t36 0 fun t37 =>
 loadN M_13 t37 2 fun t38 =>
 c_rolodex_rolodexref13_Less [t33, t38] M_13 fun t39 M_14 =>
 condW t39 (
 Q (Bo false) M_14) (
 intW .lss (nthD xs 0) (N .i64 0) fun t41 =>
 guardK t41 true (fun k_15 => k_15 a0 M_14 none) (fun k => k .undef M_14 none) fun t43 M_16 b =>
 guardK t41 true (fun k_17 => k_17 (nthD xs 1) M_16 none) (fun k => k .undef M_16 none) fun t44 M_18 b_19 =>
 guardK t41 true (fun k_20 => idxS t43 t44 5 fun t45 =>
 k_20 t45 M_18 none) (fun k => k .undef M_18 none) fun t45_21 M_22 b_23 =>
 guardK t41 true (fun k_24 => fldW t45_21 0 fun t46 =>
 k_24 t46 M_22 none) (fun k => k .undef M_22 none) fun t46_25 M_26 b_27 =>
 guardK t41 true (fun k_28 => loadN M_26 t46_25 2 fun t47 =>
 k_28 t47 M_26 none) (fun k => k .undef M_26 none) fun t47_29 M_30 b_31 =>
 guardK t41 true (fun k_32 => fldW t3 0 fun t48 =>
 k_32 t48 M_30 none) (fun k => k .undef M_30 none) fun t48_33 M_34 b_35 =>
 guardK t41 true (fun k_36 => loadN M_34 t48_33 2 fun t49 =>
 k_36 t49 M_34 none) (fun k => k .undef M_34 none) fun t49_37 M_38 b_39 =>
 guardK t41 true (fun k_40 => aggEqW false [1, 1] t47_29 t49_37 fun t50 =>
 k_40 t50 M_38 none) (fun k => k .undef M_38 none) fun t50_41 M_42 b_43 =>
 pickW t41 t50_41 (Bo false) fun t51 =>
 condW t51 (
 J [(nthD xs 1)] M_42) (
 J [(nthD xs 0)] M_42))) (fun xs_44 M_45 => -- [5]
 intW .add (nthD xs 1) (N .i64 1) fun t31 =>
 next [(nthD xs_44 0), t31] M_45)) (
 guardK t15 true (fun k_46 => k_46 (nthD xs 0) M_13 none) (fun k => k .undef M_13 none) fun t55 M_47 b_48 =>
 guardK t15 true (fun k_49 => intW .geq t55 (N .i64 0) fun t56 =>
 k_49 t56 M_47 none) (fun k => k .undef M_47 none) fun t56_50 M_51 b_52 =>
 pickW t15 t56_50 (Bo false) fun t57 =>
 guardK t57 true (fun k_53 => k_53 a0 M_51 none) (fun k => k .undef M_51 none) fun t59 M_54 b_55 =>
 guardK t57 true (fun k_56 => k_56 (nthD xs 0) M_54 none) (fun k => k .undef M_54 none) fun t60 M_57 b_58 =>
 guardK t57 true (fun k_59 => idxS t59 t60 5 fun t61 =>
 k_59 t61 M_57 none) (fun k => k .undef M_57 none) fun t61_60 M_61 b_62 =>
 guardK t57 true (fun k_63 => loadN M_61 t61_60 5 fun t62 =>
 k_63 t62 M_61 none) (fun k => k .undef M_61 none) fun t62_64 M_65 b_66 =>
 guardK t57 true (fun k_67 => loadN M_65 t3 5 fun t63 =>
 k_67 t63 M_65 none) (fun k => k .undef M_65 none) fun t63_68 M_69 b_70 =>
 guardK t57 true (fun k_71 => aggEqW false [1, 1, 2, 2, 2] t62_64 t63_68 fun t64 =>
 k_71 t64 M_69 none) (fun k => k .undef M_69 none) fun t64_72 M_73 b_74 =>
 pickW t57 t64_72 (Bo false) fun t65 =>
 Q t65 M_73)) [(N .i64 (-1)), (N .i64 0)] M_4))

/-- rolodex/view.Winner -/
def W_rolodex_view_Winner (T_api_Entry : Nat) (c_rolodex_dot_Less : CallT) (a0 : AV) (M0 : RM) (Q : PostV) : Prop :=
 newW (.row [(N .i64 0), (N .u64 0), (St []), (St []), (St [])] false T_api_Entry 0) (fun b => .ptr b 0) M0 fun t2 M =>
 lenW a0 fun t8 =>
 intW .eql t8 (N .i64 0) fun t9 =>
 condW t9 (
 buildW [(N .i64 0), (N .u64 0), (St []), (St []), (St [])] [] fun t10 =>
 storeW M t2 t10 5 fun M_0 =>
 loadN M_0 t2 5 fun res =>
 Q (.tup [res, (Bo false)]) M_0) (
 idxS a0 (N .i64 0) 5 fun t12 =>
 loadN M t12 5 fun t13 =>
 newW (.row [(N .i64 0), (N .u64 0), (St []), (St []), (St [])] false T_api_Entry 0) (fun b => .ptr b 0) M fun t4 M_1 =>
 storeW M_1 t4 t13 5 fun M_2 =>
 lenW a0 fun t15 =>
 loopW (fun next xs M_3 => -- [16]
 intW .lss (nthD xs 0) t15 fun t17 =>
 condW t17 (
 joinW (fun J =>
 idxS a0 (nthD xs 0) 5 fun t18 =>
 loadN M_3 t18 5 fun t19 =>
 newW (.row [(N .i64 0), (N .u64 0), (St []), (St []), (St [])] false T_api_Entry 0) (fun b => .ptr b 0) M_3 fun t6 M_4 =>
 storeW M_4 t6 t19 5 fun M_5 =>
 fldW t4 0 fun t20 =>
 loadN M_5 t20 2 fun t21 =>
 fldW t6 0 fun t22 =>
 loadN M_5 t22 2 fun t23 =>
 c_rolodex_dot_Less [t21, t23] M_5 fun t24 M_6 =>
 condW t24 (
 loadN M_6 t6 5 fun t25 =>
 storeW M_6 t4 t25 5 fun M_7 =>
 J [] M_7) (
 J [] M_6)) (fun xs_8 M_9 => -- []
 intW .add (nthD xs 0) (N .i64 1) fun t26 =>
 next [t26] M_9)) (
 loadN M_3 t4 5 fun t27 =>
 storeW M_3 t2 t27 5 fun M_10 =>
 loadN M_10 t2 5 fun res_11 =>
 Q (.tup [res_11, (Bo true)]) M_10)) [(N .i64 0)] M_2)

/-- rolodex/rolodexref13.Less -/
def W_rolodex_rolodexref13_Less (T_api_Dot : Nat) (a0 a1 : AV) (M0 : RM) (Q : PostV) : Prop :=
 boxW T_api_Dot a0 fun r f =>
 newW r f M0 fun t2 M =>
 boxW T_api_Dot a1 fun r_0 f_1 =>
 newW r_0 f_1 M fun t3 M_2 =>
 fldW t2 1 fun t5 =>
 load1 M_2 t5 fun t6 =>
 fldW t3 1 fun t7 =>
 load1 M_2 t7 fun t8 =>
 intW .lss t6 t8 fun t9 =>
 guardM t9 false (fun k => fldW t2 1 fun t11 =>
 k t11 M_2) (fun k => k .undef M_2) fun t11_3 M_4 =>
 guardM t9 false (fun k_5 => load1 M_4 t11_3 fun t12 =>
 k_5 t12 M_4) (fun k => k .undef M_4) fun t12_6 M_7 =>
 guardM t9 false (fun k_8 => fldW t3 1 fun t13 =>
 k_8 t13 M_7) (fun k => k .undef M_7) fun t13_9 M_10 =>
 guardM t9 false (fun k_11 => load1 M_10 t13_9 fun t14 =>
 k_11 t14 M_10) (fun k => k .undef M_10) fun t14_12 M_13 =>
 guardM t9 false (fun k_14 => intW .eql t12_6 t14_12 fun t15 =>
 k_14 t15 M_13) (fun k => k .undef M_13) fun t15_15 M_16 =>
 guardM t9 false (fun k_17 => k_17 t15_15 M_16) (fun k => k .undef M_16) fun t16 M_18 =>
 guardM t16 true (fun k_19 => fldW t2 0 fun t17 =>
 k_19 t17 M_18) (fun k => k .undef M_18) fun t17_20 M_21 =>
 guardM t16 true (fun k_22 => load1 M_21 t17_20 fun t18 =>
 k_22 t18 M_21) (fun k => k .undef M_21) fun t18_23 M_24 =>
 guardM t16 true (fun k_25 => fldW t3 0 fun t19 =>
 k_25 t19 M_24) (fun k => k .undef M_24) fun t19_26 M_27 =>
 guardM t16 true (fun k_28 => load1 M_27 t19_26 fun t20 =>
 k_28 t20 M_27) (fun k => k .undef M_27) fun t20_29 M_30 =>
 guardM t16 true (fun k_31 => intW .lss t18_23 t20_29 fun t21 =>
 k_31 t21 M_30) (fun k => k .undef M_30) fun t21_32 M_33 =>
 guardM t9 false (fun k_34 => pickW t16 t21_32 (Bo false) fun t22 =>
 k_34 t22 M_33) (fun k => k .undef M_33) fun t22_35 M_36 =>
 pickW t9 (Bo true) t22_35 fun t23 =>
 Q t23 M_36

/-- rolodex/dot.Less -/
def W_rolodex_dot_Less (T_api_Dot : Nat) (a0 a1 : AV) (M0 : RM) (Q : PostV) : Prop :=
 boxW T_api_Dot a0 fun r f =>
 newW r f M0 fun t2 M =>
 boxW T_api_Dot a1 fun r_0 f_1 =>
 newW r_0 f_1 M fun t3 M_2 =>
 fldW t2 1 fun t5 =>
 load1 M_2 t5 fun t6 =>
 fldW t3 1 fun t7 =>
 load1 M_2 t7 fun t8 =>
 intW .lss t6 t8 fun t9 =>
 guardM t9 false (fun k => fldW t2 1 fun t11 =>
 k t11 M_2) (fun k => k .undef M_2) fun t11_3 M_4 =>
 guardM t9 false (fun k_5 => load1 M_4 t11_3 fun t12 =>
 k_5 t12 M_4) (fun k => k .undef M_4) fun t12_6 M_7 =>
 guardM t9 false (fun k_8 => fldW t3 1 fun t13 =>
 k_8 t13 M_7) (fun k => k .undef M_7) fun t13_9 M_10 =>
 guardM t9 false (fun k_11 => load1 M_10 t13_9 fun t14 =>
 k_11 t14 M_10) (fun k => k .undef M_10) fun t14_12 M_13 =>
 guardM t9 false (fun k_14 => intW .eql t12_6 t14_12 fun t15 =>
 k_14 t15 M_13) (fun k => k .undef M_13) fun t15_15 M_16 =>
 guardM t9 false (fun k_17 => k_17 t15_15 M_16) (fun k => k .undef M_16) fun t16 M_18 =>
 guardM t16 true (fun k_19 => fldW t2 0 fun t17 =>
 k_19 t17 M_18) (fun k => k .undef M_18) fun t17_20 M_21 =>
 guardM t16 true (fun k_22 => load1 M_21 t17_20 fun t18 =>
 k_22 t18 M_21) (fun k => k .undef M_21) fun t18_23 M_24 =>
 guardM t16 true (fun k_25 => fldW t3 0 fun t19 =>
 k_25 t19 M_24) (fun k => k .undef M_24) fun t19_26 M_27 =>
 guardM t16 true (fun k_28 => load1 M_27 t19_26 fun t20 =>
 k_28 t20 M_27) (fun k => k .undef M_27) fun t20_29 M_30 =>
 guardM t16 true (fun k_31 => intW .lss t18_23 t20_29 fun t21 =>
 k_31 t21 M_30) (fun k => k .undef M_30) fun t21_32 M_33 =>
 guardM t9 false (fun k_34 => pickW t16 t21_32 (Bo false) fun t22 =>
 k_34 t22 M_33) (fun k => k .undef M_33) fun t22_35 M_36 =>
 pickW t9 (Bo true) t22_35 fun t23 =>
 Q t23 M_36

end Go.Ab.Win
