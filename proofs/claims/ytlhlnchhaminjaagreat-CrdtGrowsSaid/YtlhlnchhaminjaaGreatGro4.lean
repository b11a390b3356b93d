/- Part 4 of the ground of the proofs of this seat (texts WDot to D3). By an AI agent. -/
import Derived.Test.YtlhlnchhaminjaaGreatGro3
import Derived.ChangeShapes
import Derived.OpenShut
import Derived.WideKeyArgs
import GoSem.ClaimJoined
set_option maxRecDepth 100000
set_option linter.unusedVariables false
set_option linter.unusedSimpArgs false
namespace Go.Ab.Dot
open Go Go.Ab
def W_New_2 (p1 : Nat) (M0 : RM) (Q : PostV) : Prop :=
 buildW [(N .u64 0), (.sc (.slice none 0 0)), (N .u64 0), (.sc (.slice none 0 0)), (N .u64 0), (.sc (.slice none 0 0)), (N .u64 0), (.sc (.slice none 0 0)), (N .u64 0), (.sc (.slice none 0 0)), (N .u64 0), (.sc (.slice none 0 0)), (N .u64 0), (.sc (.slice none 0 0)), (N .u64 0), (.sc (.slice none 0 0)), (N .u64 0), (.sc (.slice none 0 0)), (N .u64 0), (.sc (.slice none 0 0)), (N .u64 0), (.sc (.slice none 0 0)), (N .u64 0), (.sc (.slice none 0 0)), (N .u64 0), (.sc (.slice none 0 0)), (N .u64 0), (.sc (.slice none 0 0)), (N .u64 0), (.sc (.slice none 0 0)), (N .u64 0), (.sc (.slice none 0 0))] [] fun t1 =>
 boxW p1 t1 fun r f =>
 newW r f M0 fun t2 M =>
 Q t2 M
def W_Set_Add (p1 : Nat) (p2 p3 : CallT) (a0 a1 : AV) (M0 : RM) (Q : PostV) : Prop :=
 boxW p1 a1 fun r f =>
 newW r f M0 fun t3 M =>
 loadN M t3 2 fun t6 =>
 p2 [t6] M fun t7 M_0 =>
 notW t7 fun t8 =>
 condW t8 (
 Q (N .i64 1) M_0) (
 fldW t3 0 fun t11 =>
 load1 M_0 t11 fun t12 =>
 ptrW a0 fun t13 =>
 fldW t13 0 fun t14 =>
 idxA t14 t12 16 2 fun t15 =>
 fldW t3 1 fun t16 =>
 load1 M_0 t16 fun t17 =>
 p3 [t15, t17] M_0 fun t18 M_1 =>
 notW t18 fun t19 =>
 condW t19 (
 Q (N .i64 2) M_1) (
 Q (N .i64 0) M_1))
def W_Good_2 (p1 : Nat) (a0 : AV) (M0 : RM) (Q : PostV) : Prop :=
 boxW p1 a0 fun r f =>
 newW r f M0 fun t1 M =>
 fldW t1 0 fun t3 =>
 load1 M t3 fun t4 =>
 intW .geq t4 (N .i64 0) fun t5 =>
 guardM t5 true (fun k => fldW t1 0 fun t7 =>
 k t7 M) (fun k => k .undef M) fun t7_0 M_1 =>
 guardM t5 true (fun k_2 => load1 M_1 t7_0 fun t8 =>
 k_2 t8 M_1) (fun k => k .undef M_1) fun t8_3 M_4 =>
 guardM t5 true (fun k_5 => intW .lss t8_3 (N .i64 16) fun t9 =>
 k_5 t9 M_4) (fun k => k .undef M_4) fun t9_6 M_7 =>
 pickW t5 t9_6 (Bo false) fun t10 =>
 guardM t10 true (fun k_8 => fldW t1 1 fun t12 =>
 k_8 t12 M_7) (fun k => k .undef M_7) fun t12_9 M_10 =>
 guardM t10 true (fun k_11 => load1 M_10 t12_9 fun t13 =>
 k_11 t13 M_10) (fun k => k .undef M_10) fun t13_12 M_13 =>
 guardM t10 true (fun k_14 => intW .geq t13_12 (N .u64 1) fun t14 =>
 k_14 t14 M_13) (fun k => k .undef M_13) fun t14_15 M_16 =>
 pickW t10 t14_15 (Bo false) fun t15 =>
 guardM t15 true (fun k_17 => fldW t1 1 fun t17 =>
 k_17 t17 M_16) (fun k => k .undef M_16) fun t17_18 M_19 =>
 guardM t15 true (fun k_20 => load1 M_19 t17_18 fun t18 =>
 k_20 t18 M_19) (fun k => k .undef M_19) fun t18_21 M_22 =>
 guardM t15 true (fun k_23 => intW .leq t18_21 (N .u64 1099511627776) fun t19 =>
 k_23 t19 M_22) (fun k => k .undef M_22) fun t19_24 M_25 =>
 pickW t15 t19_24 (Bo false) fun t20 =>
 Q t20 M_25
def W_Good_3 (p1 : Nat) (a0 : AV) (M0 : RM) (Q : PostV) : Prop :=
 boxW p1 a0 fun r f =>
 newW r f M0 fun t1 M =>
 fldW t1 0 fun t3 =>
 load1 M t3 fun t4 =>
 intW .geq t4 (N .i64 0) fun t5 =>
 guardM t5 true (fun k => fldW t1 0 fun t7 =>
 k t7 M) (fun k => k .undef M) fun t7_0 M_1 =>
 guardM t5 true (fun k_2 => load1 M_1 t7_0 fun t8 =>
 k_2 t8 M_1) (fun k => k .undef M_1) fun t8_3 M_4 =>
 guardM t5 true (fun k_5 => intW .lss t8_3 (N .i64 16) fun t9 =>
 k_5 t9 M_4) (fun k => k .undef M_4) fun t9_6 M_7 =>
 pickW t5 t9_6 (Bo false) fun t10 =>
 guardM t10 true (fun k_8 => fldW t1 1 fun t12 =>
 k_8 t12 M_7) (fun k => k .undef M_7) fun t12_9 M_10 =>
 guardM t10 true (fun k_11 => load1 M_10 t12_9 fun t13 =>
 k_11 t13 M_10) (fun k => k .undef M_10) fun t13_12 M_13 =>
 guardM t10 true (fun k_14 => intW .geq t13_12 (N .u64 1) fun t14 =>
 k_14 t14 M_13) (fun k => k .undef M_13) fun t14_15 M_16 =>
 pickW t10 t14_15 (Bo false) fun t15 =>
 guardM t15 true (fun k_17 => fldW t1 1 fun t17 =>
 k_17 t17 M_16) (fun k => k .undef M_16) fun t17_18 M_19 =>
 guardM t15 true (fun k_20 => load1 M_19 t17_18 fun t18 =>
 k_20 t18 M_19) (fun k => k .undef M_19) fun t18_21 M_22 =>
 guardM t15 true (fun k_23 => intW .leq t18_21 (N .u64 1099511627776) fun t19 =>
 k_23 t19 M_22) (fun k => k .undef M_22) fun t19_24 M_25 =>
 pickW t15 t19_24 (Bo false) fun t20 =>
 Q t20 M_25
def W_Set_Copy (p1 p2 : CallT) (a0 : AV) (M0 : RM) (Q : PostV) : Prop :=
 p1 [] M0 fun t4 M =>
 p2 [t4, a0] M fun t7 M_0 =>
 Q t4 M_0
def W_Set_Has (p1 : Nat) (p2 p3 : CallT) (a0 a1 : AV) (M0 : RM) (Q : PostV) : Prop :=
 boxW p1 a1 fun r f =>
 newW r f M0 fun t3 M =>
 loadN M t3 2 fun t5 =>
 p2 [t5] M fun t6 M_0 =>
 guardK t6 true (fun k => k a0 M_0 none) (fun k => k .undef M_0 none) fun t8 M_1 b =>
 guardK t6 true (fun k_2 => fldW t3 0 fun t9 =>
 k_2 t9 M_1 none) (fun k => k .undef M_1 none) fun t9_3 M_4 b_5 =>
 guardK t6 true (fun k_6 => load1 M_4 t9_3 fun t10 =>
 k_6 t10 M_4 none) (fun k => k .undef M_4 none) fun t10_7 M_8 b_9 =>
 guardK t6 true (fun k_10 => ptrW t8 fun t11 =>
 k_10 t11 M_8 none) (fun k => k .undef M_8 none) fun t11_11 M_12 b_13 =>
 guardK t6 true (fun k_14 => fldW t11_11 0 fun t12 =>
 k_14 t12 M_12 none) (fun k => k .undef M_12 none) fun t12_15 M_16 b_17 =>
 guardK t6 true (fun k_18 => idxA t12_15 t10_7 16 2 fun t13 =>
 k_18 t13 M_16 none) (fun k => k .undef M_16 none) fun t13_19 M_20 b_21 =>
 guardK t6 true (fun k_22 => fldW t3 1 fun t14 =>
 k_22 t14 M_20 none) (fun k => k .undef M_20 none) fun t14_23 M_24 b_25 =>
 guardK t6 true (fun k_26 => load1 M_24 t14_23 fun t15 =>
 k_26 t15 M_24 none) (fun k => k .undef M_24 none) fun t15_27 M_28 b_29 =>
 guardM t6 true (fun k_30 => p3 [t13_19, t15_27] M_28 fun t16 M_31 =>
 k_30 t16 M_31) (fun k => k .undef M_28) fun t16_32 M_33 =>
 pickW t6 t16_32 (Bo false) fun t17 =>
 Q t17 M_33
def W_Set_Join (p1 p2 : Nat) (p3 p4 p5 p6 : CallT) (a0 a1 : AV) (M0 : RM) (Q : PostV) : Prop :=
 loopW (fun next xs M =>
 intW .lss (nthD xs 0) (N .i64 16) fun t8 =>
 condW t8 (
 ptrW a0 fun t12 =>
 fldW t12 0 fun t13 =>
 idxA t13 (nthD xs 0) 16 2 fun t14 =>
 ptrW a1 fun t17 =>
 fldW t17 0 fun t18 =>
 idxA t18 (nthD xs 0) 16 2 fun t19 =>
 loadN M t19 2 fun t20 =>
 newR (.row [(N .u64 0), (.sc (.slice none 0 0))] false p1 0) (fun b => .ptr b 0) M fun t6 M_0 b =>
 storeW M_0 t6 t20 2 fun M_1 =>
 ptrW t14 fun t23 =>
 fldW t23 0 fun t24 =>
 load1 M_1 t24 fun t25 =>
 fldW t6 0 fun t26 =>
 load1 M_1 t26 fun t27 =>
 minW true t25 t27 fun t28 =>
 ptrW t14 fun t29 =>
 fldW t29 0 fun t30 =>
 storeW M_1 t30 t28 1 fun M_2 =>
 ptrW t14 fun t33 =>
 fldW t33 1 fun t34 =>
 load1 M_2 t34 fun t35 =>
 fldW t6 1 fun t36 =>
 load1 M_2 t36 fun t37 =>
 rowsW p2 2 [(.sc (.slice none 0 0))] [(0, 1, t35), (1, 1, t37)] fun r f =>
 newR r f M_2 fun t38 M_3 b_4 =>
 p3 [t38] M_3 fun t39 M_5 =>
 ptrW t14 fun t40 =>
 fldW t40 1 fun t41 =>
 storeW M_5 t41 t39 1 fun M_6 =>
 ptrW t14 fun t43 =>
 fldW t43 1 fun t44 =>
 load1 M_6 t44 fun t45 =>
 p4 [t45] M_6 fun t46 M_7 =>
 ptrW t14 fun t49 =>
 fldW t49 1 fun t50 =>
 load1 M_7 t50 fun t51 =>
 p5 [t51] M_7 fun t52 M_8 =>
 ptrW t14 fun t53 =>
 fldW t53 1 fun t54 =>
 storeW M_8 t54 t52 1 fun M_9 =>
 p6 [t14] M_9 fun t56 M_10 =>
 intW .add (nthD xs 0) (N .i64 1) fun t57 =>
 next [t57] M_10) (
 Q (.tup []) M)) [(N .i64 0)] M0
def W_Set_Within (p1 : Nat) (p2 : CallT) (a0 a1 : AV) (M0 : RM) (Q : PostV) : Prop :=
 ptrW a0 fun t11 =>
 fldW t11 0 fun t12 =>
 loadN M0 t12 32 fun t13 =>
 loopW (fun next xs M =>
 intW .lss (nthD xs 0) (N .i64 16) fun t15 =>
 condW t15 (
 idxPN t13 (nthD xs 0) 16 2 fun t17 =>
 newW (.row [(N .u64 0), (.sc (.slice none 0 0))] false p1 0) (fun b => .ptr b 0) M fun t6 M_0 =>
 storeW M_0 t6 t17 2 fun M_1 =>
 ptrW a1 fun t20 =>
 fldW t20 0 fun t21 =>
 idxA t21 (nthD xs 0) 16 2 fun t22 =>
 fldW t6 0 fun t23 =>
 load1 M_1 t23 fun t24 =>
 ptrW t22 fun t26 =>
 fldW t26 0 fun t27 =>
 load1 M_1 t27 fun t28 =>
 intW .gtr t24 t28 fun t29 =>
 condW t29 (
 Q (Bo false) M_1) (
 fldW t6 1 fun t30 =>
 load1 M_1 t30 fun t31 =>
 lenW t31 fun t32 =>
 loopW (fun next_2 xs_3 M_4 =>
 intW .lss (nthD xs_3 0) t32 fun t34 =>
 condW t34 (
 idxS t31 (nthD xs_3 0) 1 fun t35 =>
 load1 M_4 t35 fun t36 =>
 p2 [t22, t36] M_4 fun t39 M_5 =>
 notW t39 fun t40 =>
 condW t40 (
 Q (Bo false) M_5) (
 intW .add (nthD xs_3 0) (N .i64 1) fun t41 =>
 next_2 [t41] M_5)) (
 intW .add (nthD xs 0) (N .i64 1) fun t42 =>
 next [t42] M_4)) [(N .i64 0)] M_1)) (
 Q (Bo true) M)) [(N .i64 0)] M0
def W_Less (p1 : Nat) (a0 a1 : AV) (M0 : RM) (Q : PostV) : Prop :=
 boxW p1 a0 fun r f =>
 newW r f M0 fun t2 M =>
 boxW p1 a1 fun r_0 f_1 =>
 newW r_0 f_1 M fun t3 M_2 =>
 fldW t2 1 fun t5 =>
 load1 M_2 t5 fun t6 =>
 fldW t3 1 fun t7 =>
 load1 M_2 t7 fun t8 =>
 intW .lss t6 t8 fun t9 =>
 guardM t9 false (fun k => fldW t2 1 fun t11 =>
 k t11 M_2) (fun k => k .undef M_2) fun t11_3 M_4 =>
 guardM t9 false (fun k_5 => load1 M_4 t11_3 fun t12 =>
 k_5 t12 M_4) (fun k => k .undef M_4) fun t12_6 M_7 =>
 guardM t9 false (fun k_8 => fldW t3 1 fun t13 =>
 k_8 t13 M_7) (fun k => k .undef M_7) fun t13_9 M_10 =>
 guardM t9 false (fun k_11 => load1 M_10 t13_9 fun t14 =>
 k_11 t14 M_10) (fun k => k .undef M_10) fun t14_12 M_13 =>
 guardM t9 false (fun k_14 => intW .eql t12_6 t14_12 fun t15 =>
 k_14 t15 M_13) (fun k => k .undef M_13) fun t15_15 M_16 =>
 guardM t9 false (fun k_17 => k_17 t15_15 M_16) (fun k => k .undef M_16) fun t16 M_18 =>
 guardM t16 true (fun k_19 => fldW t2 0 fun t17 =>
 k_19 t17 M_18) (fun k => k .undef M_18) fun t17_20 M_21 =>
 guardM t16 true (fun k_22 => load1 M_21 t17_20 fun t18 =>
 k_22 t18 M_21) (fun k => k .undef M_21) fun t18_23 M_24 =>
 guardM t16 true (fun k_25 => fldW t3 0 fun t19 =>
 k_25 t19 M_24) (fun k => k .undef M_24) fun t19_26 M_27 =>
 guardM t16 true (fun k_28 => load1 M_27 t19_26 fun t20 =>
 k_28 t20 M_27) (fun k => k .undef M_27) fun t20_29 M_30 =>
 guardM t16 true (fun k_31 => intW .lss t18_23 t20_29 fun t21 =>
 k_31 t21 M_30) (fun k => k .undef M_30) fun t21_32 M_33 =>
 guardM t9 false (fun k_34 => pickW t16 t21_32 (Bo false) fun t22 =>
 k_34 t22 M_33) (fun k => k .undef M_33) fun t22_35 M_36 =>
 pickW t9 (Bo true) t22_35 fun t23 =>
 Q t23 M_36
def W_Less_2 (p1 : Nat) (a0 a1 : AV) (M0 : RM) (Q : PostV) : Prop :=
 boxW p1 a0 fun r f =>
 newW r f M0 fun t2 M =>
 boxW p1 a1 fun r_0 f_1 =>
 newW r_0 f_1 M fun t3 M_2 =>
 fldW t2 1 fun t5 =>
 load1 M_2 t5 fun t6 =>
 fldW t3 1 fun t7 =>
 load1 M_2 t7 fun t8 =>
 intW .lss t6 t8 fun t9 =>
 guardM t9 false (fun k => fldW t2 1 fun t11 =>
 k t11 M_2) (fun k => k .undef M_2) fun t11_3 M_4 =>
 guardM t9 false (fun k_5 => load1 M_4 t11_3 fun t12 =>
 k_5 t12 M_4) (fun k => k .undef M_4) fun t12_6 M_7 =>
 guardM t9 false (fun k_8 => fldW t3 1 fun t13 =>
 k_8 t13 M_7) (fun k => k .undef M_7) fun t13_9 M_10 =>
 guardM t9 false (fun k_11 => load1 M_10 t13_9 fun t14 =>
 k_11 t14 M_10) (fun k => k .undef M_10) fun t14_12 M_13 =>
 guardM t9 false (fun k_14 => intW .eql t12_6 t14_12 fun t15 =>
 k_14 t15 M_13) (fun k => k .undef M_13) fun t15_15 M_16 =>
 guardM t9 false (fun k_17 => k_17 t15_15 M_16) (fun k => k .undef M_16) fun t16 M_18 =>
 guardM t16 true (fun k_19 => fldW t2 0 fun t17 =>
 k_19 t17 M_18) (fun k => k .undef M_18) fun t17_20 M_21 =>
 guardM t16 true (fun k_22 => load1 M_21 t17_20 fun t18 =>
 k_22 t18 M_21) (fun k => k .undef M_21) fun t18_23 M_24 =>
 guardM t16 true (fun k_25 => fldW t3 0 fun t19 =>
 k_25 t19 M_24) (fun k => k .undef M_24) fun t19_26 M_27 =>
 guardM t16 true (fun k_28 => load1 M_27 t19_26 fun t20 =>
 k_28 t20 M_27) (fun k => k .undef M_27) fun t20_29 M_30 =>
 guardM t16 true (fun k_31 => intW .lss t18_23 t20_29 fun t21 =>
 k_31 t21 M_30) (fun k => k .undef M_30) fun t21_32 M_33 =>
 guardM t9 false (fun k_34 => pickW t16 t21_32 (Bo false) fun t22 =>
 k_34 t22 M_33) (fun k => k .undef M_33) fun t22_35 M_36 =>
 pickW t9 (Bo true) t22_35 fun t23 =>
 Q t23 M_36
def W_part_add (p1 : CallT) (p2 p3 : Nat) (p4 p5 p6 : CallT) (a0 a1 : AV) (M0 : RM) (Q : PostV) : Prop :=
 ptrW a0 fun t10 =>
 fldW t10 1 fun t11 =>
 load1 M0 t11 fun t12 =>
 p1 [t12, a1] M0 fun t14 M =>
 extW t14 0 fun t15 =>
 extW t14 1 fun t16 =>
 guardM t16 false (fun k => k a1 M) (fun k => k .undef M) fun t19 M_0 =>
 guardM t16 false (fun k_1 => k_1 a0 M_0) (fun k => k .undef M_0) fun t20 M_2 =>
 guardM t16 false (fun k_3 => ptrW t20 fun t21 =>
 k_3 t21 M_2) (fun k => k .undef M_2) fun t21_4 M_5 =>
 guardM t16 false (fun k_6 => fldW t21_4 0 fun t22 =>
 k_6 t22 M_5) (fun k => k .undef M_5) fun t22_7 M_8 =>
 guardM t16 false (fun k_9 => load1 M_8 t22_7 fun t23 =>
 k_9 t23 M_8) (fun k => k .undef M_8) fun t23_10 M_11 =>
 guardM t16 false (fun k_12 => intW .leq t19 t23_10 fun t24 =>
 k_12 t24 M_11) (fun k => k .undef M_11) fun t24_13 M_14 =>
 pickW t16 (Bo true) t24_13 fun t25 =>
 condW t25 (
 Q (Bo true) M_14) (
 ptrW a0 fun t27 =>
 fldW t27 0 fun t28 =>
 load1 M_14 t28 fun t29 =>
 ptrW a0 fun t31 =>
 fldW t31 1 fun t32 =>
 load1 M_14 t32 fun t33 =>
 rowsW p2 1 [(N .u64 0)] [(0, 1, a1)] fun r f =>
 newR r f M_14 fun t37 M_15 b =>
 newR (.row [(N .u64 0), (.sc (.slice none 0 0))] false p3 0) (fun b => .ptr b 0) M_15 fun t7 M_16 b_17 =>
 p4 [t33] M_16 fun t34 M_18 =>
 load1 M_18 t28 fun t29_26 =>
 (t29_26 = t29 ∧ rowsW p2 1 [(N .u64 0)] [(0, 1, a1)] fun r_24 f_25 =>
 (sameB b M_18 r_24 f_25 t37 ∧ (sameB b_17 M_18 (.row [(N .u64 0), (.sc (.slice none 0 0))] false p3 0) (fun b => .ptr b 0) t7 ∧ p5 [t34, t15, t37] M_18 fun t38 M_19 =>
 load1 M_19 t28 fun t29_23 =>
 (t29_23 = t29 ∧ (sameB b_17 M_19 (.row [(N .u64 0), (.sc (.slice none 0 0))] false p3 0) (fun b => .ptr b 0) t7 ∧ buildW [(N .u64 0), (.sc (.slice none 0 0))] [(0, 1, t29), (1, 1, t38)] fun t39 =>
 storeW M_19 t7 t39 2 fun M_20 =>
 p6 [t7] M_20 fun t40 M_21 =>
 fldW t7 1 fun t41 =>
 load1 M_21 t41 fun t42 =>
 lenW t42 fun t43 =>
 intW .gtr t43 (N .i64 4096) fun t44 =>
 condW t44 (
 Q (Bo false) M_21) (
 loadN M_21 t7 2 fun t46 =>
 ptrW a0 fun t47 =>
 storeW M_21 t47 t46 2 fun M_22 =>
 Q (Bo true) M_22)))))))
def W_Clone_uint64 (p1 : Nat) (a0 : AV) (M0 : RM) (Q : PostV) : Prop :=
 refEqW false 2 a0 (.sc (.slice none 0 0)) fun t4 =>
 condW t4 (
 Q (.sc (.slice none 0 0)) M0) (
 rowsW p1 0 [(N .u64 0)] [] fun r f =>
 newW r f M0 fun t5 M =>
 appW p1 1 8 [(N .u64 0)] false t5 a0 M fun t7 M_0 =>
 Q t7 M_0)
def W_part_has (p1 : CallT) (a0 a1 : AV) (M0 : RM) (Q : PostV) : Prop :=
 ptrW a0 fun t9 =>
 fldW t9 1 fun t10 =>
 load1 M0 t10 fun t11 =>
 p1 [t11, a1] M0 fun t13 M =>
 extW t13 0 fun t14 =>
 extW t13 1 fun t15 =>
 intW .geq a1 (N .u64 1) fun t17 =>
 guardM t17 true (fun k => k a1 M) (fun k => k .undef M) fun t19 M_0 =>
 guardM t17 true (fun k_1 => k_1 a0 M_0) (fun k => k .undef M_0) fun t20 M_2 =>
 guardM t17 true (fun k_3 => ptrW t20 fun t21 =>
 k_3 t21 M_2) (fun k => k .undef M_2) fun t21_4 M_5 =>
 guardM t17 true (fun k_6 => fldW t21_4 0 fun t22 =>
 k_6 t22 M_5) (fun k => k .undef M_5) fun t22_7 M_8 =>
 guardM t17 true (fun k_9 => load1 M_8 t22_7 fun t23 =>
 k_9 t23 M_8) (fun k => k .undef M_8) fun t23_10 M_11 =>
 guardM t17 true (fun k_12 => intW .leq t19 t23_10 fun t24 =>
 k_12 t24 M_11) (fun k => k .undef M_11) fun t24_13 M_14 =>
 pickW t17 t24_13 (Bo false) fun t25 =>
 guardM t25 false (fun k_15 => k_15 t15 M_14) (fun k => k .undef M_14) fun t27 M_16 =>
 pickW t25 (Bo true) t27 fun t28 =>
 Q t28 M_16
def W_Concat_uint64 (p1 : Nat) (p2 : CallT) (p3 : Nat) (a0 : AV) (M0 : RM) (Q : PostV) : Prop :=
 lenW a0 fun t10 =>
 loopW (fun next xs M =>
 intW .lss (nthD xs 1) t10 fun t12 =>
 condW t12 (
 joinW (fun J =>
 idxS a0 (nthD xs 1) 1 fun t13 =>
 load1 M t13 fun t14 =>
 lenW t14 fun t17 =>
 intW .add (nthD xs 0) t17 fun t18 =>
 intW .lss t18 (N .i64 0) fun t20 =>
 condW t20 (
 False) (
 J [t18] M)) (fun xs_0 M_1 =>
 intW .add (nthD xs 1) (N .i64 1) fun t22 =>
 next [(nthD xs_0 0), t22] M_1)) (
 p2 [(.sc (.slice none 0 0)), (nthD xs 0)] M fun t24 M_2 =>
 lenW a0 fun t26 =>
 loopW (fun next_3 xs_4 M_5 =>
 intW .lss (nthD xs_4 1) t26 fun t28 =>
 condW t28 (
 idxS a0 (nthD xs_4 1) 1 fun t29 =>
 load1 M_5 t29 fun t30 =>
 appW p3 1 8 [(N .u64 0)] false (nthD xs_4 0) t30 M_5 fun t33 M_6 =>
 intW .add (nthD xs_4 1) (N .i64 1) fun t34 =>
 next_3 [t33, t34] M_6) (
 Q (nthD xs_4 0) M_5)) [t24, (N .i64 0)] M_2)) [(N .i64 0), (N .i64 0)] M0
def W_Sort_uint64 (p1 p2 : CallT) (a0 : AV) (M0 : RM) (Q : PostV) : Prop :=
 lenW a0 fun t4 =>
 cvtW .u64 t4 fun t8 =>
 p1 [t8] M0 fun t9 M =>
 p2 [a0, (N .i64 0), t4, t9] M fun t10 M_0 =>
 Q (.tup []) M_0
def W_Compact_uint64 (a0 : AV) (M0 : RM) (Q : PostV) : Prop :=
 lenW a0 fun t7 =>
 intW .lss t7 (N .i64 2) fun t8 =>
 condW t8 (
 Q a0 M0) (
 loopW (fun next xs M =>
 lenW a0 fun t12 =>
 intW .lss (nthD xs 0) t12 fun t13 =>
 condW t13 (
 idxS a0 (nthD xs 0) 1 fun t18 =>
 load1 M t18 fun t19 =>
 intW .sub (nthD xs 0) (N .i64 1) fun t22 =>
 idxS a0 t22 1 fun t23 =>
 load1 M t23 fun t24 =>
 intW .eql t19 t24 fun t25 =>
 condW t25 (
 getW (subS 1 a0 (some (nthD xs 0)) none none) fun t28 =>
 loopW (fun next_0 xs_1 M_2 =>
 lenW t28 fun t31 =>
 intW .lss (nthD xs_1 1) t31 fun t32 =>
 condW t32 (
 joinW (fun J =>
 idxS t28 (nthD xs_1 1) 1 fun t37 =>
 load1 M_2 t37 fun t38 =>
 intW .sub (nthD xs_1 1) (N .i64 1) fun t41 =>
 idxS t28 t41 1 fun t42 =>
 load1 M_2 t42 fun t43 =>
 intW .neq t38 t43 fun t44 =>
 condW t44 (
 idxS t28 (nthD xs_1 1) 1 fun t49 =>
 load1 M_2 t49 fun t50 =>
 idxS a0 (nthD xs_1 0) 1 fun t51 =>
 storeW M_2 t51 t50 1 fun M_3 =>
 intW .add (nthD xs_1 0) (N .i64 1) fun t53 =>
 J [t53] M_3) (
 J [(nthD xs_1 0)] M_2)) (fun xs_4 M_5 =>
 intW .add (nthD xs_1 1) (N .i64 1) fun t34 =>
 next_0 [(nthD xs_4 0), t34] M_5)) (
 getW (subS 1 a0 (some (nthD xs_1 0)) none none) fun t56 =>
 clearW [(N .u64 0)] t56 M_2 fun u M_6 =>
 getW (subS 1 a0 none (some (nthD xs_1 0)) none) fun t59 =>
 Q t59 M_6)) [(nthD xs 0), (N .i64 1)] M) (
 intW .add (nthD xs 0) (N .i64 1) fun t15 =>
 next [t15] M)) (
 Q a0 M)) [(N .i64 1)] M0)
def W_part_settled (a0 : AV) (M0 : RM) (Q : PostV) : Prop :=
 loopW (fun next xs M =>
 ptrW a0 fun t5 =>
 fldW t5 1 fun t6 =>
 load1 M t6 fun t7 =>
 lenW t7 fun t8 =>
 intW .lss (nthD xs 0) t8 fun t9 =>
 guardK t9 true (fun k => k a0 M none) (fun k => k .undef M none) fun t11 M_0 b =>
 guardK t9 true (fun k_1 => ptrW t11 fun t12 =>
 k_1 t12 M_0 none) (fun k => k .undef M_0 none) fun t12_2 M_3 b_4 =>
 guardK t9 true (fun k_5 => fldW t12_2 1 fun t13 =>
 k_5 t13 M_3 none) (fun k => k .undef M_3 none) fun t13_6 M_7 b_8 =>
 guardK t9 true (fun k_9 => load1 M_7 t13_6 fun t14 =>
 k_9 t14 M_7 none) (fun k => k .undef M_7 none) fun t14_10 M_11 b_12 =>
 guardK t9 true (fun k_13 => k_13 (nthD xs 0) M_11 none) (fun k => k .undef M_11 none) fun t15 M_14 b_15 =>
 guardK t9 true (fun k_16 => idxS t14_10 t15 1 fun t16 =>
 k_16 t16 M_14 none) (fun k => k .undef M_14 none) fun t16_17 M_18 b_19 =>
 guardK t9 true (fun k_20 => load1 M_18 t16_17 fun t17 =>
 k_20 t17 M_18 none) (fun k => k .undef M_18 none) fun t17_21 M_22 b_23 =>
 guardK t9 true (fun k_24 => k_24 a0 M_22 none) (fun k => k .undef M_22 none) fun t18 M_25 b_26 =>
 guardK t9 true (fun k_27 => ptrW t18 fun t19 =>
 k_27 t19 M_25 none) (fun k => k .undef M_25 none) fun t19_28 M_29 b_30 =>
 guardK t9 true (fun k_31 => fldW t19_28 0 fun t20 =>
 k_31 t20 M_29 none) (fun k => k .undef M_29 none) fun t20_32 M_33 b_34 =>
 guardK t9 true (fun k_35 => load1 M_33 t20_32 fun t21 =>
 k_35 t21 M_33 none) (fun k => k .undef M_33 none) fun t21_36 M_37 b_38 =>
 guardK t9 true (fun k_39 => intW .add t21_36 (N .u64 1) fun t22 =>
 k_39 t22 M_37 none) (fun k => k .undef M_37 none) fun t22_40 M_41 b_42 =>
 guardK t9 true (fun k_43 => intW .leq t17_21 t22_40 fun t23 =>
 k_43 t23 M_41 none) (fun k => k .undef M_41 none) fun t23_44 M_45 b_46 =>
 pickW t9 t23_44 (Bo false) fun t24 =>
 condW t24 (
 ptrW a0 fun t27 =>
 fldW t27 0 fun t28 =>
 load1 M_45 t28 fun t29 =>
 ptrW a0 fun t31 =>
 fldW t31 1 fun t32 =>
 load1 M_45 t32 fun t33 =>
 idxS t33 (nthD xs 0) 1 fun t35 =>
 load1 M_45 t35 fun t36 =>
 minW true t29 t36 fun t37 =>
 ptrW a0 fun t38 =>
 fldW t38 0 fun t39 =>
 storeW M_45 t39 t37 1 fun M_47 =>
 intW .add (nthD xs 0) (N .i64 1) fun t41 =>
 next [t41] M_47) (
 ptrW a0 fun t44 =>
 fldW t44 1 fun t45 =>
 load1 M_45 t45 fun t46 =>
 getW (subS 1 t46 (some (nthD xs 0)) none none) fun t48 =>
 ptrW a0 fun t49 =>
 fldW t49 1 fun t50 =>
 storeW M_45 t50 t48 1 fun M_48 =>
 Q (.tup []) M_48)) [(N .i64 0)] M0
def W_BinarySearch_uint64 (p1 p2 : CallT) (a0 a1 : AV) (M0 : RM) (Q : PostV) : Prop :=
 lenW a0 fun t11 =>
 loopW (fun next xs M =>
 intW .lss (nthD xs 0) (nthD xs 1) fun t15 =>
 condW t15 (
 intW .add (nthD xs 0) (nthD xs 1) fun t18 =>
 cvtW .u64 t18 fun t19 =>
 shW .shr t19 (N .u64 1) fun t20 =>
 cvtW .i64 t20 fun t21 =>
 idxS a0 t21 1 fun t24 =>
 load1 M t24 fun t25 =>
 p1 [t25, a1] M fun t27 M_0 =>
 condW t27 (
 intW .add t21 (N .i64 1) fun t29 =>
 next [t29, (nthD xs 1)] M_0) (
 next [(nthD xs 0), t21] M_0)) (
 intW .lss (nthD xs 0) t11 fun t34 =>
 guardM t34 true (fun k => k a0 M) (fun k => k .undef M) fun t36 M_1 =>
 guardM t34 true (fun k_2 => k_2 (nthD xs 0) M_1) (fun k => k .undef M_1) fun t37 M_3 =>
 guardM t34 true (fun k_4 => idxS t36 t37 1 fun t38 =>
 k_4 t38 M_3) (fun k => k .undef M_3) fun t38_5 M_6 =>
 guardM t34 true (fun k_7 => load1 M_6 t38_5 fun t39 =>
 k_7 t39 M_6) (fun k => k .undef M_6) fun t39_8 M_9 =>
 guardM t34 true (fun k_10 => k_10 a1 M_9) (fun k => k .undef M_9) fun t40 M_11 =>
 guardM t34 true (fun k_12 => intW .eql t39_8 t40 fun t41 =>
 k_12 t41 M_11) (fun k => k .undef M_11) fun t41_13 M_14 =>
 guardM t34 true (fun k_15 => k_15 t41_13 M_14) (fun k => k .undef M_14) fun t42 M_16 =>
 guardM t42 false (fun k_17 => k_17 a0 M_16) (fun k => k .undef M_16) fun t43 M_18 =>
 guardM t42 false (fun k_19 => k_19 (nthD xs 0) M_18) (fun k => k .undef M_18) fun t44 M_20 =>
 guardM t42 false (fun k_21 => idxS t43 t44 1 fun t45 =>
 k_21 t45 M_20) (fun k => k .undef M_20) fun t45_22 M_23 =>
 guardM t42 false (fun k_24 => load1 M_23 t45_22 fun t46 =>
 k_24 t46 M_23) (fun k => k .undef M_23) fun t46_25 M_26 =>
 guardM t42 false (fun k_27 => p2 [t46_25] M_26 fun t47 M_28 =>
 k_27 t47 M_28) (fun k => k .undef M_26) fun t47_29 M_30 =>
 guardM t42 false (fun k_31 => k_31 t47_29 M_30) (fun k => k .undef M_30) fun t48 M_32 =>
 guardM t48 true (fun k_33 => k_33 a1 M_32) (fun k => k .undef M_32) fun t49 M_34 =>
 guardM t48 true (fun k_35 => p2 [t49] M_34 fun t50 M_36 =>
 k_35 t50 M_36) (fun k => k .undef M_34) fun t50_37 M_38 =>
 guardM t42 false (fun k_39 => pickW t48 t50_37 (Bo false) fun t51 =>
 k_39 t51 M_38) (fun k => k .undef M_38) fun t51_40 M_41 =>
 guardM t34 true (fun k_42 => pickW t42 (Bo true) t51_40 fun t52 =>
 k_42 t52 M_41) (fun k => k .undef M_41) fun t52_43 M_44 =>
 pickW t34 t52_43 (Bo false) fun t53 =>
 Q (.tup [(nthD xs 0), t53]) M_44)) [(N .i64 0), t11] M0
def W_Insert_uint64 (p1 : Nat) (p2 p3 : CallT) (a0 a1 a2 : AV) (M0 : RM) (Q : PostV) : Prop :=
 getW (subS 1 a0 (some a1) none none) fun t12 =>
 lenW a2 fun t14 =>
 intW .eql t14 (N .i64 0) fun t16 =>
 condW t16 (
 Q a0 M0) (
 lenW a0 fun t19 =>
 intW .eql a1 t19 fun t22 =>
 condW t22 (
 appW p1 1 8 [(N .u64 0)] false a0 a2 M0 fun t25 M =>
 Q t25 M) (
 intW .add t19 t14 fun t28 =>
 capW a0 fun t30 =>
 intW .gtr t28 t30 fun t31 =>
 condW t31 (
 getW (subS 1 a0 none (some a1) none) fun t34 =>
 intW .add t19 t14 fun t37 =>
 intW .sub t37 a1 fun t39 =>
 appW p1 1 8 [(N .u64 0)] true t34 t39 M0 fun t40 M_0 =>
 getW (subS 1 t40 (some a1) none none) fun t43 =>
 copyW 1 t43 a2 M_0 fun t45 M_1 =>
 intW .add a1 t14 fun t49 =>
 getW (subS 1 t40 (some t49) none none) fun t50 =>
 getW (subS 1 a0 (some a1) none none) fun t53 =>
 copyW 1 t50 t53 M_1 fun t54 M_2 =>
 Q t40 M_2) (
 intW .add t19 t14 fun t59 =>
 getW (subS 1 a0 none (some t59) none) fun t60 =>
 intW .add a1 t14 fun t65 =>
 getW (subS 1 t60 (some t65) none none) fun t66 =>
 p2 [a2, t66] M0 fun t67 M_3 =>
 notW t67 fun t68 =>
 condW t68 (
 intW .add a1 t14 fun t72 =>
 getW (subS 1 t60 (some t72) none none) fun t73 =>
 getW (subS 1 t60 (some a1) none none) fun t76 =>
 copyW 1 t73 t76 M_3 fun t77 M_4 =>
 getW (subS 1 t60 (some a1) none none) fun t80 =>
 copyW 1 t80 a2 M_4 fun t82 M_5 =>
 Q t60 M_5) (
 getW (subS 1 t60 (some t19) none none) fun t86 =>
 copyW 1 t86 a2 M_3 fun t88 M_6 =>
 getW (subS 1 t60 (some a1) none none) fun t91 =>
 p3 [t91, t14] M_6 fun t93 M_7 =>
 Q t60 M_7))))
def W_Grow_uint64 (p1 p2 : Nat) (a0 a1 : AV) (M0 : RM) (Q : PostV) : Prop :=
 joinW (fun J =>
 intW .lss a1 (N .i64 0) fun t6 =>
 condW t6 (
 False) (
 J [] M0)) (fun xs M =>
 joinW (fun J_0 =>
 capW a0 fun t10 =>
 lenW a0 fun t12 =>
 intW .sub t10 t12 fun t13 =>
 intW .sub a1 t13 fun t14 =>
 intW .gtr t14 (N .i64 0) fun t16 =>
 condW t16 (
 capW a0 fun t19 =>
 getW (subS 1 a0 none (some t19) none) fun t20 =>
 appW p2 1 8 [(N .u64 0)] true t20 t14 M fun t22 M_1 =>
 lenW a0 fun t24 =>
 getW (subS 1 t22 none (some t24) none) fun t25 =>
 J_0 [t25] M_1) (
 J_0 [a0] M)) (fun xs_2 M_3 =>
 Q (nthD xs_2 0) M_3))
def W_pdqsortOrdered_uint64 (p1 p2 p3 p4 p5 p6 p7 p8 p9 p10 : CallT) (a0 a1 a2 a3 : AV) (M0 : RM) (Q : PostV) : Prop :=
 loopW (fun next xs M =>
 intW .sub (nthD xs 1) (nthD xs 0) fun t21 =>
 intW .leq t21 (N .i64 12) fun t23 =>
 condW t23 (
 p1 [a0, (nthD xs 0), (nthD xs 1)] M fun t27 M_0 =>
 Q (.tup []) M_0) (
 intW .eql (nthD xs 2) (N .i64 0) fun t29 =>
 condW t29 (
 p2 [a0, (nthD xs 0), (nthD xs 1)] M fun t33 M_1 =>
 Q (.tup []) M_1) (
 joinW (fun J =>
 notW (nthD xs 3) fun t35 =>
 condW t35 (
 p3 [a0, (nthD xs 0), (nthD xs 1)] M fun t39 M_2 =>
 intW .sub (nthD xs 2) (N .i64 1) fun t41 =>
 J [t41] M_2) (
 J [(nthD xs 2)] M)) (fun xs_3 M_4 =>
 p4 [a0, (nthD xs 0), (nthD xs 1)] M_4 fun t46 M_5 =>
 extW t46 0 fun t47 =>
 extW t46 1 fun t48 =>
 joinW (fun J_6 =>
 intW .eql t48 (N .i64 2) fun t50 =>
 condW t50 (
 p5 [a0, (nthD xs 0), (nthD xs 1)] M_5 fun t54 M_7 =>
 intW .sub (nthD xs 1) (N .i64 1) fun t56 =>
 intW .sub t47 (nthD xs 0) fun t59 =>
 intW .sub t56 t59 fun t60 =>
 J_6 [t60, (N .i64 1)] M_7) (
 J_6 [t47, t48] M_5)) (fun xs_8 M_9 =>
 joinW (fun J_10 =>
 guardM (nthD xs 3) true (fun k => k (nthD xs 4) M_9) (fun k => k .undef M_9) fun t63 M_11 =>
 pickW (nthD xs 3) t63 (Bo false) fun t64 =>
 guardM t64 true (fun k_12 => k_12 (nthD xs_8 1) M_11) (fun k => k .undef M_11) fun t66 M_13 =>
 guardM t64 true (fun k_14 => intW .eql t66 (N .i64 1) fun t67 =>
 k_14 t67 M_13) (fun k => k .undef M_13) fun t67_15 M_16 =>
 pickW t64 t67_15 (Bo false) fun t68 =>
 condW t68 (
 p6 [a0, (nthD xs 0), (nthD xs 1)] M_16 fun t72 M_17 =>
 condW t72 (
 Q (.tup []) M_17) (
 J_10 [] M_17)) (
 J_10 [] M_16)) (fun xs_18 M_19 =>
 intW .gtr (nthD xs 0) (N .i64 0) fun t74 =>
 guardK t74 true (fun k_20 => k_20 a0 M_19 none) (fun k => k .undef M_19 none) fun t76 M_21 b =>
 guardK t74 true (fun k_22 => k_22 (nthD xs 0) M_21 none) (fun k => k .undef M_21 none) fun t77 M_23 b_24 =>
 guardK t74 true (fun k_25 => intW .sub t77 (N .i64 1) fun t78 =>
 k_25 t78 M_23 none) (fun k => k .undef M_23 none) fun t78_26 M_27 b_28 =>
 guardK t74 true (fun k_29 => idxS t76 t78_26 1 fun t79 =>
 k_29 t79 M_27 none) (fun k => k .undef M_27 none) fun t79_30 M_31 b_32 =>
 guardK t74 true (fun k_33 => load1 M_31 t79_30 fun t80 =>
 k_33 t80 M_31 none) (fun k => k .undef M_31 none) fun t80_34 M_35 b_36 =>
 guardK t74 true (fun k_37 => k_37 a0 M_35 none) (fun k => k .undef M_35 none) fun t81 M_38 b_39 =>
 guardK t74 true (fun k_40 => k_40 (nthD xs_8 0) M_38 none) (fun k => k .undef M_38 none) fun t82 M_41 b_42 =>
 guardK t74 true (fun k_43 => idxS t81 t82 1 fun t83 =>
 k_43 t83 M_41 none) (fun k => k .undef M_41 none) fun t83_44 M_45 b_46 =>
 guardK t74 true (fun k_47 => load1 M_45 t83_44 fun t84 =>
 k_47 t84 M_45 none) (fun k => k .undef M_45 none) fun t84_48 M_49 b_50 =>
 guardM t74 true (fun k_51 => p7 [t80_34, t84_48] M_49 fun t85 M_52 =>
 k_51 t85 M_52) (fun k => k .undef M_49) fun t85_53 M_54 =>
 guardK t74 true (fun k_55 => notW t85_53 fun t86 =>
 k_55 t86 M_54 none) (fun k => k .undef M_54 none) fun t86_56 M_57 b_58 =>
 pickW t74 t86_56 (Bo false) fun t87 =>
 condW t87 (
 p8 [a0, (nthD xs 0), (nthD xs 1), (nthD xs_8 0)] M_57 fun t92 M_59 =>
 next [t92, (nthD xs 1), (nthD xs_3 0), (nthD xs 3), (nthD xs 4)] M_59) (
 p9 [a0, (nthD xs 0), (nthD xs 1), (nthD xs_8 0)] M_57 fun t99 M_60 =>
 extW t99 0 fun t100 =>
 extW t99 1 fun t101 =>
 intW .sub t100 (nthD xs 0) fun t105 =>
 intW .sub (nthD xs 1) t100 fun t108 =>
 intW .quo t21 (N .i64 8) fun t110 =>
 intW .lss t105 t108 fun t113 =>
 condW t113 (
 intW .geq t105 t110 fun t116 =>
 p10 [a0, (nthD xs 0), t100, (nthD xs_3 0)] M_60 fun t121 M_61 =>
 intW .add t100 (N .i64 1) fun t123 =>
 next [t123, (nthD xs 1), (nthD xs_3 0), t116, t101] M_61) (
 intW .geq t108 t110 fun t126 =>
 intW .add t100 (N .i64 1) fun t129 =>
 p10 [a0, t129, (nthD xs 1), (nthD xs_3 0)] M_60 fun t132 M_62 =>
 next [(nthD xs 0), t100, (nthD xs_3 0), t126, t101] M_62)))))))) [a1, a2, a3, (Bo true), (Bo true)] M0
def W_math_bits_Len (p1 p2 : CallT) (a0 : AV) (M0 : RM) (Q : PostV) : Prop :=
 condW (Bo false) (
 cvtW .u32 a0 fun t4 =>
 p1 [t4] M0 fun t5 M =>
 Q t5 M) (
 p2 [a0] M0 fun t7 M_0 =>
 Q t7 M_0)
def W_Less_uint64 (p1 : CallT) (a0 a1 : AV) (M0 : RM) (Q : PostV) : Prop :=
 p1 [a0] M0 fun t6 M =>
 guardM t6 true (fun k => k a1 M) (fun k => k .undef M) fun t8 M_0 =>
 guardM t6 true (fun k_1 => p1 [t8] M_0 fun t9 M_2 =>
 k_1 t9 M_2) (fun k => k .undef M_0) fun t9_3 M_4 =>
 guardM t6 true (fun k_5 => notW t9_3 fun t10 =>
 k_5 t10 M_4) (fun k => k .undef M_4) fun t10_6 M_7 =>
 pickW t6 t10_6 (Bo false) fun t11 =>
 guardM t11 false (fun k_8 => k_8 a0 M_7) (fun k => k .undef M_7) fun t13 M_9 =>
 guardM t11 false (fun k_10 => k_10 a1 M_9) (fun k => k .undef M_9) fun t14 M_11 =>
 guardM t11 false (fun k_12 => intW .lss t13 t14 fun t15 =>
 k_12 t15 M_11) (fun k => k .undef M_11) fun t15_13 M_14 =>
 pickW t11 (Bo true) t15_13 fun t16 =>
 Q t16 M_14
def W_isNaN_uint64_2 (a0 : AV) (M0 : RM) (Q : PostV) : Prop :=
 intW .neq a0 a0 fun t5 =>
 Q t5 M0
def W_insertionSortOrdered_uint64 (p1 : CallT) (a0 a1 a2 : AV) (M0 : RM) (Q : PostV) : Prop :=
 intW .add a1 (N .i64 1) fun t9 =>
 loopW (fun next xs M =>
 intW .lss (nthD xs 0) a2 fun t12 =>
 condW t12 (
 loopW (fun next_0 xs_1 M_2 =>
 intW .gtr (nthD xs_1 0) a1 fun t18 =>
 guardK t18 true (fun k => k a0 M_2 none) (fun k => k .undef M_2 none) fun t20 M_3 b =>
 guardK t18 true (fun k_4 => k_4 (nthD xs_1 0) M_3 none) (fun k => k .undef M_3 none) fun t21 M_5 b_6 =>
 guardK t18 true (fun k_7 => idxS t20 t21 1 fun t22 =>
 k_7 t22 M_5 none) (fun k => k .undef M_5 none) fun t22_8 M_9 b_10 =>
 guardK t18 true (fun k_11 => load1 M_9 t22_8 fun t23 =>
 k_11 t23 M_9 none) (fun k => k .undef M_9 none) fun t23_12 M_13 b_14 =>
 guardK t18 true (fun k_15 => k_15 a0 M_13 none) (fun k => k .undef M_13 none) fun t24 M_16 b_17 =>
 guardK t18 true (fun k_18 => k_18 (nthD xs_1 0) M_16 none) (fun k => k .undef M_16 none) fun t25 M_19 b_20 =>
 guardK t18 true (fun k_21 => intW .sub t25 (N .i64 1) fun t26 =>
 k_21 t26 M_19 none) (fun k => k .undef M_19 none) fun t26_22 M_23 b_24 =>
 guardK t18 true (fun k_25 => idxS t24 t26_22 1 fun t27 =>
 k_25 t27 M_23 none) (fun k => k .undef M_23 none) fun t27_26 M_27 b_28 =>
 guardK t18 true (fun k_29 => load1 M_27 t27_26 fun t28 =>
 k_29 t28 M_27 none) (fun k => k .undef M_27 none) fun t28_30 M_31 b_32 =>
 guardM t18 true (fun k_33 => p1 [t23_12, t28_30] M_31 fun t29 M_34 =>
 k_33 t29 M_34) (fun k => k .undef M_31) fun t29_35 M_36 =>
 pickW t18 t29_35 (Bo false) fun t30 =>
 condW t30 (
 intW .sub (nthD xs_1 0) (N .i64 1) fun t37 =>
 intW .sub (nthD xs_1 0) (N .i64 1) fun t40 =>
 idxS a0 t40 1 fun t41 =>
 load1 M_36 t41 fun t42 =>
 idxS a0 (nthD xs_1 0) 1 fun t45 =>
 load1 M_36 t45 fun t46 =>
 idxS a0 (nthD xs_1 0) 1 fun t47 =>
 storeW M_36 t47 t42 1 fun M_37 =>
 idxS a0 t37 1 fun t48 =>
 storeW M_37 t48 t46 1 fun M_38 =>
 intW .sub (nthD xs_1 0) (N .i64 1) fun t32 =>
 next_0 [t32] M_38) (
 intW .add (nthD xs 0) (N .i64 1) fun t14 =>
 next [t14] M_36)) [(nthD xs 0)] M) (
 Q (.tup []) M)) [t9] M0
def W_heapSortOrdered_uint64 (p1 : CallT) (a0 a1 a2 : AV) (M0 : RM) (Q : PostV) : Prop :=
 intW .sub a2 a1 fun t14 =>
 intW .sub t14 (N .i64 1) fun t16 =>
 intW .quo t16 (N .i64 2) fun t17 =>
 loopW (fun next xs M =>
 intW .geq (nthD xs 0) (N .i64 0) fun t19 =>
 condW t19 (
 p1 [a0, (nthD xs 0), t14, a1] M fun t26 M_0 =>
 intW .sub (nthD xs 0) (N .i64 1) fun t21 =>
 next [t21] M_0) (
 intW .sub t14 (N .i64 1) fun t28 =>
 loopW (fun next_1 xs_2 M_3 =>
 intW .geq (nthD xs_2 0) (N .i64 0) fun t30 =>
 condW t30 (
 intW .add a1 (nthD xs_2 0) fun t38 =>
 intW .add a1 (nthD xs_2 0) fun t42 =>
 idxS a0 t42 1 fun t43 =>
 load1 M_3 t43 fun t44 =>
 idxS a0 a1 1 fun t47 =>
 load1 M_3 t47 fun t48 =>
 idxS a0 a1 1 fun t49 =>
 storeW M_3 t49 t44 1 fun M_4 =>
 idxS a0 t38 1 fun t50 =>
 storeW M_4 t50 t48 1 fun M_5 =>
 p1 [a0, (N .i64 0), (nthD xs_2 0), a1] M_5 fun t55 M_6 =>
 intW .sub (nthD xs_2 0) (N .i64 1) fun t32 =>
 next_1 [t32] M_6) (
 Q (.tup []) M_3)) [t28] M)) [t17] M0
def W_breakPatternsOrdered_uint64 (p1 : Nat) (p2 p3 : CallT) (a0 a1 a2 : AV) (M0 : RM) (Q : PostV) : Prop :=
 intW .sub a2 a1 fun t13 =>
 intW .geq t13 (N .i64 8) fun t15 =>
 condW t15 (
 cvtW .u64 t13 fun t17 =>
 newW (.row [(N .u64 0)] false p1 0) (fun b => .ptr b 0) M0 fun t7 M =>
 storeW M t7 t17 1 fun M_0 =>
 p2 [t13] M_0 fun t19 M_1 =>
 intW .quo t13 (N .i64 4) fun t22 =>
 intW .mul t22 (N .i64 2) fun t23 =>
 intW .add a1 t23 fun t24 =>
 intW .sub t24 (N .i64 1) fun t25 =>
 loopW (fun next xs M_2 =>
 intW .quo t13 (N .i64 4) fun t29 =>
 intW .mul t29 (N .i64 2) fun t30 =>
 intW .add a1 t30 fun t31 =>
 intW .add t31 (N .i64 1) fun t32 =>
 intW .leq (nthD xs 0) t32 fun t33 =>
 condW t33 (
 joinW (fun J =>
 p3 [t7] M_2 fun t36 M_3 =>
 intW .sub t19 (N .u64 1) fun t38 =>
 intW .and t36 t38 fun t39 =>
 cvtW .i64 t39 fun t40 =>
 joinW (fun J_4 =>
 intW .geq t40 t13 fun t43 =>
 condW t43 (
 intW .sub t40 t13 fun t46 =>
 J_4 [t46] M_3) (
 J_4 [t40] M_3)) (fun xs_5 M_6 =>
 intW .add a1 (nthD xs_5 0) fun t52 =>
 intW .add a1 (nthD xs_5 0) fun t56 =>
 idxS a0 t56 1 fun t57 =>
 load1 M_6 t57 fun t58 =>
 idxS a0 (nthD xs 0) 1 fun t61 =>
 load1 M_6 t61 fun t62 =>
 idxS a0 (nthD xs 0) 1 fun t63 =>
 storeW M_6 t63 t58 1 fun M_7 =>
 idxS a0 t52 1 fun t64 =>
 storeW M_7 t64 t62 1 fun M_8 =>
 J [] M_8)) (fun xs_9 M_10 =>
 intW .add (nthD xs 0) (N .i64 1) fun t35 =>
 next [t35] M_10)) (
 Q (.tup []) M_2)) [t25] M_1) (
 Q (.tup []) M0)
def W_choosePivotOrdered_uint64 (p1 : Nat) (p2 p3 : CallT) (a0 a1 a2 : AV) (M0 : RM) (Q : PostV) : Prop :=
 intW .sub a2 a1 fun t15 =>
 newW (.row [(N .i64 0)] false p1 0) (fun b => .ptr b 0) M0 fun t9 M =>
 intW .quo t15 (N .i64 4) fun t18 =>
 intW .mul t18 (N .i64 1) fun t19 =>
 intW .add a1 t19 fun t20 =>
 intW .quo t15 (N .i64 4) fun t23 =>
 intW .mul t23 (N .i64 2) fun t24 =>
 intW .add a1 t24 fun t25 =>
 intW .quo t15 (N .i64 4) fun t28 =>
 intW .mul t28 (N .i64 3) fun t29 =>
 intW .add a1 t29 fun t30 =>
 joinW (fun J =>
 intW .geq t15 (N .i64 8) fun t32 =>
 condW t32 (
 joinW (fun J_0 =>
 intW .geq t15 (N .i64 50) fun t34 =>
 condW t34 (
 p2 [a0, t20, t9] M fun t37 M_1 =>
 p2 [a0, t25, t9] M_1 fun t40 M_2 =>
 p2 [a0, t30, t9] M_2 fun t43 M_3 =>
 J_0 [t37, t40, t43] M_3) (
 J_0 [t20, t25, t30] M)) (fun xs M_4 =>
 p3 [a0, (nthD xs 0), (nthD xs 1), (nthD xs 2), t9] M_4 fun t48 M_5 =>
 J [t48] M_5)) (
 J [t25] M)) (fun xs_6 M_7 =>
 load1 M_7 t9 fun t49 =>
 intW .eql t49 (N .i64 0) fun t52 =>
 condW t52 (
 Q (.tup [(nthD xs_6 0), (N .i64 1)]) M_7) (
 intW .eql t49 (N .i64 12) fun t55 =>
 condW t55 (
 Q (.tup [(nthD xs_6 0), (N .i64 2)]) M_7) (
 Q (.tup [(nthD xs_6 0), (N .i64 0)]) M_7)))
def W_reverseRangeOrdered_uint64 (a0 a1 a2 : AV) (M0 : RM) (Q : PostV) : Prop :=
 intW .sub a2 (N .i64 1) fun t10 =>
 loopW (fun next xs M =>
 intW .lss (nthD xs 0) (nthD xs 1) fun t13 =>
 condW t13 (
 idxS a0 (nthD xs 1) 1 fun t20 =>
 load1 M t20 fun t21 =>
 idxS a0 (nthD xs 0) 1 fun t24 =>
 load1 M t24 fun t25 =>
 idxS a0 (nthD xs 0) 1 fun t26 =>
 storeW M t26 t21 1 fun M_0 =>
 idxS a0 (nthD xs 1) 1 fun t27 =>
 storeW M_0 t27 t25 1 fun M_1 =>
 intW .add (nthD xs 0) (N .i64 1) fun t29 =>
 intW .sub (nthD xs 1) (N .i64 1) fun t31 =>
 next [t29, t31] M_1) (
 Q (.tup []) M)) [a1, t10] M0
def W_partialInsertionSortOrdered_uint64 (p1 : CallT) (a0 a1 a2 : AV) (M0 : RM) (Q : PostV) : Prop :=
 intW .add a1 (N .i64 1) fun t12 =>
 loopW (fun next xs M =>
 intW .lss (nthD xs 1) (N .i64 5) fun t14 =>
 condW t14 (
 joinW (fun J =>
 loopW (fun next_0 xs_1 M_2 =>
 intW .lss (nthD xs_1 0) a2 fun t19 =>
 guardK t19 true (fun k => k a0 M_2 none) (fun k => k .undef M_2 none) fun t21 M_3 b =>
 guardK t19 true (fun k_4 => k_4 (nthD xs_1 0) M_3 none) (fun k => k .undef M_3 none) fun t22 M_5 b_6 =>
 guardK t19 true (fun k_7 => idxS t21 t22 1 fun t23 =>
 k_7 t23 M_5 none) (fun k => k .undef M_5 none) fun t23_8 M_9 b_10 =>
 guardK t19 true (fun k_11 => load1 M_9 t23_8 fun t24 =>
 k_11 t24 M_9 none) (fun k => k .undef M_9 none) fun t24_12 M_13 b_14 =>
 guardK t19 true (fun k_15 => k_15 a0 M_13 none) (fun k => k .undef M_13 none) fun t25 M_16 b_17 =>
 guardK t19 true (fun k_18 => k_18 (nthD xs_1 0) M_16 none) (fun k => k .undef M_16 none) fun t26 M_19 b_20 =>
 guardK t19 true (fun k_21 => intW .sub t26 (N .i64 1) fun t27 =>
 k_21 t27 M_19 none) (fun k => k .undef M_19 none) fun t27_22 M_23 b_24 =>
 guardK t19 true (fun k_25 => idxS t25 t27_22 1 fun t28 =>
 k_25 t28 M_23 none) (fun k => k .undef M_23 none) fun t28_26 M_27 b_28 =>
 guardK t19 true (fun k_29 => load1 M_27 t28_26 fun t29 =>
 k_29 t29 M_27 none) (fun k => k .undef M_27 none) fun t29_30 M_31 b_32 =>
 guardM t19 true (fun k_33 => p1 [t24_12, t29_30] M_31 fun t30 M_34 =>
 k_33 t30 M_34) (fun k => k .undef M_31) fun t30_35 M_36 =>
 guardK t19 true (fun k_37 => notW t30_35 fun t31 =>
 k_37 t31 M_36 none) (fun k => k .undef M_36 none) fun t31_38 M_39 b_40 =>
 pickW t19 t31_38 (Bo false) fun t32 =>
 condW t32 (
 intW .add (nthD xs_1 0) (N .i64 1) fun t34 =>
 next_0 [t34] M_39) (
 intW .eql (nthD xs_1 0) a2 fun t37 =>
 condW t37 (
 Q (Bo true) M_39) (
 intW .sub a2 a1 fun t40 =>
 intW .lss t40 (N .i64 50) fun t41 =>
 condW t41 (
 Q (Bo false) M_39) (
 intW .sub (nthD xs_1 0) (N .i64 1) fun t46 =>
 intW .sub (nthD xs_1 0) (N .i64 1) fun t49 =>
 idxS a0 t49 1 fun t50 =>
 load1 M_39 t50 fun t51 =>
 idxS a0 (nthD xs_1 0) 1 fun t54 =>
 load1 M_39 t54 fun t55 =>
 idxS a0 (nthD xs_1 0) 1 fun t56 =>
 storeW M_39 t56 t51 1 fun M_41 =>
 idxS a0 t46 1 fun t57 =>
 storeW M_41 t57 t55 1 fun M_42 =>
 joinW (fun J_43 =>
 intW .sub (nthD xs_1 0) a1 fun t60 =>
 intW .geq t60 (N .i64 2) fun t61 =>
 condW t61 (
 intW .sub (nthD xs_1 0) (N .i64 1) fun t63 =>
 loopW (fun next_44 xs_45 M_46 =>
 intW .geq (nthD xs_45 0) (N .i64 1) fun t65 =>
 condW t65 (
 idxS a0 (nthD xs_45 0) 1 fun t70 =>
 load1 M_46 t70 fun t71 =>
 intW .sub (nthD xs_45 0) (N .i64 1) fun t74 =>
 idxS a0 t74 1 fun t75 =>
 load1 M_46 t75 fun t76 =>
 p1 [t71, t76] M_46 fun t77 M_47 =>
 notW t77 fun t78 =>
 condW t78 (
 J_43 [] M_47) (
 intW .sub (nthD xs_45 0) (N .i64 1) fun t83 =>
 intW .sub (nthD xs_45 0) (N .i64 1) fun t86 =>
 idxS a0 t86 1 fun t87 =>
 load1 M_47 t87 fun t88 =>
 idxS a0 (nthD xs_45 0) 1 fun t91 =>
 load1 M_47 t91 fun t92 =>
 idxS a0 (nthD xs_45 0) 1 fun t93 =>
 storeW M_47 t93 t88 1 fun M_48 =>
 idxS a0 t83 1 fun t94 =>
 storeW M_48 t94 t92 1 fun M_49 =>
 intW .sub (nthD xs_45 0) (N .i64 1) fun t67 =>
 next_44 [t67] M_49)) (
 J_43 [] M_46)) [t63] M_42) (
 J_43 [] M_42)) (fun xs_50 M_51 =>
 intW .sub a2 (nthD xs_1 0) fun t97 =>
 intW .geq t97 (N .i64 2) fun t98 =>
 condW t98 (
 intW .add (nthD xs_1 0) (N .i64 1) fun t100 =>
 loopW (fun next_52 xs_53 M_54 =>
 intW .lss (nthD xs_53 0) a2 fun t103 =>
 condW t103 (
 idxS a0 (nthD xs_53 0) 1 fun t108 =>
 load1 M_54 t108 fun t109 =>
 intW .sub (nthD xs_53 0) (N .i64 1) fun t112 =>
 idxS a0 t112 1 fun t113 =>
 load1 M_54 t113 fun t114 =>
 p1 [t109, t114] M_54 fun t115 M_55 =>
 notW t115 fun t116 =>
 condW t116 (
 J [(nthD xs_1 0)] M_55) (
 intW .sub (nthD xs_53 0) (N .i64 1) fun t121 =>
 intW .sub (nthD xs_53 0) (N .i64 1) fun t124 =>
 idxS a0 t124 1 fun t125 =>
 load1 M_55 t125 fun t126 =>
 idxS a0 (nthD xs_53 0) 1 fun t129 =>
 load1 M_55 t129 fun t130 =>
 idxS a0 (nthD xs_53 0) 1 fun t131 =>
 storeW M_55 t131 t126 1 fun M_56 =>
 idxS a0 t121 1 fun t132 =>
 storeW M_56 t132 t130 1 fun M_57 =>
 intW .add (nthD xs_53 0) (N .i64 1) fun t105 =>
 next_52 [t105] M_57)) (
 J [(nthD xs_1 0)] M_54)) [t100] M_51) (
 J [(nthD xs_1 0)] M_51)))))) [(nthD xs 0)] M) (fun xs_58 M_59 =>
 intW .add (nthD xs 1) (N .i64 1) fun t16 =>
 next [(nthD xs_58 0), t16] M_59)) (
 Q (Bo false) M)) [t12, (N .i64 0)] M0
def W_partitionEqualOrdered_uint64 (p1 : CallT) (a0 a1 a2 a3 : AV) (M0 : RM) (Q : PostV) : Prop :=
 idxS a0 a3 1 fun t17 =>
 load1 M0 t17 fun t18 =>
 idxS a0 a1 1 fun t21 =>
 load1 M0 t21 fun t22 =>
 idxS a0 a1 1 fun t23 =>
 storeW M0 t23 t18 1 fun M =>
 idxS a0 a3 1 fun t24 =>
 storeW M t24 t22 1 fun M_0 =>
 intW .add a1 (N .i64 1) fun t26 =>
 intW .sub a2 (N .i64 1) fun t28 =>
 loopW (fun next xs M_1 =>
 loopW (fun next_2 xs_3 M_4 =>
 intW .leq (nthD xs_3 0) (nthD xs 1) fun t31 =>
 guardK t31 true (fun k => k a0 M_4 none) (fun k => k .undef M_4 none) fun t33 M_5 b =>
 guardK t31 true (fun k_6 => k_6 a1 M_5 none) (fun k => k .undef M_5 none) fun t34 M_7 b_8 =>
 guardK t31 true (fun k_9 => idxS t33 t34 1 fun t35 =>
 k_9 t35 M_7 none) (fun k => k .undef M_7 none) fun t35_10 M_11 b_12 =>
 guardK t31 true (fun k_13 => load1 M_11 t35_10 fun t36 =>
 k_13 t36 M_11 none) (fun k => k .undef M_11 none) fun t36_14 M_15 b_16 =>
 guardK t31 true (fun k_17 => k_17 a0 M_15 none) (fun k => k .undef M_15 none) fun t37 M_18 b_19 =>
 guardK t31 true (fun k_20 => k_20 (nthD xs_3 0) M_18 none) (fun k => k .undef M_18 none) fun t38 M_21 b_22 =>
 guardK t31 true (fun k_23 => idxS t37 t38 1 fun t39 =>
 k_23 t39 M_21 none) (fun k => k .undef M_21 none) fun t39_24 M_25 b_26 =>
 guardK t31 true (fun k_27 => load1 M_25 t39_24 fun t40 =>
 k_27 t40 M_25 none) (fun k => k .undef M_25 none) fun t40_28 M_29 b_30 =>
 guardM t31 true (fun k_31 => p1 [t36_14, t40_28] M_29 fun t41 M_32 =>
 k_31 t41 M_32) (fun k => k .undef M_29) fun t41_33 M_34 =>
 guardK t31 true (fun k_35 => notW t41_33 fun t42 =>
 k_35 t42 M_34 none) (fun k => k .undef M_34 none) fun t42_36 M_37 b_38 =>
 pickW t31 t42_36 (Bo false) fun t43 =>
 condW t43 (
 intW .add (nthD xs_3 0) (N .i64 1) fun t45 =>
 next_2 [t45] M_37) (
 loopW (fun next_39 xs_40 M_41 =>
 intW .leq (nthD xs_3 0) (nthD xs_40 0) fun t48 =>
 guardK t48 true (fun k_42 => k_42 a0 M_41 none) (fun k => k .undef M_41 none) fun t50 M_43 b_44 =>
 guardK t48 true (fun k_45 => k_45 a1 M_43 none) (fun k => k .undef M_43 none) fun t51 M_46 b_47 =>
 guardK t48 true (fun k_48 => idxS t50 t51 1 fun t52 =>
 k_48 t52 M_46 none) (fun k => k .undef M_46 none) fun t52_49 M_50 b_51 =>
 guardK t48 true (fun k_52 => load1 M_50 t52_49 fun t53 =>
 k_52 t53 M_50 none) (fun k => k .undef M_50 none) fun t53_53 M_54 b_55 =>
 guardK t48 true (fun k_56 => k_56 a0 M_54 none) (fun k => k .undef M_54 none) fun t54 M_57 b_58 =>
 guardK t48 true (fun k_59 => k_59 (nthD xs_40 0) M_57 none) (fun k => k .undef M_57 none) fun t55 M_60 b_61 =>
 guardK t48 true (fun k_62 => idxS t54 t55 1 fun t56 =>
 k_62 t56 M_60 none) (fun k => k .undef M_60 none) fun t56_63 M_64 b_65 =>
 guardK t48 true (fun k_66 => load1 M_64 t56_63 fun t57 =>
 k_66 t57 M_64 none) (fun k => k .undef M_64 none) fun t57_67 M_68 b_69 =>
 guardM t48 true (fun k_70 => p1 [t53_53, t57_67] M_68 fun t58 M_71 =>
 k_70 t58 M_71) (fun k => k .undef M_68) fun t58_72 M_73 =>
 pickW t48 t58_72 (Bo false) fun t59 =>
 condW t59 (
 intW .sub (nthD xs_40 0) (N .i64 1) fun t61 =>
 next_39 [t61] M_73) (
 intW .gtr (nthD xs_3 0) (nthD xs_40 0) fun t64 =>
 condW t64 (
 Q (nthD xs_3 0) M_73) (
 idxS a0 (nthD xs_40 0) 1 fun t71 =>
 load1 M_73 t71 fun t72 =>
 idxS a0 (nthD xs_3 0) 1 fun t75 =>
 load1 M_73 t75 fun t76 =>
 idxS a0 (nthD xs_3 0) 1 fun t77 =>
 storeW M_73 t77 t72 1 fun M_74 =>
 idxS a0 (nthD xs_40 0) 1 fun t78 =>
 storeW M_74 t78 t76 1 fun M_75 =>
 intW .add (nthD xs_3 0) (N .i64 1) fun t80 =>
 intW .sub (nthD xs_40 0) (N .i64 1) fun t82 =>
 next [t80, t82] M_75))) [(nthD xs 1)] M_37)) [(nthD xs 0)] M_1) [t26, t28] M_0
def W_partitionOrdered_uint64 (p1 : CallT) (a0 a1 a2 a3 : AV) (M0 : RM) (Q : PostV) : Prop :=
 idxS a0 a3 1 fun t18 =>
 load1 M0 t18 fun t19 =>
 idxS a0 a1 1 fun t22 =>
 load1 M0 t22 fun t23 =>
 idxS a0 a1 1 fun t24 =>
 storeW M0 t24 t19 1 fun M =>
 idxS a0 a3 1 fun t25 =>
 storeW M t25 t23 1 fun M_0 =>
 intW .add a1 (N .i64 1) fun t27 =>
 intW .sub a2 (N .i64 1) fun t29 =>
 loopW (fun next xs M_1 =>
 intW .leq (nthD xs 0) t29 fun t32 =>
 guardK t32 true (fun k => k a0 M_1 none) (fun k => k .undef M_1 none) fun t34 M_2 b =>
 guardK t32 true (fun k_3 => k_3 (nthD xs 0) M_2 none) (fun k => k .undef M_2 none) fun t35 M_4 b_5 =>
 guardK t32 true (fun k_6 => idxS t34 t35 1 fun t36 =>
 k_6 t36 M_4 none) (fun k => k .undef M_4 none) fun t36_7 M_8 b_9 =>
 guardK t32 true (fun k_10 => load1 M_8 t36_7 fun t37 =>
 k_10 t37 M_8 none) (fun k => k .undef M_8 none) fun t37_11 M_12 b_13 =>
 guardK t32 true (fun k_14 => k_14 a0 M_12 none) (fun k => k .undef M_12 none) fun t38 M_15 b_16 =>
 guardK t32 true (fun k_17 => k_17 a1 M_15 none) (fun k => k .undef M_15 none) fun t39 M_18 b_19 =>
 guardK t32 true (fun k_20 => idxS t38 t39 1 fun t40 =>
 k_20 t40 M_18 none) (fun k => k .undef M_18 none) fun t40_21 M_22 b_23 =>
 guardK t32 true (fun k_24 => load1 M_22 t40_21 fun t41 =>
 k_24 t41 M_22 none) (fun k => k .undef M_22 none) fun t41_25 M_26 b_27 =>
 guardM t32 true (fun k_28 => p1 [t37_11, t41_25] M_26 fun t42 M_29 =>
 k_28 t42 M_29) (fun k => k .undef M_26) fun t42_30 M_31 =>
 pickW t32 t42_30 (Bo false) fun t43 =>
 condW t43 (
 intW .add (nthD xs 0) (N .i64 1) fun t45 =>
 next [t45] M_31) (
 loopW (fun next_32 xs_33 M_34 =>
 intW .leq (nthD xs 0) (nthD xs_33 0) fun t48 =>
 guardK t48 true (fun k_35 => k_35 a0 M_34 none) (fun k => k .undef M_34 none) fun t50 M_36 b_37 =>
 guardK t48 true (fun k_38 => k_38 (nthD xs_33 0) M_36 none) (fun k => k .undef M_36 none) fun t51 M_39 b_40 =>
 guardK t48 true (fun k_41 => idxS t50 t51 1 fun t52 =>
 k_41 t52 M_39 none) (fun k => k .undef M_39 none) fun t52_42 M_43 b_44 =>
 guardK t48 true (fun k_45 => load1 M_43 t52_42 fun t53 =>
 k_45 t53 M_43 none) (fun k => k .undef M_43 none) fun t53_46 M_47 b_48 =>
 guardK t48 true (fun k_49 => k_49 a0 M_47 none) (fun k => k .undef M_47 none) fun t54 M_50 b_51 =>
 guardK t48 true (fun k_52 => k_52 a1 M_50 none) (fun k => k .undef M_50 none) fun t55 M_53 b_54 =>
 guardK t48 true (fun k_55 => idxS t54 t55 1 fun t56 =>
 k_55 t56 M_53 none) (fun k => k .undef M_53 none) fun t56_56 M_57 b_58 =>
 guardK t48 true (fun k_59 => load1 M_57 t56_56 fun t57 =>
 k_59 t57 M_57 none) (fun k => k .undef M_57 none) fun t57_60 M_61 b_62 =>
 guardM t48 true (fun k_63 => p1 [t53_46, t57_60] M_61 fun t58 M_64 =>
 k_63 t58 M_64) (fun k => k .undef M_61) fun t58_65 M_66 =>
 guardK t48 true (fun k_67 => notW t58_65 fun t59 =>
 k_67 t59 M_66 none) (fun k => k .undef M_66 none) fun t59_68 M_69 b_70 =>
 pickW t48 t59_68 (Bo false) fun t60 =>
 condW t60 (
 intW .sub (nthD xs_33 0) (N .i64 1) fun t62 =>
 next_32 [t62] M_69) (
 intW .gtr (nthD xs 0) (nthD xs_33 0) fun t65 =>
 condW t65 (
 idxS a0 a1 1 fun t72 =>
 load1 M_69 t72 fun t73 =>
 idxS a0 (nthD xs_33 0) 1 fun t76 =>
 load1 M_69 t76 fun t77 =>
 idxS a0 (nthD xs_33 0) 1 fun t78 =>
 storeW M_69 t78 t73 1 fun M_71 =>
 idxS a0 a1 1 fun t79 =>
 storeW M_71 t79 t77 1 fun M_72 =>
 Q (.tup [(nthD xs_33 0), (Bo true)]) M_72) (
 idxS a0 (nthD xs_33 0) 1 fun t87 =>
 load1 M_69 t87 fun t88 =>
 idxS a0 (nthD xs 0) 1 fun t91 =>
 load1 M_69 t91 fun t92 =>
 idxS a0 (nthD xs 0) 1 fun t93 =>
 storeW M_69 t93 t88 1 fun M_73 =>
 idxS a0 (nthD xs_33 0) 1 fun t94 =>
 storeW M_73 t94 t92 1 fun M_74 =>
 intW .add (nthD xs 0) (N .i64 1) fun t96 =>
 intW .sub (nthD xs_33 0) (N .i64 1) fun t98 =>
 loopW (fun next_75 xs_76 M_77 =>
 loopW (fun next_78 xs_79 M_80 =>
 intW .leq (nthD xs_79 0) (nthD xs_76 1) fun t101 =>
 guardK t101 true (fun k_81 => k_81 a0 M_80 none) (fun k => k .undef M_80 none) fun t103 M_82 b_83 =>
 guardK t101 true (fun k_84 => k_84 (nthD xs_79 0) M_82 none) (fun k => k .undef M_82 none) fun t104 M_85 b_86 =>
 guardK t101 true (fun k_87 => idxS t103 t104 1 fun t105 =>
 k_87 t105 M_85 none) (fun k => k .undef M_85 none) fun t105_88 M_89 b_90 =>
 guardK t101 true (fun k_91 => load1 M_89 t105_88 fun t106 =>
 k_91 t106 M_89 none) (fun k => k .undef M_89 none) fun t106_92 M_93 b_94 =>
 guardK t101 true (fun k_95 => k_95 a0 M_93 none) (fun k => k .undef M_93 none) fun t107 M_96 b_97 =>
 guardK t101 true (fun k_98 => k_98 a1 M_96 none) (fun k => k .undef M_96 none) fun t108 M_99 b_100 =>
 guardK t101 true (fun k_101 => idxS t107 t108 1 fun t109 =>
 k_101 t109 M_99 none) (fun k => k .undef M_99 none) fun t109_102 M_103 b_104 =>
 guardK t101 true (fun k_105 => load1 M_103 t109_102 fun t110 =>
 k_105 t110 M_103 none) (fun k => k .undef M_103 none) fun t110_106 M_107 b_108 =>
 guardM t101 true (fun k_109 => p1 [t106_92, t110_106] M_107 fun t111 M_110 =>
 k_109 t111 M_110) (fun k => k .undef M_107) fun t111_111 M_112 =>
 pickW t101 t111_111 (Bo false) fun t112 =>
 condW t112 (
 intW .add (nthD xs_79 0) (N .i64 1) fun t114 =>
 next_78 [t114] M_112) (
 loopW (fun next_113 xs_114 M_115 =>
 intW .leq (nthD xs_79 0) (nthD xs_114 0) fun t117 =>
 guardK t117 true (fun k_116 => k_116 a0 M_115 none) (fun k => k .undef M_115 none) fun t119 M_117 b_118 =>
 guardK t117 true (fun k_119 => k_119 (nthD xs_114 0) M_117 none) (fun k => k .undef M_117 none) fun t120 M_120 b_121 =>
 guardK t117 true (fun k_122 => idxS t119 t120 1 fun t121 =>
 k_122 t121 M_120 none) (fun k => k .undef M_120 none) fun t121_123 M_124 b_125 =>
 guardK t117 true (fun k_126 => load1 M_124 t121_123 fun t122 =>
 k_126 t122 M_124 none) (fun k => k .undef M_124 none) fun t122_127 M_128 b_129 =>
 guardK t117 true (fun k_130 => k_130 a0 M_128 none) (fun k => k .undef M_128 none) fun t123 M_131 b_132 =>
 guardK t117 true (fun k_133 => k_133 a1 M_131 none) (fun k => k .undef M_131 none) fun t124 M_134 b_135 =>
 guardK t117 true (fun k_136 => idxS t123 t124 1 fun t125 =>
 k_136 t125 M_134 none) (fun k => k .undef M_134 none) fun t125_137 M_138 b_139 =>
 guardK t117 true (fun k_140 => load1 M_138 t125_137 fun t126 =>
 k_140 t126 M_138 none) (fun k => k .undef M_138 none) fun t126_141 M_142 b_143 =>
 guardM t117 true (fun k_144 => p1 [t122_127, t126_141] M_142 fun t127 M_145 =>
 k_144 t127 M_145) (fun k => k .undef M_142) fun t127_146 M_147 =>
 guardK t117 true (fun k_148 => notW t127_146 fun t128 =>
 k_148 t128 M_147 none) (fun k => k .undef M_147 none) fun t128_149 M_150 b_151 =>
 pickW t117 t128_149 (Bo false) fun t129 =>
 condW t129 (
 intW .sub (nthD xs_114 0) (N .i64 1) fun t131 =>
 next_113 [t131] M_150) (
 intW .gtr (nthD xs_79 0) (nthD xs_114 0) fun t134 =>
 condW t134 (
 idxS a0 a1 1 fun t159 =>
 load1 M_150 t159 fun t160 =>
 idxS a0 (nthD xs_114 0) 1 fun t163 =>
 load1 M_150 t163 fun t164 =>
 idxS a0 (nthD xs_114 0) 1 fun t165 =>
 storeW M_150 t165 t160 1 fun M_152 =>
 idxS a0 a1 1 fun t166 =>
 storeW M_152 t166 t164 1 fun M_153 =>
 Q (.tup [(nthD xs_114 0), (Bo false)]) M_153) (
 idxS a0 (nthD xs_114 0) 1 fun t141 =>
 load1 M_150 t141 fun t142 =>
 idxS a0 (nthD xs_79 0) 1 fun t145 =>
 load1 M_150 t145 fun t146 =>
 idxS a0 (nthD xs_79 0) 1 fun t147 =>
 storeW M_150 t147 t142 1 fun M_154 =>
 idxS a0 (nthD xs_114 0) 1 fun t148 =>
 storeW M_154 t148 t146 1 fun M_155 =>
 intW .add (nthD xs_79 0) (N .i64 1) fun t150 =>
 intW .sub (nthD xs_114 0) (N .i64 1) fun t152 =>
 next_75 [t150, t152] M_155))) [(nthD xs_76 1)] M_112)) [(nthD xs_76 0)] M_77) [t96, t98] M_74))) [t29] M_31)) [t27] M_0
def W_math_bits_Len64 (a0 : AV) (M0 : RM) (Q : PostV) : Prop :=
 joinW (fun J =>
 intW .geq a0 (N .u64 4294967296) fun t4 =>
 condW t4 (
 shW .shr a0 (N .u64 32) fun t6 =>
 J [t6, (N .i64 32)] M0) (
 J [a0, (N .i64 0)] M0)) (fun xs M =>
 joinW (fun J_0 =>
 intW .geq (nthD xs 0) (N .u64 65536) fun t8 =>
 condW t8 (
 shW .shr (nthD xs 0) (N .u64 16) fun t10 =>
 intW .add (nthD xs 1) (N .i64 16) fun t12 =>
 J_0 [t10, t12] M) (
 J_0 [(nthD xs 0), (nthD xs 1)] M)) (fun xs_1 M_2 =>
 joinW (fun J_3 =>
 intW .geq (nthD xs_1 0) (N .u64 256) fun t14 =>
 condW t14 (
 shW .shr (nthD xs_1 0) (N .u64 8) fun t16 =>
 intW .add (nthD xs_1 1) (N .i64 8) fun t18 =>
 J_3 [t16, t18] M_2) (
 J_3 [(nthD xs_1 0), (nthD xs_1 1)] M_2)) (fun xs_4 M_5 =>
 cvtW .u8 (nthD xs_4 0) fun t21 =>
 idxB (St [0, 1, 2, 2, 3, 3, 3, 3, 4, 4, 4, 4, 4, 4, 4, 4, 5, 5, 5, 5, 5, 5, 5, 5, 5, 5, 5, 5, 5, 5, 5, 5, 6, 6, 6, 6, 6, 6, 6, 6, 6, 6, 6, 6, 6, 6, 6, 6, 6, 6, 6, 6, 6, 6, 6, 6, 6, 6, 6, 6, 6, 6, 6, 6, 7, 7, 7, 7, 7, 7, 7, 7, 7, 7, 7, 7, 7, 7, 7, 7, 7, 7, 7, 7, 7, 7, 7, 7, 7, 7, 7, 7, 7, 7, 7, 7, 7, 7, 7, 7, 7, 7, 7, 7, 7, 7, 7, 7, 7, 7, 7, 7, 7, 7, 7, 7, 7, 7, 7, 7, 7, 7, 7, 7, 7, 7, 7, 7, 8, 8, 8, 8, 8, 8, 8, 8, 8, 8, 8, 8, 8, 8, 8, 8, 8, 8, 8, 8, 8, 8, 8, 8, 8, 8, 8, 8, 8, 8, 8, 8, 8, 8, 8, 8, 8, 8, 8, 8, 8, 8, 8, 8, 8, 8, 8, 8, 8, 8, 8, 8, 8, 8, 8, 8, 8, 8, 8, 8, 8, 8, 8, 8, 8, 8, 8, 8, 8, 8, 8, 8, 8, 8, 8, 8, 8, 8, 8, 8, 8, 8, 8, 8, 8, 8, 8, 8, 8, 8, 8, 8, 8, 8, 8, 8, 8, 8, 8, 8, 8, 8, 8, 8, 8, 8, 8, 8, 8, 8, 8, 8, 8, 8, 8, 8, 8, 8, 8, 8, 8, 8, 8, 8, 8, 8, 8, 8]) t21 fun t22 =>
 cvtW .i64 t22 fun t23 =>
 intW .add (nthD xs_4 1) t23 fun t24 =>
 Q t24 M_5)))
def W_isNaN_uint64 (a0 : AV) (M0 : RM) (Q : PostV) : Prop :=
 intW .neq a0 a0 fun t5 =>
 Q t5 M0
def W_siftDownOrdered_uint64 (p1 : CallT) (a0 a1 a2 a3 : AV) (M0 : RM) (Q : PostV) : Prop :=
 loopW (fun next xs M =>
 intW .mul (N .i64 2) (nthD xs 0) fun t12 =>
 intW .add t12 (N .i64 1) fun t13 =>
 intW .geq t13 a2 fun t16 =>
 condW t16 (
 Q (.tup []) M) (
 joinW (fun J =>
 intW .add t13 (N .i64 1) fun t18 =>
 intW .lss t18 a2 fun t20 =>
 guardK t20 true (fun k => k a0 M none) (fun k => k .undef M none) fun t22 M_0 b =>
 guardK t20 true (fun k_1 => k_1 a3 M_0 none) (fun k => k .undef M_0 none) fun t23 M_2 b_3 =>
 guardK t20 true (fun k_4 => k_4 t13 M_2 none) (fun k => k .undef M_2 none) fun t24 M_5 b_6 =>
 guardK t20 true (fun k_7 => intW .add t23 t24 fun t25 =>
 k_7 t25 M_5 none) (fun k => k .undef M_5 none) fun t25_8 M_9 b_10 =>
 guardK t20 true (fun k_11 => idxS t22 t25_8 1 fun t26 =>
 k_11 t26 M_9 none) (fun k => k .undef M_9 none) fun t26_12 M_13 b_14 =>
 guardK t20 true (fun k_15 => load1 M_13 t26_12 fun t27 =>
 k_15 t27 M_13 none) (fun k => k .undef M_13 none) fun t27_16 M_17 b_18 =>
 guardK t20 true (fun k_19 => k_19 a0 M_17 none) (fun k => k .undef M_17 none) fun t28 M_20 b_21 =>
 guardK t20 true (fun k_22 => k_22 a3 M_20 none) (fun k => k .undef M_20 none) fun t29 M_23 b_24 =>
 guardK t20 true (fun k_25 => k_25 t13 M_23 none) (fun k => k .undef M_23 none) fun t30 M_26 b_27 =>
 guardK t20 true (fun k_28 => intW .add t29 t30 fun t31 =>
 k_28 t31 M_26 none) (fun k => k .undef M_26 none) fun t31_29 M_30 b_31 =>
 guardK t20 true (fun k_32 => intW .add t31_29 (N .i64 1) fun t32 =>
 k_32 t32 M_30 none) (fun k => k .undef M_30 none) fun t32_33 M_34 b_35 =>
 guardK t20 true (fun k_36 => idxS t28 t32_33 1 fun t33 =>
 k_36 t33 M_34 none) (fun k => k .undef M_34 none) fun t33_37 M_38 b_39 =>
 guardK t20 true (fun k_40 => load1 M_38 t33_37 fun t34 =>
 k_40 t34 M_38 none) (fun k => k .undef M_38 none) fun t34_41 M_42 b_43 =>
 guardM t20 true (fun k_44 => p1 [t27_16, t34_41] M_42 fun t35 M_45 =>
 k_44 t35 M_45) (fun k => k .undef M_42) fun t35_46 M_47 =>
 pickW t20 t35_46 (Bo false) fun t36 =>
 condW t36 (
 intW .add t13 (N .i64 1) fun t38 =>
 J [t38] M_47) (
 J [t13] M_47)) (fun xs_48 M_49 =>
 intW .add a3 (nthD xs 0) fun t42 =>
 idxS a0 t42 1 fun t43 =>
 load1 M_49 t43 fun t44 =>
 intW .add a3 (nthD xs_48 0) fun t48 =>
 idxS a0 t48 1 fun t49 =>
 load1 M_49 t49 fun t50 =>
 p1 [t44, t50] M_49 fun t51 M_50 =>
 notW t51 fun t52 =>
 condW t52 (
 Q (.tup []) M_50) (
 intW .add a3 (nthD xs 0) fun t56 =>
 intW .add a3 (nthD xs_48 0) fun t60 =>
 intW .add a3 (nthD xs_48 0) fun t64 =>
 idxS a0 t64 1 fun t65 =>
 load1 M_50 t65 fun t66 =>
 intW .add a3 (nthD xs 0) fun t70 =>
 idxS a0 t70 1 fun t71 =>
 load1 M_50 t71 fun t72 =>
 idxS a0 t56 1 fun t73 =>
 storeW M_50 t73 t66 1 fun M_51 =>
 idxS a0 t60 1 fun t74 =>
 storeW M_51 t74 t72 1 fun M_52 =>
 next [(nthD xs_48 0)] M_52)))) [a1] M0
def W_nextPowerOfTwo (p1 : CallT) (a0 : AV) (M0 : RM) (Q : PostV) : Prop :=
 cvtW .u64 a0 fun t4 =>
 p1 [t4] M0 fun t5 M =>
 shW .shl (N .u64 1) t5 fun t6 =>
 Q t6 M
def W_xorshift_Next (a0 : AV) (M0 : RM) (Q : PostV) : Prop :=
 ptrW a0 fun t4 =>
 load1 M0 t4 fun t5 =>
 ptrW a0 fun t7 =>
 load1 M0 t7 fun t8 =>
 shW .shl t8 (N .u64 13) fun t9 =>
 intW .xor t5 t9 fun t10 =>
 ptrW a0 fun t11 =>
 storeW M0 t11 t10 1 fun M =>
 ptrW a0 fun t13 =>
 load1 M t13 fun t14 =>
 ptrW a0 fun t16 =>
 load1 M t16 fun t17 =>
 shW .shr t17 (N .u64 7) fun t18 =>
 intW .xor t14 t18 fun t19 =>
 ptrW a0 fun t20 =>
 storeW M t20 t19 1 fun M_0 =>
 ptrW a0 fun t22 =>
 load1 M_0 t22 fun t23 =>
 ptrW a0 fun t25 =>
 load1 M_0 t25 fun t26 =>
 shW .shl t26 (N .u64 17) fun t27 =>
 intW .xor t23 t27 fun t28 =>
 ptrW a0 fun t29 =>
 storeW M_0 t29 t28 1 fun M_1 =>
 ptrW a0 fun t31 =>
 load1 M_1 t31 fun t32 =>
 Q t32 M_1
def W_medianAdjacentOrdered_uint64 (p1 : CallT) (a0 a1 a2 : AV) (M0 : RM) (Q : PostV) : Prop :=
 intW .sub a1 (N .i64 1) fun t9 =>
 intW .add a1 (N .i64 1) fun t12 =>
 p1 [a0, t9, a1, t12, a2] M0 fun t14 M =>
 Q t14 M
def W_medianOrdered_uint64 (p1 : CallT) (a0 a1 a2 a3 a4 : AV) (M0 : RM) (Q : PostV) : Prop :=
 p1 [a0, a1, a2, a4] M0 fun t16 M =>
 extW t16 0 fun t17 =>
 extW t16 1 fun t18 =>
 p1 [a0, t18, a3, a4] M fun t24 M_0 =>
 extW t24 0 fun t25 =>
 extW t24 1 fun t26 =>
 p1 [a0, t17, t25, a4] M_0 fun t32 M_1 =>
 extW t32 0 fun t33 =>
 extW t32 1 fun t34 =>
 Q t34 M_1
def W_order2Ordered_uint64 (p1 : CallT) (a0 a1 a2 a3 : AV) (M0 : RM) (Q : PostV) : Prop :=
 idxS a0 a2 1 fun t12 =>
 load1 M0 t12 fun t13 =>
 idxS a0 a1 1 fun t16 =>
 load1 M0 t16 fun t17 =>
 p1 [t13, t17] M0 fun t18 M =>
 condW t18 (
 ptrW a3 fun t20 =>
 load1 M t20 fun t21 =>
 intW .add t21 (N .i64 1) fun t22 =>
 ptrW a3 fun t23 =>
 storeW M t23 t22 1 fun M_0 =>
 Q (.tup [a2, a1]) M_0) (
 Q (.tup [a1, a2]) M)
end Go.Ab.Dot
set_option linter.unusedVariables false
set_option linter.unusedSimpArgs false
namespace Go.Ab
open Go Go.RowKit
def RM.cell (M : RM) (b o : Nat) : Option AV := (M.cells b).bind (·[o]?)
section
variable {M M' : RM} {K : AV → Prop} {KQ : PostV}
theorem loads_cell {b o : Nat} {v : AV} : M.loads b o 1 = some [v] ↔ M.cell b o = some v := by
  unfold RM.loads RM.cell
  cases hc : M.cells b with
  | none => simp
  | some l =>
    simp only [Option.bind_some]
    constructor
    · intro h
      split at h
      · rename_i hlt
        have h1 := Option.some.inj h
        have : ((l.drop o).take 1)[0]? = some v := by rw [h1]; rfl
        rw [List.getElem?_take, if_pos (by omega), List.getElem?_drop] at this
        simpa using this
      · cases h
    · intro h
      have hlt := (List.getElem?_eq_some_iff.1 h).1
      rw [if_pos (by omega)]
      congr 1
      rw [List.drop_eq_getElem_cons hlt]
      simp only [List.take_succ_cons, List.take_zero]
      congr 1
      exact (List.getElem?_eq_some_iff.1 h).2
@[go_sem] theorem load1_ptr (b o : Nat) : load1 M (.ptr b o) K = ∃ v, M.cell b o = some v ∧ K v := by
  apply propext; unfold load1
  constructor
  · rintro ⟨b', o', v, h, hl, hk⟩; cases h; exact ⟨v, loads_cell.1 hl, hk⟩
  · rintro ⟨v, hl, hk⟩; exact ⟨b, o, v, rfl, loads_cell.2 hl, hk⟩
@[go_sem] theorem loadN_ptr (b o n : Nat) : loadN M (.ptr b o) n K = ∃ vs, M.loads b o n = some vs ∧ K (.agg vs) := by
  apply propext; unfold loadN
  constructor
  · rintro ⟨b', o', v, h, hl, hk⟩; cases h; exact ⟨v, hl, hk⟩
  · rintro ⟨v, hl, hk⟩; exact ⟨b, o, v, rfl, hl, hk⟩
@[go_sem] theorem storeW_ptr (b p : Nat) (x : AV) (n : Nat) (K : RM → Prop) : storeW M (.ptr b p) x n K = (x.cells.length = n ∧ ∃ M', M.stores b p x.cells = some M' ∧ K M') := by
  apply propext; unfold storeW
  constructor
  · rintro ⟨b', o', M', h, h1, h2, hk⟩; cases h; exact ⟨h1, M', h2, hk⟩
  · rintro ⟨h1, M', h2, hk⟩; exact ⟨b, p, M', rfl, h1, h2, hk⟩
def andI (k : IntKind) (a b : Int) : Int := k.wrap (BitVec.ofInt k.bits a &&& BitVec.ofInt k.bits b).toNat
def orI (k : IntKind) (a b : Int) : Int := k.wrap (BitVec.ofInt k.bits a ||| BitVec.ofInt k.bits b).toNat
def xorI (k : IntKind) (a b : Int) : Int := k.wrap (BitVec.ofInt k.bits a ^^^ BitVec.ofInt k.bits b).toNat
def andNotI (k : IntKind) (a b : Int) : Int := k.wrap (BitVec.ofInt k.bits a &&& ~~~BitVec.ofInt k.bits b).toNat
def shlI (k : IntKind) (a b : Int) : Int := k.wrap (a * 2 ^ (min b.toNat k.bits))
def shrI (k : IntKind) (a b : Int) : Int := a.fdiv (2 ^ (min b.toNat k.bits))
section
variable (k : IntKind) (a b : Int)
theorem intW_some {op : BinOp} {v : Value} (h : intBin op k a b = some v) : intW op (N k a) (N k b) K = K (.sc v) := by
  apply propext; unfold intW
  constructor
  · rintro ⟨k', a', b', u, h1, h2, h3, hk⟩; cases h1; cases h2; rw [h] at h3; cases h3; exact hk
  · intro hk; exact ⟨k, a, b, v, rfl, rfl, h, hk⟩
@[go_sem] theorem intW_add : intW .add (N k a) (N k b) K = K (N k (k.wrap (a + b))) := intW_some k a b rfl
@[go_sem] theorem intW_sub : intW .sub (N k a) (N k b) K = K (N k (k.wrap (a - b))) := intW_some k a b rfl
@[go_sem] theorem intW_mul : intW .mul (N k a) (N k b) K = K (N k (k.wrap (a * b))) := intW_some k a b rfl
@[go_sem] theorem intW_and : intW .and (N k a) (N k b) K = K (N k (andI k a b)) := intW_some k a b rfl
@[go_sem] theorem intW_or : intW .or (N k a) (N k b) K = K (N k (orI k a b)) := intW_some k a b rfl
@[go_sem] theorem intW_xor : intW .xor (N k a) (N k b) K = K (N k (xorI k a b)) := intW_some k a b rfl
@[go_sem] theorem intW_andNot : intW .andNot (N k a) (N k b) K = K (N k (andNotI k a b)) := intW_some k a b rfl
@[go_sem] theorem intW_eql : intW .eql (N k a) (N k b) K = K (Bo (a == b)) := intW_some k a b rfl
@[go_sem] theorem intW_neq : intW .neq (N k a) (N k b) K = K (Bo (a != b)) := intW_some k a b rfl
@[go_sem] theorem intW_lss : intW .lss (N k a) (N k b) K = K (Bo (decide (a < b))) := intW_some k a b rfl
@[go_sem] theorem intW_leq : intW .leq (N k a) (N k b) K = K (Bo (decide (a ≤ b))) := intW_some k a b rfl
@[go_sem] theorem intW_gtr : intW .gtr (N k a) (N k b) K = K (Bo (decide (a > b))) := intW_some k a b rfl
@[go_sem] theorem intW_geq : intW .geq (N k a) (N k b) K = K (Bo (decide (a ≥ b))) := intW_some k a b rfl
@[go_sem] theorem intW_quo : intW .quo (N k a) (N k b) K = (b ≠ 0 ∧ K (N k (k.wrap (a.tdiv b)))) := by
  apply propext; unfold intW intBin
  constructor
  · rintro ⟨k', a', b', u, h1, h2, h3, hk⟩; cases h1; cases h2
    simp only at h3
    split at h3
    · cases h3
    · cases h3; exact ⟨‹_›, hk⟩
  · rintro ⟨h0, hk⟩; exact ⟨k, a, b, _, rfl, rfl, by simp only [if_neg h0], hk⟩
@[go_sem] theorem intW_rem : intW .rem (N k a) (N k b) K = (b ≠ 0 ∧ K (N k (a.tmod b))) := by
  apply propext; unfold intW intBin
  constructor
  · rintro ⟨k', a', b', u, h1, h2, h3, hk⟩; cases h1; cases h2
    simp only at h3
    split at h3
    · cases h3
    · cases h3; exact ⟨‹_›, hk⟩
  · rintro ⟨h0, hk⟩; exact ⟨k, a, b, _, rfl, rfl, by simp only [if_neg h0], hk⟩
variable (l : IntKind)
@[go_sem] theorem shW_shl : shW .shl (N k a) (N l b) K = (0 ≤ b ∧ K (N k (shlI k a b))) := by
  apply propext; unfold shW intSh
  constructor
  · rintro ⟨k', a', l', b', u, h1, h2, h3, hk⟩; cases h1; cases h2
    split at h3
    · cases h3
    · cases h3; exact ⟨by omega, hk⟩
  · rintro ⟨h0, hk⟩; exact ⟨k, a, l, b, _, rfl, rfl, by rw [if_neg (by omega)]; rfl, hk⟩
@[go_sem] theorem shW_shr : shW .shr (N k a) (N l b) K = (0 ≤ b ∧ K (N k (shrI k a b))) := by
  apply propext; unfold shW intSh
  constructor
  · rintro ⟨k', a', l', b', u, h1, h2, h3, hk⟩; cases h1; cases h2
    split at h3
    · cases h3
    · cases h3; exact ⟨by omega, hk⟩
  · rintro ⟨h0, hk⟩; exact ⟨k, a, l, b, _, rfl, rfl, by rw [if_neg (by omega)]; rfl, hk⟩
@[go_sem] theorem runeW_N {l : IntKind} {a : Int} {K : AV → Prop} : runeW (N l a) K = K (St (Utf8.encode a).data.toList) := by
  apply propext; unfold runeW
  constructor
  · rintro ⟨l', n, h, hk⟩; cases h; exact hk
  · intro h; exact ⟨_, _, rfl, h⟩
@[go_sem] theorem cvtW_N : cvtW k (N l a) K = K (N k (k.wrap a)) := by
  apply propext; unfold cvtW
  constructor
  · rintro ⟨l', n, h, hk⟩; cases h; exact hk
  · intro hk; exact ⟨l, a, rfl, hk⟩
@[go_sem] theorem minW_N (mx : Bool) : minW mx (N k a) (N k b) K = K (N k (if mx then (if b > a then b else a) else (if b < a then b else a))) := by
  apply propext; unfold minW
  constructor
  · rintro ⟨k', a', b', h1, h2, hk⟩; cases h1; cases h2; exact hk
  · intro hk; exact ⟨k, a, b, rfl, rfl, hk⟩
@[go_sem] theorem negW_N : negW (N k a) K = K (N k (k.wrap (0 - a))) := by
  apply propext; unfold negW
  constructor
  · rintro ⟨k', a', h1, hk⟩; cases h1; exact hk
  · intro hk; exact ⟨k, a, rfl, hk⟩
end
@[go_sem] theorem notW_Bo (b : Bool) : notW (Bo b) K = K (Bo (!b)) := by
  apply propext; unfold notW
  constructor
  · rintro ⟨b', h, hk⟩; cases h; exact hk
  · intro hk; exact ⟨b, rfl, hk⟩
@[go_sem] theorem boolEqW_Bo (neg a b : Bool) : boolEqW neg (Bo a) (Bo b) K = K (Bo ((a == b) != neg)) := by
  apply propext; unfold boolEqW
  constructor
  · rintro ⟨a', b', h, h', hk⟩; cases h; cases h'; exact hk
  · intro hk; exact ⟨a, b, rfl, rfl, hk⟩
@[go_sem] theorem pickW_Bo (t : Bool) (a b : AV) : pickW (Bo t) a b K = K (if t then a else b) := by
  apply propext; unfold pickW
  constructor
  · rintro ⟨t', h, hk⟩; cases h; exact hk
  · intro hk; exact ⟨t, rfl, hk⟩
@[go_sem] theorem condW_Bo (b : Bool) (p q : Prop) : condW (Bo b) p q = ((b = true → p) ∧ (b = false → q)) := rfl
@[go_sem] theorem guardW_Bo {α : Type} (b want : Bool) (f g : α → Prop) (k : α) : guardW (Bo b) want f g k = if b = want then f k else g k := rfl
@[go_sem] theorem guardW_undef {α : Type} (want : Bool) (f g : α → Prop) (k : α) : guardW .undef want f g k = g k := rfl
@[go_sem] theorem ptrW_ptr (b o : Nat) : ptrW (.ptr b o) K = K (.ptr b o) := by
  apply propext; unfold ptrW
  constructor
  · rintro ⟨b', o', h, hk⟩; cases h; exact hk
  · intro hk; exact ⟨b, o, rfl, hk⟩
@[go_sem] theorem fldW_ptr (b o n : Nat) : fldW (.ptr b o) n K = K (.ptr b (o + n)) := by
  apply propext; unfold fldW
  constructor
  · rintro ⟨b', o', h, hk⟩; cases h; exact hk
  · intro hk; exact ⟨b, o, rfl, hk⟩
@[go_sem] theorem idxS_slc (b p len : Nat) (cap : Cap) (k : IntKind) (n : Int) (size : Nat) : idxS (.slc b p len cap) (N k n) size K = (0 ≤ n ∧ n < len ∧ K (.ptr b (p + n.toNat * size))) := by
  apply propext; unfold idxS
  constructor
  · rintro ⟨b', p', l', c', k', n', h, h', h0, h1, hk⟩; cases h; cases h'; exact ⟨h0, h1, hk⟩
  · rintro ⟨h0, h1, hk⟩; exact ⟨b, p, len, cap, k, n, rfl, rfl, h0, h1, hk⟩
@[go_sem] theorem idxA_ptr (b p : Nat) (k : IntKind) (n : Int) (len size : Nat) : idxA (.ptr b p) (N k n) len size K = (0 ≤ n ∧ n < len ∧ K (.ptr b (p + n.toNat * size))) := by
  apply propext; unfold idxA
  constructor
  · rintro ⟨b', p', k', n', h, h', h0, h1, hk⟩; cases h; cases h'; exact ⟨h0, h1, hk⟩
  · rintro ⟨h0, h1, hk⟩; exact ⟨b, p, k, n, rfl, rfl, h0, h1, hk⟩
@[go_sem] theorem part1_agg (cs : List AV) (off : Nat) : part1 (.agg cs) off K = ∃ v, cs[off]? = some v ∧ K v := by
  apply propext; unfold part1
  constructor
  · rintro ⟨cs', v, h, h1, hk⟩; cases h; exact ⟨v, h1, hk⟩
  · rintro ⟨v, h1, hk⟩; exact ⟨cs, v, rfl, h1, hk⟩
@[go_sem] theorem partN_agg (cs : List AV) (off n : Nat) : partN (.agg cs) off n K = (off + n ≤ cs.length ∧ K (.agg ((cs.drop off).take n))) := by
  apply propext; unfold partN
  constructor
  · rintro ⟨cs', h, h1, hk⟩; cases h; exact ⟨h1, hk⟩
  · rintro ⟨h1, hk⟩; exact ⟨cs, rfl, h1, hk⟩
@[go_sem] theorem idxP1_agg (cs : List AV) (k : IntKind) (n : Int) (len : Nat) : idxP1 (.agg cs) (N k n) len K = (0 ≤ n ∧ n < len ∧ ∃ v, cs[n.toNat]? = some v ∧ K v) := by
  apply propext; unfold idxP1
  constructor
  · rintro ⟨cs', k', n', v, h, h', h0, h1, h2, hk⟩; cases h; cases h'; exact ⟨h0, h1, v, h2, hk⟩
  · rintro ⟨h0, h1, v, h2, hk⟩; exact ⟨cs, k, n, v, rfl, rfl, h0, h1, h2, hk⟩
@[go_sem] theorem idxPN_agg (cs : List AV) (k : IntKind) (n : Int) (len size : Nat) : idxPN (.agg cs) (N k n) len size K = (0 ≤ n ∧ n < len ∧ n.toNat * size + size ≤ cs.length ∧ K (.agg ((cs.drop (n.toNat * size)).take size))) := by
  apply propext; unfold idxPN
  constructor
  · rintro ⟨cs', k', n', h, h', h0, h1, h2, hk⟩; cases h; cases h'; exact ⟨h0, h1, h2, hk⟩
  · rintro ⟨h0, h1, h2, hk⟩; exact ⟨cs, k, n, rfl, rfl, h0, h1, h2, hk⟩
@[go_sem] theorem idxB_St (s : List UInt8) (k : IntKind) (n : Int) : idxB (St s) (N k n) K = (0 ≤ n ∧ ∃ b, s[n.toNat]? = some b ∧ K (N .u8 b.toNat)) := by
  apply propext; unfold idxB
  constructor
  · rintro ⟨s', k', n', b, h, h', h0, h1, hk⟩; cases h; cases h'; exact ⟨h0, b, h1, hk⟩
  · rintro ⟨h0, b, h1, hk⟩; exact ⟨s, k, n, b, rfl, rfl, h0, h1, hk⟩
@[go_sem] theorem extW_tup (vs : List AV) (i : Nat) : extW (.tup vs) i K = ∃ v, vs[i]? = some v ∧ K v := by
  apply propext; unfold extW
  constructor
  · rintro ⟨cs', v, h, h1, hk⟩; cases h; exact ⟨v, h1, hk⟩
  · rintro ⟨v, h1, hk⟩; exact ⟨vs, v, rfl, h1, hk⟩
@[go_sem] theorem getW_some (v : AV) : getW (some v) K = K v := by
  apply propext; unfold getW
  constructor
  · rintro ⟨v', h, hk⟩; cases h; exact hk
  · intro hk; exact ⟨v, rfl, hk⟩
@[go_sem] theorem lenW_slc (b o n : Nat) (c : Cap) : lenW (.slc b o n c) K = K (N .i64 n) := by
  apply propext; unfold lenW
  constructor
  · rintro ⟨n', h, hk⟩; cases h; exact hk
  · intro hk; exact ⟨n, rfl, hk⟩
@[go_sem] theorem lenW_emp (b : Nat) : lenW (.emp b) K = K (N .i64 0) := by
  apply propext; unfold lenW
  constructor
  · rintro ⟨n', h, hk⟩; cases h; exact hk
  · intro hk; exact ⟨0, rfl, hk⟩
@[go_sem] theorem lenW_nil : lenW (.sc (.slice none 0 0)) K = K (N .i64 0) := by
  apply propext; unfold lenW
  constructor
  · rintro ⟨n', h, hk⟩; cases h; exact hk
  · intro hk; exact ⟨0, rfl, hk⟩
@[go_sem] theorem lenStr_St (s : List UInt8) : lenStr (St s) K = K (N .i64 s.length) := by
  apply propext; unfold lenStr
  constructor
  · rintro ⟨s', h, hk⟩; cases h; exact hk
  · intro hk; exact ⟨s, rfl, hk⟩
@[go_sem] theorem capW_ex (b o n c : Nat) : capW (.slc b o n (.ex c)) K = K (N .i64 c) := by
  apply propext; unfold capW
  constructor
  · rintro ⟨n', h, hk⟩; cases h; exact hk
  · intro hk; exact ⟨c, rfl, hk⟩
@[go_sem] theorem capW_nil : capW (.sc (.slice none 0 0)) K = K (N .i64 0) := by
  apply propext; unfold capW
  constructor
  · rintro ⟨n', h, hk⟩; cases h; exact hk
  · intro hk; exact ⟨0, rfl, hk⟩
@[go_sem] theorem isStr_St (s : List UInt8) : isStr (St s) K = K (St s) := by
  apply propext; unfold isStr
  constructor
  · rintro ⟨s', h, hk⟩; cases h; exact hk
  · intro hk; exact ⟨s, rfl, hk⟩
@[go_sem] theorem strOfW_some {x : AV} {s : List UInt8} (h : toStr M x = some s) : strOfW M x K = K (St s) := by
  apply propext; unfold strOfW
  constructor
  · rintro ⟨s', h', hk⟩; rw [h] at h'; cases h'; exact hk
  · intro hk; exact ⟨s, h, hk⟩
theorem strW_some {op : BinOp} {a b : List UInt8} {v : AV} (h : strOp op a b = some v) : strW op (St a) (St b) K = K v := by
  apply propext; unfold strW
  constructor
  · rintro ⟨a', b', u, h1, h2, h3, hk⟩; cases h1; cases h2; rw [h] at h3; cases h3; exact hk
  · intro hk; exact ⟨a, b, v, rfl, rfl, h, hk⟩
@[go_sem] theorem strW_eql (a b : List UInt8) : strW .eql (St a) (St b) K = K (Bo (a == b)) := by rw [← bytesEq_iff]; exact strW_some rfl
@[go_sem] theorem strW_neq (a b : List UInt8) : strW .neq (St a) (St b) K = K (Bo (a != b)) := by rw [bne, ← bytesEq_iff]; exact strW_some rfl
@[go_sem] theorem strW_lss (a b : List UInt8) : strW .lss (St a) (St b) K = K (Bo (Op.bytesLess a b)) := strW_some rfl
@[go_sem] theorem strW_leq (a b : List UInt8) : strW .leq (St a) (St b) K = K (Bo (Op.bytesLess a b || a == b)) := by rw [← bytesEq_iff]; exact strW_some rfl
@[go_sem] theorem strW_gtr (a b : List UInt8) : strW .gtr (St a) (St b) K = K (Bo (!(Op.bytesLess a b || a == b))) := by rw [← bytesEq_iff]; exact strW_some rfl
@[go_sem] theorem strW_geq (a b : List UInt8) : strW .geq (St a) (St b) K = K (Bo (!Op.bytesLess a b)) := strW_some rfl
@[go_sem] theorem strW_add (a b : List UInt8) : strW .add (St a) (St b) K = (a.length + b.length ≤ 9223372036854775807 ∧ K (St (a ++ b))) := by
  apply propext; unfold strW
  constructor
  · rintro ⟨a', b', u, h1, h2, h3, hk⟩; cases h1; cases h2
    simp only [strOp] at h3
    split at h3
    · rename_i hb; cases h3; exact ⟨ble_t hb, hk⟩
    · cases h3
  · rintro ⟨h0, hk⟩; exact ⟨a, b, _, rfl, rfl, by simp only [strOp, ble_iff.2 h0], hk⟩
theorem refEqW_some {neg : Bool} {tag : Nat} {x y : AV} {r : Bool} (ht : tagOf x = tag) (h : refEq x y = some r) : refEqW neg tag x y K = K (Bo (r != neg)) := by
  apply propext; unfold refEqW
  constructor
  · rintro ⟨_, r', h', hk⟩; rw [h] at h'; cases h'; exact hk
  · intro hk; exact ⟨ht, r, h, hk⟩
@[go_sem] theorem refEqW_nil_nil (neg : Bool) : refEqW neg 2 (.sc (.slice none 0 0)) (.sc (.slice none 0 0)) K = K (Bo (!neg)) := (refEqW_some (tag := 2) (r := true) rfl rfl).trans (by cases neg <;> rfl)
@[go_sem] theorem refEqW_emp_nil (neg : Bool) (b : Nat) : refEqW neg 2 (.emp b) (.sc (.slice none 0 0)) K = K (Bo neg) := (refEqW_some (tag := 2) (r := false) rfl rfl).trans (by cases neg <;> rfl)
@[go_sem] theorem refEqW_slc_nil (neg : Bool) (b o n : Nat) (c : Cap) : refEqW neg 2 (.slc b o n c) (.sc (.slice none 0 0)) K = K (Bo neg) := (refEqW_some (tag := 2) (r := false) rfl rfl).trans (by cases neg <;> rfl)
@[go_sem] theorem refEqW_ptr_nil (neg : Bool) (b o : Nat) : refEqW neg 1 (.ptr b o) (.sc (.pointer none)) K = K (Bo neg) := (refEqW_some (tag := 1) (r := false) rfl rfl).trans (by cases neg <;> rfl)
@[go_sem] theorem refEqW_nilp_nil (neg : Bool) : refEqW neg 1 (.sc (.pointer none)) (.sc (.pointer none)) K = K (Bo (!neg)) := (refEqW_some (tag := 1) (r := true) rfl rfl).trans (by cases neg <;> rfl)
@[go_sem] theorem refEqW_map_nil (neg : Bool) (b : Nat) : refEqW neg 3 (.map b) (.sc (.map none)) K = K (Bo neg) := (refEqW_some (tag := 3) (r := false) rfl rfl).trans (by cases neg <;> rfl)
@[go_sem] theorem refEqW_fn_nil (neg : Bool) (f : Fn) (xs ys : List AV) : refEqW neg 4 (.fn f xs ys) (.sc .nilFunc) K = K (Bo neg) := (refEqW_some (tag := 4) (r := false) rfl rfl).trans (by cases neg <;> rfl)
@[go_sem] theorem aggEqW_agg (neg : Bool) (ks : List Nat) (cs ds : List AV) : aggEqW neg ks (.agg cs) (.agg ds) K = (cs.length = ks.length ∧ ds.length = ks.length ∧ ∃ r, flatEq ks cs ds = some r ∧ K (Bo (r != neg))) := by
  apply propext; unfold aggEqW
  constructor
  · rintro ⟨a', b', r, h1, h2, h3, h4, h5, hk⟩; cases h1; cases h2; exact ⟨h3, h4, r, h5, hk⟩
  · rintro ⟨h3, h4, r, h5, hk⟩; exact ⟨cs, ds, r, rfl, rfl, h3, h4, h5, hk⟩
@[go_sem] theorem callV_fn (C : FuncId → CallT) (g : FuncId) (first cap args : List AV) : callV C (.fn (.func g) first cap) args M KQ = C g (first ++ args ++ cap) M KQ := by
  apply propext; unfold callV
  constructor
  · rintro ⟨g', f', c', h, hk⟩; cases h; exact hk
  · intro hk; exact ⟨g, first, cap, rfl, hk⟩
@[go_sem] theorem buildW_eq (cs : List AV) (parts : List (Nat × Nat × AV)) : buildW cs parts K = ∃ cs', fillL cs parts = some cs' ∧ K (.agg cs') := rfl
@[go_sem] theorem newW_eq (x : RB) (mk : Nat → AV) : newW x mk M KQ = KQ (mk M.next) (M.push x) := rfl
@[go_sem] theorem newR_eq (x : RB) (mk : Nat → AV) (k : KR) : newR x mk M k = k (mk M.next) (M.push x) (some M.next) := rfl
@[go_sem] theorem joinW_eq (f : (List AV → RM → Prop) → Prop) (g : List AV → RM → Prop) : joinW f g = f g := rfl
@[go_sem] theorem nthD_zero (x : AV) (xs : List AV) : nthD (x :: xs) 0 = x := rfl
@[go_sem] theorem nthD_succ (x : AV) (xs : List AV) (n : Nat) : nthD (x :: xs) (n + 1) = nthD xs n := rfl
@[go_sem] theorem sameB_some (b : Nat) (x : RB) (mk : Nat → AV) (v : AV) : sameB (some b) M x mk v = (M.heap b = some x ∧ mk b = v) := rfl
end
section
variable {M M' : RM}
theorem RM.cells_row {b : Nat} {l : List AV} {opn : Bool} {el fz : Nat} (h : M.heap b = some (.row l opn el fz)) : M.cells b = some l := by simp [RM.cells, h]
theorem RM.cell_row {b o : Nat} {l : List AV} {opn : Bool} {el fz : Nat} (h : M.heap b = some (.row l opn el fz)) : M.cell b o = l[o]? := by simp [RM.cell, RM.cells_row h]
theorem RM.loads_row {b o k : Nat} {l : List AV} {opn : Bool} {el fz : Nat} (h : M.heap b = some (.row l opn el fz)) (hk : o + k ≤ l.length) : M.loads b o k = some ((l.drop o).take k) := by
  simp [RM.loads, RM.cells_row h, hk]
theorem RM.stores_row {b o : Nat} {l vs : List AV} {opn : Bool} {el fz : Nat} (h : M.heap b = some (.row l opn el fz)) (h1 : o + vs.length ≤ l.length) (h2 : fz ≤ o) (h3 : vs.all oneCell = true) :
    M.stores b o vs = some (M.put b (.row (l.take o ++ vs ++ l.drop (o + vs.length)) opn el fz)) := by
  simp only [RM.stores, h]
  rw [if_pos ⟨h1, h2, h3⟩]
structure Keep (bs : List Nat) (M M' : RM) : Prop where
  base : M'.base = M.base
  next : M.next ≤ M'.next
  heap : ∀ c, c < M.next → c ∉ bs → M'.heap c = M.heap c
theorem Keep.refl (bs : List Nat) (M : RM) : Keep bs M M := ⟨rfl, Nat.le_refl _, fun _ _ _ => rfl⟩
theorem Keep.trans {bs : List Nat} {M1 M2 : RM} (h : Keep bs M M1) (k : Keep bs M1 M2) : Keep bs M M2 :=
  ⟨k.base.trans h.base, Nat.le_trans h.next k.next, fun c hc hb => (k.heap c (Nat.lt_of_lt_of_le hc h.next) hb).trans (h.heap c hc hb)⟩
theorem Keep.push {bs : List Nat} (h : Keep bs M M') (x : RB) : Keep bs M (M'.push x) :=
  ⟨h.base, Nat.le_succ_of_le h.next, fun c hc hb => by
    have := h.next
    simp only [RM.push]; rw [if_neg (by omega)]; exact h.heap c hc hb⟩
theorem Keep.put {bs : List Nat} (h : Keep bs M M') {b : Nat} (x : RB) (hb : M.next ≤ b ∨ b ∈ bs) : Keep bs M (M'.put b x) :=
  ⟨h.base, h.next, fun c hc hcb => by
    simp only [RM.put]; rw [if_neg]
    · exact h.heap c hc hcb
    · rintro rfl; rcases hb with hb | hb
      · omega
      · exact hcb hb⟩
theorem Keep.del {bs : List Nat} (h : Keep bs M M') {b : Nat} (hb : M.next ≤ b ∨ b ∈ bs) : Keep bs M (M'.del b) :=
  ⟨h.base, h.next, fun c hc hcb => by
    simp only [RM.del]; rw [if_neg]
    · exact h.heap c hc hcb
    · rintro rfl; rcases hb with hb | hb
      · omega
      · exact hcb hb⟩
theorem Keep.mono {bs cs : List Nat} (h : Keep bs M M') (hs : ∀ b ∈ bs, b ∈ cs) : Keep cs M M' := ⟨h.base, h.next, fun c hc hb => h.heap c hc fun h => hb (hs c h)⟩
theorem Keep.then_new {bs : List Nat} {M1 M2 : RM} {cs : List Nat} (h : Keep bs M M1) (k : Keep cs M1 M2) (hn : ∀ c ∈ cs, M.next ≤ c ∨ c ∈ bs) : Keep bs M M2 :=
  ⟨k.base.trans h.base, Nat.le_trans h.next k.next, fun c hc hb => by
    rw [k.heap c (Nat.lt_of_lt_of_le hc h.next) (fun hm => by rcases hn c hm with h1 | h1; omega; exact hb h1), h.heap c hc hb]⟩
theorem Keep.cells {bs : List Nat} (h : Keep bs M M') {b : Nat} (hlt : b < M.next) (hb : b ∉ bs) : M'.cells b = M.cells b := by
  simp only [RM.cells, h.heap b hlt hb, RM.lo, h.base]
theorem Keep.cell {bs : List Nat} (h : Keep bs M M') {b o : Nat} (hlt : b < M.next) (hb : b ∉ bs) : M'.cell b o = M.cell b o := by
  simp only [RM.cell, h.cells hlt hb]
theorem Keep.loads {bs : List Nat} (h : Keep bs M M') {b o k : Nat} (hlt : b < M.next) (hb : b ∉ bs) : M'.loads b o k = M.loads b o k := by
  simp only [RM.loads, h.cells hlt hb]
@[go_sem] theorem RM.push_next (x : RB) : (M.push x).next = M.next + 1 := rfl
@[go_sem] theorem RM.put_next (b : Nat) (x : RB) : (M.put b x).next = M.next := rfl
@[go_sem] theorem RM.del_next (b : Nat) : (M.del b).next = M.next := rfl
@[go_sem] theorem RM.push_new (x : RB) : (M.push x).heap M.next = some x := by simp [RM.push]
theorem RM.push_old {x : RB} {c : Nat} (h : c ≠ M.next) : (M.push x).heap c = M.heap c := by simp [RM.push, h]
@[go_sem] theorem RM.put_same (b : Nat) (x : RB) : (M.put b x).heap b = some x := by simp [RM.put]
end
end Go.Ab
set_option linter.unusedVariables false
set_option linter.unusedSimpArgs false
namespace Go.Ab
open Go Go.RowKit
abbrev nilS : AV := .sc (.slice none 0 0)
inductive SlR (M : RM) (size : Nat) : AV → List AV → Nat → Prop
  | nil : SlR M size nilS [] 0
  | emp (b : Nat) : SlR M size (.emp b) [] 0
  | slc (b o n : Nat) (cap : Cap) (cs : List AV) : b < M.next → M.loads b o (n * size) = some cs → SlR M size (.slc b o n cap) cs n
section
variable {M M' : RM} {size : Nat} {v : AV} {cs : List AV} {n : Nat}
theorem loads_len {b o k : Nat} {cs : List AV} (h : M.loads b o k = some cs) : cs.length = k := by
  unfold RM.loads at h
  split at h <;> first | (cases h; done) | skip
  split at h <;> first | (cases h; done) | skip
  rename_i hle
  have := Option.some.inj h
  rw [← this, List.length_take, List.length_drop]; omega
theorem loads_get {b o k : Nat} {cs : List AV} (h : M.loads b o k = some cs) (i : Nat) (hi : i < k) : M.cell b (o + i) = cs[i]? := by
  unfold RM.loads at h
  unfold RM.cell
  split at h <;> first | (cases h; done) | skip
  rename_i l hl
  split at h <;> first | (cases h; done) | skip
  cases h
  simp only [hl, Option.bind_some]
  rw [List.getElem?_take, if_pos hi, List.getElem?_drop]
theorem loads_sub {b o k : Nat} {cs : List AV} (h : M.loads b o k = some cs) (i j : Nat) (hij : i + j ≤ k) : M.loads b (o + i) j = some ((cs.drop i).take j) := by
  unfold RM.loads at h ⊢
  cases hl : M.cells b with
  | none => rw [hl] at h; cases h
  | some l =>
    rw [hl] at h
    simp only at h ⊢
    split at h
    · rename_i hle
      have h := Option.some.inj h
      subst h
      rw [if_pos (by omega), List.drop_take, List.drop_drop, List.take_take]
      congr 2
      omega
    · cases h
theorem loads_zero {b o : Nat} {l : List AV} (h : M.cells b = some l) (ho : o ≤ l.length) : M.loads b o 0 = some [] := by
  simp [RM.loads, h, ho]
theorem SlR.length (h : SlR M size v cs n) : cs.length = n * size := by
  cases h with
  | nil => exact (Nat.zero_mul _).symm
  | emp => exact (Nat.zero_mul _).symm
  | slc b o n cap cs hb0 hl => exact loads_len hl
theorem SlR.len (h : SlR M size v cs n) {K : AV → Prop} : lenW v K = K (N .i64 n) := by
  cases h with
  | nil => exact lenW_nil
  | emp b => exact lenW_emp b
  | slc b o n cap cs hb0 hl => exact lenW_slc b o n cap
theorem SlR.newL (h : SlR M size v cs n) (zs : List AV) : newL M size zs false v = some (n, cs) := by
  cases h with
  | nil => rfl
  | emp b => rfl
  | slc b o n cap cs hb0 hl => simp only [Go.Ab.newL, hl]
theorem SlR.pos (h : SlR M size v cs n) (hn : 0 < n) : ∃ b o cap, v = .slc b o n cap ∧ b < M.next ∧ M.loads b o (n * size) = some cs := by
  cases h with
  | nil => omega
  | emp b => omega
  | slc b o n cap cs hb0 hl => exact ⟨b, o, cap, rfl, hb0, hl⟩
def blkOf : AV → List Nat
  | .slc b _ _ _ => [b]
  | _ => []
theorem SlR.keep {bs : List Nat} (h : SlR M size v cs n) (hk : Keep bs M M') (hb : ∀ b ∈ blkOf v, b ∉ bs) : SlR M' size v cs n := by
  cases h with
  | nil => exact .nil
  | emp b => exact .emp b
  | slc b o n cap cs hb0 hl =>
    exact .slc b o n cap cs (Nat.lt_of_lt_of_le hb0 hk.next) (by rw [hk.loads hb0 (hb b (by simp [blkOf]))]; exact hl)
inductive Own (M : RM) (base el size : Nat) : AV → List AV → Nat → Prop
  | nil : Own M base el size nilS [] 0
  | ex0 (b o : Nat) : base ≤ b → b < M.next → (∃ l, M.cells b = some l ∧ o ≤ l.length) → Own M base el size (.slc b o 0 (.ex 0)) [] 0
  | op (b n : Nat) (cs : List AV) : base ≤ b → b < M.next → M.heap b = some (.row cs true el 0) → cs.length = n * size → Own M base el size (.slc b 0 n (.op size)) cs n
theorem Own.slR {base el : Nat} (h : Own M base el size v cs n) : SlR M size v cs n := by
  cases h with
  | nil => exact .nil
  | ex0 b o hb hlt hc =>
    obtain ⟨l, hl, ho⟩ := hc
    exact .slc b o 0 _ [] hlt (by rw [Nat.zero_mul]; exact loads_zero hl ho)
  | op b n cs hb hlt hh hl =>
    refine .slc b 0 n _ cs hlt ?_
    rw [RM.loads_row hh (by omega)]
    simp [← hl]
theorem Own.blk {base el : Nat} (h : Own M base el size v cs n) : ∀ b ∈ blkOf v, base ≤ b ∧ b < M.next := by
  cases h with
  | nil => intro b hb; simp [blkOf] at hb
  | ex0 b o hb hlt hc => intro c hc; simp [blkOf] at hc; subst hc; exact ⟨hb, hlt⟩
  | op b n cs hb hlt hh hl => intro c hc; simp [blkOf] at hc; subst hc; exact ⟨hb, hlt⟩
theorem Own.keep {base el : Nat} {bs : List Nat} (h : Own M base el size v cs n) (hk : Keep bs M M') (hb : ∀ b ∈ blkOf v, b ∉ bs) : Own M' base el size v cs n := by
  cases h with
  | nil => exact .nil
  | ex0 b o h1 hlt hc => exact .ex0 b o h1 (Nat.lt_of_lt_of_le hlt hk.next) (by rw [hk.cells hlt (hb b (by simp [blkOf]))]; exact hc)
  | op b n cs h1 hlt hh hl => exact .op b n cs h1 (Nat.lt_of_lt_of_le hlt hk.next) (by rw [hk.heap b hlt (hb b (by simp [blkOf]))]; exact hh) hl
theorem Own.mono {base base' el : Nat} (h : Own M base el size v cs n) (hb : base' ≤ base) : Own M base' el size v cs n := by
  cases h with
  | nil => exact .nil
  | ex0 b o h1 hlt hc => exact .ex0 b o (Nat.le_trans hb h1) hlt hc
  | op b n cs h1 hlt hh hl => exact .op b n cs (Nat.le_trans hb h1) hlt hh hl
theorem app_own {base el bytes : Nat} {zs : List AV} {zeros : Bool} {x : AV} {m : Nat} {ds : List AV} {K : PostV} (h : Own M base el size v cs n) (hbase : base ≤ M.next) (hs : 1 ≤ size) (hx : newL M size zs zeros x = some (m, ds)) (hd : ds.length = m * size)
    (h1 : ds.all oneCell = true) (hb : (n + m) * bytes ≤ 140737488355328) (hb2 : n + m ≤ 140737488355328)
    (hK : ∀ v' M', Own M' base el size v' (cs ++ ds) (n + m) → Keep (blkOf v) M M' → M.next ≤ M'.next → (v' = v ∨ ∀ b ∈ blkOf v', M.next ≤ b) → K v' M') : appW el size bytes zs zeros v x M K := by
  have hmb : m * bytes ≤ 140737488355328 := Nat.le_trans (Nat.mul_le_mul_right _ (by omega)) hb
  refine ⟨m, ds, hx, hmb, by omega, ?_⟩
  cases h with
  | nil =>
    by_cases hm : m = 0
    · subst hm
      have : ds = [] := List.eq_nil_of_length_eq_zero (by simpa using hd)
      subst this
      exact ⟨nilS, M, by simp [appM], hK _ _ .nil (Keep.refl _ _) (Nat.le_refl _) (.inl rfl)⟩
    · refine ⟨.slc M.next 0 m (.op size), M.push (.row ds true el 0), by simp only [appM, if_neg hm, h1, if_true], hK _ _ ?_ ((Keep.refl _ _).push _) (by simp [RM.push]) (.inr fun b hb => by simp [blkOf] at hb; omega)⟩
      simp only [List.nil_append, Nat.zero_add]
      exact .op _ _ _ hbase (by simp [RM.push]) (RM.push_new _) hd
  | ex0 b o hb0 hlt hc =>
    obtain ⟨l, hl, ho⟩ := hc
    by_cases hm : m = 0
    · subst hm
      have : ds = [] := List.eq_nil_of_length_eq_zero (by simpa using hd)
      subst this
      exact ⟨_, M, by simp [appM], hK _ _ (.ex0 b o hb0 hlt ⟨l, hl, ho⟩) (Keep.refl _ _) (Nat.le_refl _) (.inl rfl)⟩
    · refine ⟨.slc M.next 0 m (.op size), M.push (.row ds true el 0), ?_, hK _ _ ?_ ((Keep.refl _ _).push _) (by simp [RM.push]) (.inr fun b hb => by simp [blkOf] at hb; omega)⟩
      · have hl0 : M.loads b o (0 * size) = some [] := by rw [Nat.zero_mul]; exact loads_zero hl ho
        simp only [appM, if_neg hm]
        rw [if_neg (by omega), hl0]
        simp only [Nat.zero_add, List.nil_append]
        rw [if_pos ⟨hmb, by omega, h1⟩]
      · simp only [List.nil_append, Nat.zero_add]
        exact .op _ _ _ hbase (by simp [RM.push]) (RM.push_new _) hd
  | op b n cs hb0 hlt hh hl =>
    by_cases hm : m = 0
    · subst hm
      have : ds = [] := List.eq_nil_of_length_eq_zero (by simpa using hd)
      subst this
      exact ⟨_, M, by simp [appM], hK _ _ (by simpa using .op b n cs hb0 hlt hh hl) (Keep.refl _ _) (Nat.le_refl _) (.inl rfl)⟩
    · have hpos : 1 ≤ m * size := Nat.mul_pos (by omega) hs
      have hsum : (n + m) * size = n * size + m * size := Nat.add_mul _ _ _
      refine ⟨.slc M.next 0 (n + m) (.op size), (M.del b).push (.row (cs ++ ds) true el 0), ?_, hK _ _ ?_ (((Keep.refl _ _).del (.inr (by simp [blkOf]))).push _) (by simp [RM.push, RM.del]) (.inr fun b hb => by simp [blkOf] at hb; omega)⟩
      · simp only [appM, if_neg hm, hh, and_self, if_true]
        rw [if_neg (by omega), if_pos ⟨trivial, hb, hb2, trivial, hl, Nat.zero_le _, h1⟩]
      · exact .op _ _ _ (show base ≤ M.next from hbase) (by simp [RM.push, RM.del]) (by simp [RM.push, RM.del]) (by rw [List.length_append, hl, hd, hsum])
theorem SlR.refEq (h : SlR M size v cs n) (neg : Bool) : (v = nilS ∧ ∀ K : AV → Prop, refEqW neg 2 v nilS K = K (Bo (!neg))) ∨ (v ≠ nilS ∧ ∀ K : AV → Prop, refEqW neg 2 v nilS K = K (Bo neg)) := by
  cases h with
  | nil => exact .inl ⟨rfl, fun _ => refEqW_nil_nil neg⟩
  | emp b => exact .inr ⟨by (intro h; cases h), fun _ => refEqW_emp_nil neg b⟩
  | slc b o n cap cs hb0 hl => exact .inr ⟨by (intro h; cases h), fun _ => refEqW_slc_nil neg b o n cap⟩
theorem Own.lit {base el T : Nat} (M : RM) (h : base ≤ M.next) : Own (M.push (.row [] false T 0)) base el size (.slc M.next 0 0 (.ex 0)) [] 0 :=
  .ex0 _ _ h (by simp [RM.push]) ⟨[], by simp [RM.cells, RM.push], Nat.le_refl _⟩
end
end Go.Ab
set_option maxRecDepth 4000
set_option linter.unusedVariables false
set_option linter.unusedSimpArgs false
namespace Go.Ab
open Go
theorem wrap_u8 (n : Nat) : IntKind.wrap .u8 (n : Int) = ((n % 256 : Nat) : Int) := by
  simp only [IntKind.wrap, IntKind.bits, IntKind.signed, IntKind.max, IntKind.min]
  simp
theorem wrap_u64 (n : Nat) : IntKind.wrap .u64 (n : Int) = ((n % 18446744073709551616 : Nat) : Int) := by
  simp only [IntKind.wrap, IntKind.bits, IntKind.signed, IntKind.max, IntKind.min]
  simp
theorem wrap_u8_id {n : Int} (h0 : 0 ≤ n) (h : n < 256) : IntKind.wrap .u8 n = n := by
  obtain ⟨m, rfl⟩ := Int.eq_ofNat_of_zero_le h0
  rw [wrap_u8, Nat.mod_eq_of_lt (by omega)]
theorem wrap_u64_id {n : Int} (h0 : 0 ≤ n) (h : n < 18446744073709551616) : IntKind.wrap .u64 n = n := by
  obtain ⟨m, rfl⟩ := Int.eq_ofNat_of_zero_le h0
  rw [wrap_u64, Nat.mod_eq_of_lt (by omega)]
theorem wrap_i64_id {n : Int} (h0 : -9223372036854775808 ≤ n) (h : n < 9223372036854775808) : IntKind.wrap .i64 n = n := by
  rw [IntKind.wrap_i64]; omega
theorem and_nat (k : Nat) (a b : Nat) : (BitVec.ofInt k (a : Int) &&& BitVec.ofInt k (b : Int)).toNat = (a &&& b) % 2 ^ k := by
  rw [BitVec.toNat_and, BitVec.ofInt_natCast, BitVec.ofInt_natCast, BitVec.toNat_ofNat, BitVec.toNat_ofNat, ← Nat.and_mod_two_pow]
theorem xor_nat (k : Nat) (a b : Nat) : (BitVec.ofInt k (a : Int) ^^^ BitVec.ofInt k (b : Int)).toNat = (a ^^^ b) % 2 ^ k := by
  rw [BitVec.toNat_xor, BitVec.ofInt_natCast, BitVec.ofInt_natCast, BitVec.toNat_ofNat, BitVec.toNat_ofNat, ← Nat.xor_mod_two_pow]
theorem fdiv_nat (a b : Nat) : ((a : Int).fdiv (b : Int)) = ((a / b : Nat) : Int) := by
  rw [Int.fdiv_eq_ediv_of_nonneg _ (by omega)]; rfl
def ubits : IntKind → Nat
  | .u8 => 8 | .u16 => 16 | .u32 => 32 | _ => 64
def unsig : IntKind → Bool
  | .u8 | .u16 | .u32 | .u64 => true
  | _ => false
theorem wrap_uns {k : IntKind} (h : unsig k = true) (n : Nat) : k.wrap (n : Int) = ((n % 2 ^ ubits k : Nat) : Int) := by
  cases k <;> simp [unsig] at h <;> (simp only [IntKind.wrap, IntKind.bits, IntKind.signed, ubits]; simp)
theorem bits_uns (k : IntKind) (h : unsig k = true) : k.bits = ubits k := by cases k <;> simp [unsig] at h <;> rfl
theorem andI_nat {k : IntKind} (h : unsig k = true) (a b : Nat) : andI k a b = (((a &&& b) % 2 ^ ubits k : Nat) : Int) := by
  unfold andI
  rw [and_nat, wrap_uns h, bits_uns k h, Nat.mod_mod]
theorem xorI_nat {k : IntKind} (h : unsig k = true) (a b : Nat) : xorI k a b = (((a ^^^ b) % 2 ^ ubits k : Nat) : Int) := by
  unfold xorI
  rw [xor_nat, wrap_uns h, bits_uns k h, Nat.mod_mod]
theorem shrI_nat (k : IntKind) (a b : Nat) (hb : b ≤ k.bits) : shrI k a b = ((a / 2 ^ b : Nat) : Int) := by
  unfold shrI
  rw [Int.toNat_natCast, Nat.min_eq_left hb, ← fdiv_nat, Int.natCast_pow]; rfl
theorem shlI_nat {k : IntKind} (h : unsig k = true) (a b : Nat) (hb : b ≤ k.bits) : shlI k a b = ((a * 2 ^ b % 2 ^ ubits k : Nat) : Int) := by
  unfold shlI
  rw [Int.toNat_natCast, Nat.min_eq_left hb, ← wrap_uns h, Int.natCast_mul, Int.natCast_pow]
  rfl
end Go.Ab
set_option linter.unusedVariables false
set_option linter.unusedSimpArgs false
namespace Go.Ab.Dot
open Go Go.Ab
theorem clone_any {T size bytes : Nat} {zs : List AV} {M0 : RM} {a0 : AV} {cs : List AV} {n : Nat} (h : SlR M0 size a0 cs n) (h1 : cs.all oneCell = true) (hs : 1 ≤ size) (hn : n * bytes ≤ 140737488355328) (hn2 : n ≤ 140737488355328) {Q : PostV}
    (hQ : ∀ v M', Own M' M0.next T size v cs n → Keep [] M0 M' → Q v M') :
    refEqW false 2 a0 nilS fun t4 => condW t4 (Q nilS M0) (rowsW T 0 zs [] fun r f => newW r f M0 fun t5 M => appW T size bytes zs false t5 a0 M fun t7 M_0 => Q t7 M_0) := by
  rcases h.refEq false with ⟨rfl, e⟩ | ⟨hne, e⟩
  · rw [e]
    cases h
    exact ⟨fun _ => hQ _ _ .nil (Keep.refl _ _), fun h => by simp at h⟩
  · rw [e]
    refine ⟨fun h => by simp at h, fun _ => ⟨[], rfl, ?_⟩⟩
    have hk : Keep [] M0 (M0.push (.row [] false T 0)) := (Keep.refl _ _).push _
    refine app_own (base := M0.next) (Own.lit M0 (Nat.le_refl _)) (by simp [RM.push]) hs ((h.keep hk (by simp)).newL _) h.length h1 (by rw [Nat.zero_add]; exact hn) (by omega) ?_
    intro v' M' ho hk' hnx hv
    exact hQ v' M' (by simpa using ho) (hk.then_new hk' (by simp [blkOf]))
def CloneC (T size bytes : Nat) (c : CallT) : Prop := ∀ {M0 : RM} {a0 : AV} {cs : List AV} {n : Nat}, SlR M0 size a0 cs n → cs.all oneCell = true → n * bytes ≤ 140737488355328 → n ≤ 140737488355328 → ∀ {Q : PostV},
  (∀ v M', Own M' M0.next T size v cs n → Keep [] M0 M' → Q v M') → c [a0] M0 Q
abbrev bytesC (l : List UInt8) : List AV := l.map fun b => N .u8 b.toNat
end Go.Ab.Dot
set_option linter.unusedVariables false
set_option linter.unusedSimpArgs false
namespace Go.Ab
open Go Go.RowKit
section
variable {P : Program}
theorem MRel.opened {ρ : Ren} {M : RM} {w : World} {b n : Nat} {l : List AV} {el : Nat} {u : Value} (hw : MRel P ρ M w) (hh : M.heap b = some (.row l true el 0)) (hl : l.length = n) (hv : VRel ρ (.slc b 0 n (.op 1)) u) :
    ∃ c, n ≤ c ∧ VRel ρ (.slc b 0 n (.ex c)) u ∧ MRel P ρ (M.put b (.row (l ++ List.replicate (c - n) .top) true el 0)) w := by
  obtain ⟨A, hA⟩ := hw
  obtain ⟨k, i, hb, hp, he, hk, rfl⟩ := slcO_inv hv
  rcases hA.blk b _ hh with ⟨y, hy, hle⟩ | ⟨_, e0, _⟩
  · cases y <;> first | exact hle.elim | skip
    rename_i nn tree zs opn elem fz
    obtain ⟨r1, rfl, rfl, rfl, r5⟩ := hle
    obtain ⟨ob, hob, cs, fr, rfl, hrow⟩ := hA.rel.blk b i _ hb hy
    obtain ⟨h0, hcs, hels⟩ := hrow.opn rfl
    have hk0 : k = 0 := by
      rcases Nat.eq_zero_or_pos k with e | e
      · exact e
      · have : 0 < k * i.esz := Nat.mul_pos e h0
        omega
    subst hk0
    have hsh := hrow.sh0
    rw [← he, Nat.mul_one, hsh, Nat.zero_add] at hcs
    refine ⟨i.capN, by omega, ?_, ⟨{ A with heap := A.heap.set b (.row i.capN (Tree.ofList (l ++ List.replicate (i.capN - n) .top) 0 .leaf) [] true elem 0) }, hA.next, ⟨hA.rel.dom, fun b' i' x hb' hx => ?_, fun b1 b2 i1 i2 x1 x2 p1 p2 g1 g2 e => ?_, fun b' x hx => ?_, fun b' i' x hb' hx => ?_, hA.rel.inv⟩, hA.size, fun c x hx => ?_, hA.old⟩⟩
    · have := VRel.slcS (ρ := ρ) b 0 n i.capN i hb
      rw [Nat.zero_mul] at *
      simpa using this
    · simp only [Tree.get_set] at hx
      by_cases e : b' = b
      · subst e
        rw [if_pos rfl] at hx
        cases hx
        rw [hb] at hb'; cases hb'
        refine ⟨_, hob, cs, fr, rfl, ⟨by rw [hsh]; omega, fun j x hj => ?_, fun j h1 h2 => hrow.free j h1 h2, hrow.mark, fun _ => ⟨h0, by rw [hsh, ← he]; omega, hels⟩, hsh⟩⟩
        obtain ⟨hjlt, hj2⟩ := cellAt_nozeros hj
        rw [Tree.get_ofList] at hj2
        split at hj2
        · rename_i hlt
          rw [Nat.sub_zero] at hj2
          by_cases hjl : j < l.length
          · rw [List.getElem?_append_left hjl] at hj2
            exact hrow.val j x (r5 j x hj2)
          · rw [List.getElem?_append_right (by omega), List.getElem?_replicate] at hj2
            split at hj2
            · cases hj2
              exact ⟨cs[j]'(by omega), by rw [hsh, Nat.zero_add]; simp, .top _⟩
            · cases hj2
        · simp [Tree.get] at hj2
      · rw [if_neg e] at hx
        exact hA.rel.blk b' i' x hb' hx
    · have q : ∀ {b1 x1}, (A.heap.set b (Blk.row i.capN (Tree.ofList (l ++ List.replicate (i.capN - n) .top) 0 .leaf) [] true elem 0)).get b1 = some x1 → ∃ y, A.heap.get b1 = some y := by
        intro b1 x1 h
        rw [Tree.get_set] at h
        by_cases e : b1 = b
        · subst e; exact ⟨_, hy⟩
        · rw [if_neg e] at h; exact ⟨_, h⟩
      obtain ⟨y1, e1⟩ := q g1
      obtain ⟨y2, e2⟩ := q g2
      exact hA.rel.sep _ _ _ _ _ _ p1 p2 e1 e2 e
    · simp only [Tree.get_set] at hx
      by_cases e : b' = b
      · subst e; exact hA.rel.top _ _ hy
      · rw [if_neg e] at hx; exact hA.rel.top _ _ hx
    · simp only [Tree.get_set] at hx
      by_cases e : b' = b
      · subst e; exact hA.rel.lo _ _ _ hb' hy
      · rw [if_neg e] at hx; exact hA.rel.lo _ _ _ hb' hx
    · simp only [RM.put] at hx
      simp only [Tree.get_set]
      by_cases e : c = b
      · subst e
        rw [if_pos rfl] at hx ⊢
        cases hx
        refine .inl ⟨_, rfl, by simp; omega, rfl, rfl, rfl, fun j v hj => ?_⟩
        have hjl := (List.getElem?_eq_some_iff.1 hj).1
        exact cellAt_tree (by simp at hjl; omega) (by rw [Tree.get_ofList, if_pos (by omega)]; simpa using hj)
      · rw [if_neg e] at hx ⊢
        exact hA.blk c x hx
  · cases e0
theorem CallsR.open_cap {f : FuncId} {b n : Nat} {l : List AV} {el : Nat} {rest : List AV} {M : RM} {Q : PostV} (hP : HasBody P f) (hh : M.heap b = some (.row l true el 0)) (hl : l.length = n)
    (h : ∀ c, n ≤ c → CallsR P f (.slc b 0 n (.ex c) :: rest) (M.put b (.row (l ++ List.replicate (c - n) .top) true el 0)) Q) : CallsR P f (.slc b 0 n (.op 1) :: rest) M Q := by
  refine ⟨hP, fun ρ w us hargs hw => ?_⟩
  cases hargs with
  | cons _ u _ us hv hr =>
  obtain ⟨c, hc, hv', hw'⟩ := hw.opened hh hl hv
  refine ((h c hc).2 ρ w (u :: us) (.cons _ _ _ _ hv' hr) hw').mono fun e w' hR => ?_
  obtain ⟨v', v, M', ρ', rfl, k1, k2, k3⟩ := hR
  exact ⟨v', v, M', ρ', rfl, ⟨k1.step, k1.rel, k1.base, k1.next⟩, k2, k3⟩
end
end Go.Ab
set_option linter.unusedVariables false
set_option linter.unusedSimpArgs false
namespace Go.Ab
open Go Go.RowKit
def RM.old (base : Base) (w : World) : RM where
  next := base.n
  heap := fun b => if b < base.n then (match w.heap[b]? with | some (.cells c _ _) => some (.ro c) | _ => none) else none
  base := base
def ren0 (n : Nat) : Ren := fun b => if b < n then some ⟨b, 0, 0, 0⟩ else none
theorem mrel_old {P : Program} {base : Base} {w : World} (hn : base.n = w.heap.size) (hi : base.inv w) : MRel P (ren0 base.n) (RM.old base w) w := by
  refine ⟨{ next := base.n, heap := .leaf }, rfl, ⟨fun b i h => ?_, fun b i x _ h => by simp [Tree.get] at h, fun b _ i _ x _ _ _ h => by simp [Tree.get] at h, fun b x h => by simp [Tree.get] at h, fun b i x _ h => by simp [Tree.get] at h, hi⟩, by simp [RM.old, RM.lo, hn], fun b x h => .inr ?_, fun c hc => by have hc' : c < base.n := hc; simp only [ren0]; rw [if_pos hc']⟩
  · simp only [ren0] at h
    split at h <;> first | (cases h; done) | skip
    cases h
    exact ⟨by assumption, by rw [← hn]; assumption⟩
  · simp only [RM.old] at h
    split at h <;> first | (cases h; done) | skip
    rename_i hlt
    split at h <;> first | (cases h; done) | skip
    rename_i c el fr hh
    cases h
    exact ⟨c, rfl, hlt, el, fr, hh⟩
theorem RM.old_cells {base : Base} {w : World} {b : Nat} {c : Array Value} {el : TypeId} {fr : _} (hb : b < base.n) (h : w.heap[b]? = some (.cells c el fr)) : (RM.old base w).cells b = some (c.toList.map (absV base.n)) := by
  simp only [RM.cells, RM.old, if_pos hb, h]
def absA (lo : Nat) : Value → AV
  | .agg cs => .agg (cs.toList.map (absV lo))
  | v => absV lo v
theorem absL_rel {ρ : Ren} {lo : Nat} (h : ∀ c, c < lo → ρ c = some ⟨c, 0, 0, 0⟩) : ∀ (vs : List Value), LRel ρ (vs.map (absV lo)) vs
  | [] => .nil
  | v :: vs => .cons _ _ _ _ (absV_rel h v) (absL_rel h vs)
theorem absA_rel {ρ : Ren} {lo : Nat} (h : ∀ c, c < lo → ρ c = some ⟨c, 0, 0, 0⟩) (v : Value) : VRel ρ (absA lo v) v := by
  unfold absA
  split
  · exact .agg _ _ (absL_rel h _)
  · exact absV_rel h v
theorem absAs_rel {ρ : Ren} {lo : Nat} (h : ∀ c, c < lo → ρ c = some ⟨c, 0, 0, 0⟩) : ∀ (vs : List Value), LRel ρ (vs.map (absA lo)) vs
  | [] => .nil
  | v :: vs => .cons _ _ _ _ (absA_rel h v) (absAs_rel h vs)
theorem CallsR.close {P : Program} {f : FuncId} {base : Base} {w : World} {us : Array Value} (hn : base.n = w.heap.size) (hi : base.inv w)
    (h : CallsR P f (us.toList.map (absA base.n)) (RM.old base w) fun v _ => v = Bo true) :
    Calls P f us w fun e w' => e = .returned (.bool true) ∧ Below w.heap.size w w' := by
  have hr := mrel_old (P := P) hn hi
  refine ((h.2 (ren0 base.n) w us.toList (absAs_rel (fun c hc => by simp only [ren0]; rw [if_pos hc]) _) hr)).mono fun e w' hR => ?_
  obtain ⟨v', v, M', ρ', rfl, k1, k2, rfl⟩ := hR
  obtain ⟨rfl, _⟩ := sc_inv k2
  refine ⟨rfl, k1.step.os, k1.step.tape, k1.step.output, k1.step.size, fun k hk => k1.step.low k ?_⟩
  show k < base.n
  rw [hn]; exact hk
def otherT : Option TypeDesc → Bool
  | some .bool | some (.int _) | some .string | some (.slice _) | some (.struct _) | some (.array _ _) => false
  | _ => true
inductive Fits (P : Program) (M : RM) : TypeId → List AV → Prop
  | bool (t : TypeId) (b : Bool) : P.underlying t = some .bool → Fits P M t [Bo b]
  | int (t : TypeId) (k : IntKind) (n : Int) : P.underlying t = some (.int k) → k.min ≤ n → n ≤ k.max → Fits P M t [N k n]
  | str (t : TypeId) (s : List UInt8) : P.underlying t = some .string → s.length ≤ reachBytes → Fits P M t [St s]
  | nils (t e : TypeId) : P.underlying t = some (.slice e) → Fits P M t [nilS]
  | emp (t e : TypeId) (b : Nat) : P.underlying t = some (.slice e) → Fits P M t [.emp b]
  | slc (t e : TypeId) (b o n c : Nat) (cs : List AV) : P.underlying t = some (.slice e) → b < M.next → n ≤ c → c * P.bytesOf e ≤ reachBytes → M.loads b o (n * P.cellsOf e) = some cs →
      (∀ i, i < n → Fits P M e ((cs.drop (i * P.cellsOf e)).take (P.cellsOf e))) → Fits P M t [.slc b o n (.ex c)]
  | struct (t : TypeId) (fs : Array Field) (cs : List AV) : P.underlying t = some (.struct fs) → cs.length = P.cellsOf t →
      (∀ (i : Nat) (f : Field), fs[i]? = some f → Fits P M f.type ((cs.drop f.offset).take (P.cellsOf f.type))) → Fits P M t cs
  | array (t e : TypeId) (n : Nat) (cs : List AV) : P.underlying t = some (.array n e) → cs.length = P.cellsOf t →
      (∀ i, i < n → Fits P M e ((cs.drop (i * P.cellsOf e)).take (P.cellsOf e))) → Fits P M t cs
  | other (t : TypeId) (cs : List AV) : otherT (P.underlying t) = true → Fits P M t cs
  | zero (t e : TypeId) (cs : List AV) : P.underlying t = some (.slice e) → P.cellsOf e = 0 → Fits P M t cs
theorem addr_add_zero (a : Addr) : a.add 0 = a := by simp [Addr.add]
theorem cells?_get {w : World} {base : Nat} {a : Addr} {n : Nat} {cs : List Value} (h : w.cells? base a n = some cs) : cs.length = n ∧ ∀ i, i < n → w.cell? (a.add i) = cs[i]? := by
  unfold World.cells? at h
  split at h
  · exact ⟨by simpa using mapM_some_length h, fun i hi => mapM_some_get h i i (by simp [hi])⟩
  · cases h
theorem cell?_at {w : World} {a : Addr} {v : Value} (h : w.cell? a = some v) : ∃ c el fr, w.heap[a.block]? = some (.cells c el fr) ∧ a.spot = none ∧ a.off < c.size ∧ c[a.off]? = some v := by
  unfold World.cell? at h
  split at h
  · rename_i c el fr hh
    split at h
    · cases h
    · rename_i hs
      exact ⟨c, el, fr, hh, by simpa using hs, (Array.getElem?_eq_some_iff.1 h).1, h⟩
  · cases h
section
variable {H : Type} {enc : TypeId × Value → H} {P : Program} {base : Base} {w : World}
theorem mem_weightsAll {e : TypeId} {ds : List (DataW H)} {d : DataW H} (hd : d ∈ ds) {x : Nat} (hx : x ∈ d.weights P e) : x ∈ DataW.weightsAll P e ds := by
  induction ds with
  | nil => cases hd
  | cons y ys ih =>
    simp only [DataW.weightsAll, List.mem_append]
    rcases List.mem_cons.1 hd with rfl | hd
    · exact .inl hx
    · exact .inr (ih hd)
theorem mem_weightsEach {x : Nat} : ∀ (ts : List TypeId) (ds : List (DataW H)) (i : Nat) (t : TypeId) (d : DataW H), ts[i]? = some t → ds[i]? = some d → x ∈ d.weights P t → x ∈ DataW.weightsEach P ts ds
  | [], _, _, _, _, h, _, _ => by simp at h
  | _ :: _, [], _, _, _, _, h, _ => by simp at h
  | t :: ts, d :: ds, 0, t', d', h, h', hx => by
    simp at h h'; subst h h'
    simp only [DataW.weightsEach, List.mem_append]; exact .inl hx
  | t :: ts, d :: ds, i + 1, t', d', h, h', hx => by
    simp only [DataW.weightsEach, List.mem_append]
    exact .inr (mem_weightsEach ts ds i t' d' (by simpa using h) (by simpa using h') hx)
theorem fits_of_trod (hn : base.n = w.heap.size) {held : Bool} : ∀ (fuel : Nat) (t : TypeId) (cs : List Value) (x : DataW H × List MemPlace), DataW.trod enc P w 0 (fun _ => true) held fuel t cs = some x →
    (∀ y ∈ x.1.weights P t, y ≤ reachBytes) → Fits P (RM.old base w) t (cs.map (absV base.n)) := by
  intro fuel
  induction fuel with
  | zero => intro t cs x h; simp [DataW.trod] at h
  | succ m ih =>
    intro t cs x h hw
    cases hu : P.underlying t with
    | none => exact .other _ _ (by rw [hu]; rfl)
    | some d =>
      cases d with
      | bool =>
        obtain ⟨b, rfl, rfl⟩ := DataW.trod_bool hu h
        exact .bool t b hu
      | int k =>
        obtain ⟨n, rfl, rfl, hwf⟩ := DataW.trod_int hu h
        simp only [Lit.wf, Bool.and_eq_true, decide_eq_true_eq] at hwf
        exact .int t k n hu hwf.1 hwf.2
      | string =>
        obtain ⟨s, rfl, rfl, _⟩ := DataW.trod_string hu h
        exact .str t s.data.toList hu (hw _ (by simp [DataW.weights]))
      | slice e =>
        rcases DataW.trod_slice hu h with ⟨rfl, rfl⟩ | ⟨a, len, cap, elems, rest, n, hm, rfl, rfl, _, hlc, _, hel, hget, hrest, _⟩
        · exact .nils t e hu
        · cases hm
          rcases Nat.eq_zero_or_pos (P.cellsOf e) with hz | hz
          · exact .zero t e _ hu hz
          rcases Nat.eq_zero_or_pos cap with hc | hc
          · have hl0 : len = 0 := by omega
            subst hc hl0
            exact .emp t e 0 hu
          · obtain ⟨hr1, hr2⟩ := hrest rfl
            have every : ∀ i, i < cap → ∃ es y, w.cells? 0 (a.add (i * P.cellsOf e)) (P.cellsOf e) = some es ∧ DataW.trod enc P w 0 (fun _ => true) held m e es = some y ∧ (y ∈ elems ∨ y ∈ rest) := by
              intro i hi
              by_cases hil : i < len
              · have h1 := hget i hil
                have h2 : elems[i]? = some (elems[i]'(by omega)) := by simp [hel, hil]
                rw [h2] at h1
                obtain ⟨es, e1, e2⟩ := Option.bind_eq_some_iff.1 h1
                exact ⟨es, _, e1, e2, .inl (List.getElem_mem _)⟩
              · have h1 := hr2 (i - len) (by omega)
                rw [show len + (i - len) = i by omega] at h1
                have h2 : rest[i - len]? = some (rest[i - len]'(by omega)) := by
                  rw [List.getElem?_eq_getElem]
                rw [h2] at h1
                obtain ⟨es, e1, e2⟩ := Option.bind_eq_some_iff.1 h1
                exact ⟨es, _, e1, e2, .inr (List.getElem_mem _)⟩
            obtain ⟨es0, _, k0, _, _⟩ := every 0 hc
            obtain ⟨kl0, kg0⟩ := cells?_get k0
            have hc0 := kg0 0 hz
            rw [List.getElem?_eq_getElem (by omega)] at hc0
            obtain ⟨c, el, fr, hh, hsp, _, _⟩ := cell?_at hc0
            obtain ⟨b, o, sp⟩ := a
            rw [Nat.zero_mul, addr_add_zero, addr_add_zero] at hh hsp
            simp only at hh hsp
            subst hsp
            have hblt : b < base.n := by rw [hn]; exact (Array.getElem?_eq_some_iff.1 hh).1
            have hlast : o + cap * P.cellsOf e ≤ c.size := by
              obtain ⟨es1, _, k1, _, _⟩ := every (cap - 1) (by omega)
              obtain ⟨kl1, kg1⟩ := cells?_get k1
              have hc1 := kg1 (P.cellsOf e - 1) (by omega)
              rw [List.getElem?_eq_getElem (by omega)] at hc1
              obtain ⟨c', el', fr', hh', _, hlt, _⟩ := cell?_at hc1
              rw [add_off, add_off] at hh' hlt
              simp only at hh' hlt
              rw [hh] at hh'
              cases hh'
              have : cap * P.cellsOf e = (cap - 1) * P.cellsOf e + P.cellsOf e := by
                rw [← Nat.succ_mul]; congr 1; omega
              omega
            have habs : absV base.n (.slice (some ⟨b, o, none⟩) len cap) = .slc b o len (.ex cap) := by
              obtain ⟨cap, rfl⟩ : ∃ k, cap = k + 1 := ⟨cap - 1, by omega⟩
              simp only [absV, if_pos hblt]
            have hcells := RM.old_cells hblt hh
            have hle : len * P.cellsOf e ≤ cap * P.cellsOf e := Nat.mul_le_mul_right _ hlc
            have hload : (RM.old base w).loads b o (len * P.cellsOf e) = some (((c.toList.map (absV base.n)).drop o).take (len * P.cellsOf e)) := by
              simp only [RM.loads, hcells]
              rw [if_pos (by simp; omega)]
            simp only [List.map_cons, List.map_nil, habs]
            refine .slc t e b o len cap _ hu hblt hlc ?_ hload fun i hi => ?_
            · have := hw ((elems.length + rest.length) * P.bytesOf e) (by simp [DataW.weights, hu])
              rwa [hel, hr1, show len + (cap - len) = cap by omega] at this
            · obtain ⟨es, y, k1, k2, k3⟩ := every i (by omega)
              have hlen := (cells?_get k1).1
              have hes : ((((c.toList.map (absV base.n)).drop o).take (len * P.cellsOf e)).drop (i * P.cellsOf e)).take (P.cellsOf e) = es.map (absV base.n) := by
                have hii : i * P.cellsOf e + P.cellsOf e ≤ len * P.cellsOf e := by rw [← Nat.succ_mul]; exact Nat.mul_le_mul_right _ hi
                apply List.ext_getElem?
                intro j
                by_cases hj : j < P.cellsOf e
                · have hg := (cells?_get k1).2 j hj
                  rw [List.getElem?_take, if_pos hj, List.getElem?_drop, List.getElem?_take, if_pos (by omega), List.getElem?_drop, List.getElem?_map, List.getElem?_map, ← hg]
                  rw [add_off, add_off]
                  simp only [World.cell?, hh]
                  rw [Array.getElem?_toList]
                  simp [Nat.add_assoc]
                · rw [List.getElem?_eq_none (by simp; omega), List.getElem?_eq_none (by simp; omega)]
              rw [hes]
              refine ih e es y k2 fun z hz => hw z ?_
              simp only [DataW.weights, hu, List.mem_cons, List.mem_append]
              rcases k3 with k3 | k3
              · exact .inr (.inl (mem_weightsAll (List.mem_map_of_mem k3) hz))
              · exact .inr (.inr (mem_weightsAll (List.mem_map_of_mem k3) hz))
      | struct fs =>
        obtain ⟨xs, n, hm, rfl, hl, hxl, hget⟩ := DataW.trod_struct hu h
        cases hm
        refine .struct t fs _ hu (by simpa using hl) fun i f hf => ?_
        have h1 := hget i f hf
        have hi : i < fs.size := (Array.getElem?_eq_some_iff.1 hf).1
        rw [List.getElem?_eq_getElem (by omega)] at h1
        rw [← List.map_drop, ← List.map_take]
        refine ih _ _ _ h1 fun z hz => hw z ?_
        simp only [DataW.weights, hu]
        refine mem_weightsEach _ _ i f.type _ (by simp [hf]) (by rw [List.getElem?_map, List.getElem?_eq_getElem (by omega)]; rfl) hz
      | array n e =>
        obtain ⟨xs, m', hm, rfl, hl, hxl, hget⟩ := DataW.trod_array hu h
        cases hm
        refine .array t e n _ hu (by simpa using hl) fun i hi => ?_
        have h1 := hget i hi
        rw [List.getElem?_eq_getElem (by omega)] at h1
        rw [← List.map_drop, ← List.map_take]
        refine ih _ _ _ h1 fun z hz => hw z ?_
        simp only [DataW.weights, hu]
        exact mem_weightsAll (List.mem_map_of_mem (List.getElem_mem _)) hz
      | _ => exact .other _ _ (by rw [hu]; rfl)
end
section
variable {P : Program} {M : RM} {t : TypeId} {cs : List AV}
theorem Fits.int_inv (h : Fits P M t cs) {k : IntKind} (hu : P.underlying t = some (.int k)) : ∃ n : Int, cs = [N k n] ∧ k.min ≤ n ∧ n ≤ k.max := by
  cases h with
  | int _ k' n h1 h2 h3 => rw [hu] at h1; cases h1; exact ⟨n, rfl, h2, h3⟩
  | _ => simp_all [otherT]
theorem Fits.str_inv (h : Fits P M t cs) (hu : P.underlying t = some .string) : ∃ s, cs = [St s] ∧ s.length ≤ reachBytes := by
  cases h with
  | str _ s h1 h2 => exact ⟨s, rfl, h2⟩
  | _ => simp_all [otherT]
theorem Fits.struct_inv (h : Fits P M t cs) {fs : Array Field} (hu : P.underlying t = some (.struct fs)) : cs.length = P.cellsOf t ∧ ∀ (i : Nat) (f : Field), fs[i]? = some f → Fits P M f.type ((cs.drop f.offset).take (P.cellsOf f.type)) := by
  cases h with
  | struct _ fs' _ h1 h2 h3 => rw [hu] at h1; cases h1; exact ⟨h2, h3⟩
  | _ => simp_all [otherT]
theorem Fits.slice_inv (h : Fits P M t cs) {e : TypeId} (hu : P.underlying t = some (.slice e)) (hz : 0 < P.cellsOf e) :
    ∃ v n ds, cs = [v] ∧ SlR M (P.cellsOf e) v ds n ∧ n * P.bytesOf e ≤ reachBytes ∧ ∀ i, i < n → Fits P M e ((ds.drop (i * P.cellsOf e)).take (P.cellsOf e)) := by
  cases h with
  | nils _ e' h1 => exact ⟨_, 0, [], rfl, .nil, by simp, fun i hi => absurd hi (by omega)⟩
  | emp _ e' b h1 => exact ⟨_, 0, [], rfl, .emp b, by simp, fun i hi => absurd hi (by omega)⟩
  | slc _ e' b o n c ds h1 h2 h3 h4 h5 h6 =>
    rw [hu] at h1; cases h1
    exact ⟨_, n, ds, rfl, .slc b o n _ ds h2 h5, Nat.le_trans (Nat.mul_le_mul_right _ h3) h4, h6⟩
  | zero _ e' _ h1 h2 => rw [hu] at h1; cases h1; omega
  | _ => simp_all [otherT]
theorem chunks_of {α : Type} {size : Nat} (enc : α → List AV) (p : α → Prop) (hs : ∀ a, (enc a).length = size) : ∀ (n : Nat) (ds : List AV), ds.length = n * size → (∀ i, i < n → ∃ a, p a ∧ (ds.drop (i * size)).take size = enc a) →
    ∃ xs : List α, xs.length = n ∧ ds = xs.flatMap enc ∧ ∀ x ∈ xs, p x
  | 0, ds, hl, _ => ⟨[], rfl, by simpa using hl, by simp⟩
  | n + 1, ds, hl, h => by
    obtain ⟨a, pa, ha⟩ := h 0 (by omega)
    simp only [Nat.zero_mul, List.drop_zero] at ha
    have hl' : (ds.drop size).length = n * size := by rw [List.length_drop, hl, Nat.succ_mul]; omega
    obtain ⟨xs, h1, h2, h3⟩ := chunks_of enc p hs n (ds.drop size) hl' fun i hi => by
      obtain ⟨b, pb, hb⟩ := h (i + 1) (by omega)
      refine ⟨b, pb, ?_⟩
      rw [List.drop_drop, ← hb, Nat.succ_mul, Nat.add_comm]
    refine ⟨a :: xs, by simp [h1], ?_, fun x hx => ?_⟩
    · rw [List.flatMap_cons, ← h2, ← ha, List.take_append_drop]
    · rcases List.mem_cons.1 hx with rfl | hx
      · exact pa
      · exact h3 x hx
end
def aggT (P : Program) (t : TypeId) : Bool :=
  match P.underlying t with
  | some (.struct _) | some (.array _ _) => true
  | _ => false
def FitsA (P : Program) (M : RM) (t : TypeId) (v : AV) : Prop :=
  match aggT P t with
  | true => ∃ cs, v = .agg cs ∧ Fits P M t cs
  | false => Fits P M t [v]
theorem FitsA.agg {P : Program} {M : RM} {t : TypeId} {v : AV} (h : FitsA P M t v) (ha : aggT P t = true) : ∃ cs, v = .agg cs ∧ Fits P M t cs := by
  unfold FitsA at h; rw [ha] at h; exact h
theorem FitsA.one {P : Program} {M : RM} {t : TypeId} {v : AV} (h : FitsA P M t v) (ha : aggT P t = false) : Fits P M t [v] := by
  unfold FitsA at h; rw [ha] at h; exact h
section
variable {H : Type} {enc : TypeId × Value → H} {P : Program} {base : Base} {w : World}
theorem cell_not_agg {r : Reach} {b : Nat} {t : TypeId} {cs : Array Value} (h : Cell.okWide P w r b t (.agg cs)) : False := by
  unfold Cell.okWide at h
  split at h <;> first | (rename_i e _; cases e; done) | skip
  all_goals first | (rename_i e; cases e; done) | skip
  unfold Cell.ok at h
  split at h <;> first | exact h | simp_all
theorem fits_arg (hn : base.n = w.heap.size) {r : Reach} {b : Nat} {held : Bool} {t : TypeId} {v : Value} {d : DataW H} {ps : List MemPlace} (hv : Value.okWide P w r b t v) (h : DataW.Trod enc P w 0 (fun _ => true) held t v d ps)
    (hw : ∀ y ∈ d.weights P t, y ≤ reachBytes) : FitsA P (RM.old base w) t (absA base.n v) := by
  obtain ⟨fuel, hf⟩ := h
  have hfit := fits_of_trod hn fuel t _ _ hf hw
  unfold FitsA
  cases ha : aggT P t with
  | true =>
    have : ∃ cs, v = .agg cs := by
      unfold Value.okWide at hv
      unfold aggT at ha
      split at hv
      · obtain ⟨cs, h, _⟩ := hv; exact ⟨cs, h⟩
      · obtain ⟨cs, h, _⟩ := hv; exact ⟨cs, h⟩
      · split at ha <;> simp_all
    obtain ⟨cs, rfl⟩ := this
    exact ⟨_, rfl, hfit⟩
  | false =>
    have hc : Cell.okWide P w r b t v := by
      unfold Value.okWide at hv
      unfold aggT at ha
      split at hv
      · simp_all
      · simp_all
      · exact hv
    have : v.cells.toList = [v] ∧ absA base.n v = absV base.n v := by
      cases v with
      | agg cs => exact (cell_not_agg hc).elim
      | _ => exact ⟨rfl, rfl⟩
    rw [this.1] at hfit
    rw [this.2]
    exact hfit
theorem fits_all (hn : base.n = w.heap.size) {r : Reach} {b : Nat} {held : Bool} : ∀ {ts : List TypeId} {vs : List Value} {ds : List (DataW H)} {ps : List MemPlace}, DataW.TrodAll enc P w 0 (fun _ => true) held ts vs ds ps →
    (∀ (j : Nat) t v, ts[j]? = some t → vs[j]? = some v → Value.okWide P w r b t v) → (∀ y ∈ DataW.weightsEach P ts ds, y ≤ reachBytes) →
    ∀ (j : Nat) t v, ts[j]? = some t → vs[j]? = some v → FitsA P (RM.old base w) t (absA base.n v)
  | [], _, _, _, _, _, _, j, t, v, h, _ => by simp at h
  | t0 :: ts, vs, ds, ps, h, hv, hw, j, t, v, hj, hvj => by
    cases vs with
    | nil => simp at hvj
    | cons v0 vs =>
    cases ds with
    | nil => exact h.elim
    | cons d ds =>
    obtain ⟨p, q, h1, h2, _⟩ := h
    cases j with
    | zero =>
      simp at hj hvj; subst hj hvj
      exact fits_arg hn (hv 0 _ _ rfl rfl) h1 fun y hy => hw y (by simp [DataW.weightsEach, hy])
    | succ j =>
      exact fits_all hn h2 (fun j t v a b => hv (j + 1) t v (by simpa using a) (by simpa using b)) (fun y hy => hw y (by simp [DataW.weightsEach, hy])) j t v (by simpa using hj) (by simpa using hvj)
theorem trodAll_stays (hl : laidOutB P = true) {W W' : World} {sp : Nat → Bool} (hb : Below W.heap.size W W') : ∀ {ts : List TypeId} {vs : List Value} {ds : List (DataW H)} {ps : List MemPlace},
    (∀ t ∈ ts, P.readableRec t = true ∧ t < P.types.size) → DataW.TrodAll enc P W 0 (fun _ => true) true ts vs ds ps → (∀ p ∈ ps, p.block < W.heap.size) → (∀ p ∈ ps, sp p.block = true) → DataW.TrodAll enc P W' 0 sp true ts vs ds ps
  | [], vs, ds, ps, _, h, _, _ => by
    cases vs <;> cases ds <;> first | exact h | exact h.elim
  | t :: ts, vs, ds, ps, hr, h, hlt, hsp => by
    cases vs with
    | nil => cases ds <;> exact h.elim
    | cons v vs =>
    cases ds with
    | nil => exact h.elim
    | cons d ds =>
    obtain ⟨p, q, h1, h2, rfl⟩ := h
    have hrt := hr t (List.mem_cons_self ..)
    exact ⟨p, q, WideElems.Trod_stays hl hrt.1 hrt.2 h1 (fun x hx => hb.same (hlt x (List.mem_append_left _ hx))) (fun x hx => hsp x (List.mem_append_left _ hx)),
      trodAll_stays hl hb (fun t ht => hr t (List.mem_cons_of_mem _ ht)) h2 (fun x hx => hlt x (List.mem_append_right _ hx)) (fun x hx => hsp x (List.mem_append_right _ hx)), rfl⟩
end
end Go.Ab
set_option linter.unusedVariables false
set_option linter.unusedSimpArgs false
namespace Go.Ab
open Go Go.RowKit
def RB.cells (lo : Nat) : RB → Option (List AV)
  | .row l _ _ _ => some l
  | .ro c => some (c.toList.map (absV lo))
  | _ => none
@[go_sem] theorem RB.cells_row (lo : Nat) (l : List AV) (p : Bool) (e f : Nat) : RB.cells lo (.row l p e f) = some l := rfl
theorem RM.cells_eq (M : RM) (b : Nat) : M.cells b = (M.heap b).bind (RB.cells M.lo) := by
  unfold RM.cells RB.cells
  cases M.heap b with
  | none => rfl
  | some x => cases x <;> rfl
def loadsL (l : Option (List AV)) (o k : Nat) : Option (List AV) :=
  match l with
  | some l => if o + k ≤ l.length then some ((l.drop o).take k) else none
  | none => none
@[go_sem] theorem loadsL_some (l : List AV) (o k : Nat) : loadsL (some l) o k = if o + k ≤ l.length then some ((l.drop o).take k) else none := rfl
theorem RM.loads_eq (M : RM) (b o k : Nat) : M.loads b o k = loadsL (M.cells b) o k := rfl
section
variable {M M' : RM}
@[go_sem] theorem RM.heap_push (x : RB) (c : Nat) : (M.push x).heap c = if c = M.next then some x else M.heap c := rfl
@[go_sem] theorem RM.heap_put (b : Nat) (x : RB) (c : Nat) : (M.put b x).heap c = if c = b then some x else M.heap c := rfl
@[go_sem] theorem RM.heap_del (b : Nat) (c : Nat) : (M.del b).heap c = if c = b then none else M.heap c := rfl
@[go_sem] theorem RM.push_base (x : RB) : (M.push x).base = M.base := rfl
@[go_sem] theorem RM.put_base (b : Nat) (x : RB) : (M.put b x).base = M.base := rfl
@[go_sem] theorem RM.del_base (b : Nat) : (M.del b).base = M.base := rfl
theorem RM.cells_push (x : RB) (c : Nat) : (M.push x).cells c = if c = M.next then x.cells M.lo else M.cells c := by
  simp only [RM.cells_eq, RM.heap_push]
  split <;> rfl
theorem RM.cells_put (b : Nat) (x : RB) (c : Nat) : (M.put b x).cells c = if c = b then x.cells M.lo else M.cells c := by
  simp only [RM.cells_eq, RM.heap_put]
  split <;> rfl
@[go_sem] theorem RM.cell_push (x : RB) (c o : Nat) : (M.push x).cell c o = if c = M.next then (x.cells M.lo).bind (·[o]?) else M.cell c o := by
  simp only [RM.cell, RM.cells_push]
  split <;> rfl
@[go_sem] theorem RM.cell_put (b : Nat) (x : RB) (c o : Nat) : (M.put b x).cell c o = if c = b then (x.cells M.lo).bind (·[o]?) else M.cell c o := by
  simp only [RM.cell, RM.cells_put]
  split <;> rfl
@[go_sem] theorem RM.loads_push (x : RB) (c o k : Nat) : (M.push x).loads c o k = if c = M.next then loadsL (x.cells M.lo) o k else M.loads c o k := by
  simp only [RM.loads_eq, RM.cells_push]
  split <;> rfl
@[go_sem] theorem RM.loads_put (b : Nat) (x : RB) (c o k : Nat) : (M.put b x).loads c o k = if c = b then loadsL (x.cells M.lo) o k else M.loads c o k := by
  simp only [RM.loads_eq, RM.cells_put]
  split <;> rfl
def storesL (l : List AV) (fz o : Nat) (vs : List AV) : Option (List AV) :=
  if o + vs.length ≤ l.length ∧ fz ≤ o ∧ vs.all oneCell = true then some (l.take o ++ vs ++ l.drop (o + vs.length)) else none
theorem storesL_some {l vs : List AV} {fz o : Nat} (h1 : o + vs.length ≤ l.length) (h2 : fz ≤ o) (h3 : vs.all oneCell = true) : storesL l fz o vs = some (l.take o ++ vs ++ l.drop (o + vs.length)) := if_pos ⟨h1, h2, h3⟩
@[go_sem] theorem storesL_whole {l vs : List AV} (h : vs.length = l.length) (h3 : vs.all oneCell = true) : storesL l 0 0 vs = some vs := by
  rw [storesL_some (by omega) (Nat.le_refl _) h3]
  simp [h]
theorem RM.stores_eq {b o : Nat} {vs l : List AV} {p : Bool} {e f : Nat} (h : M.heap b = some (.row l p e f)) : M.stores b o vs = (storesL l f o vs).map fun l' => M.put b (.row l' p e f) := by
  simp only [RM.stores, h, storesL]
  split <;> rfl
theorem RM.put_push {x y : RB} : (M.push x).put M.next y = M.push y := by
  simp only [RM.put, RM.push]
  congr 1
  funext c
  split <;> rfl
theorem RM.put_push_old {x y : RB} {b : Nat} (hb : b ≠ M.next) : (M.push x).put b y = (M.put b y).push x := by
  simp only [RM.put, RM.push]
  congr 1
  funext c
  by_cases h1 : c = b
  · subst h1; simp [hb]
  · simp [h1]
theorem RM.stores_push_new {l vs : List AV} {p : Bool} {e f o : Nat} : (M.push (.row l p e f)).stores M.next o vs = (storesL l f o vs).map fun l' => M.push (.row l' p e f) := by
  rw [RM.stores_eq (RM.push_new _)]
  congr 1
  funext l'
  exact RM.put_push
theorem RM.stores_put {M : RM} {b o : Nat} {vs : List AV} : M.stores b o vs = match M.heap b with
    | some (.row l p e f) => (storesL l f o vs).map fun l' => M.put b (.row l' p e f)
    | _ => none := by
  cases h : M.heap b with
  | none => simp [RM.stores, h]
  | some x =>
    cases x with
    | row l p e f => rw [RM.stores_eq h]
    | _ => simp [RM.stores, h]
@[go_sem] theorem RM.stores_push_old {x : RB} {vs : List AV} {c o : Nat} (hc : c ≠ M.next) : (M.push x).stores c o vs = (M.stores c o vs).map (·.push x) := by
  rw [RM.stores_put, RM.stores_put, RM.push_old hc]
  split
  · simp only [Option.map_map]
    congr 1
    funext l'
    exact RM.put_push_old hc
  · rfl
@[go_sem] theorem RM.stores_push {l vs : List AV} {p : Bool} {e f c o : Nat} : (M.push (.row l p e f)).stores c o vs =
    if c = M.next then (storesL l f o vs).map fun l' => M.push (.row l' p e f) else (M.stores c o vs).map (·.push (.row l p e f)) := by
  split
  · rename_i h; subst h; exact RM.stores_push_new
  · rename_i h; exact RM.stores_push_old h
@[go_sem] theorem RM.stores_put_same {b o : Nat} {l vs : List AV} {p : Bool} {e f : Nat} : (M.put b (.row l p e f)).stores b o vs = (storesL l f o vs).map fun l' => M.put b (.row l' p e f) := by
  rw [RM.stores_eq (RM.put_same _ _)]
  congr 1
  funext l'
  simp only [RM.put]
  congr 1
  funext c
  split <;> rfl
@[go_sem] theorem some_ex {α : Type} (a : α) (K : α → Prop) : (∃ x, some a = some x ∧ K x) = K a := by simp
@[go_sem] theorem optMap_some {α β : Type} (f : α → β) (x : α) : (some x).map f = some (f x) := rfl
attribute [go_sem] Int.natCast_nonneg Int.toNat_natCast Nat.mul_one true_implies false_implies Bool.false_eq_true Bool.true_eq_false Bool.not_true Bool.not_false Bool.and_self Bool.and_true Bool.true_and Nat.le_refl List.append_nil List.nil_append if_true if_false Nat.lt_irrefl Nat.add_one_ne_zero true_and and_true Nat.zero_add Nat.add_zero List.drop_zero List.getElem?_cons_zero List.getElem?_cons_succ Option.bind_some List.take_succ_cons List.take_zero List.drop_succ_cons List.drop_nil List.take_nil
attribute [go_sem] boxW List.all_cons List.all_nil List.length_cons List.length_nil
@[go_sem] theorem cells_agg (cs : List AV) : (AV.agg cs).cells = cs := rfl
@[go_sem] theorem cells_sc (v : Value) : (AV.sc v).cells = [.sc v] := rfl
@[go_sem] theorem cells_ptr (b o : Nat) : (AV.ptr b o).cells = [.ptr b o] := rfl
@[go_sem] theorem cells_slc (b o n : Nat) (c : Cap) : (AV.slc b o n c).cells = [.slc b o n c] := rfl
@[go_sem] theorem cells_emp (b : Nat) : (AV.emp b).cells = [.emp b] := rfl
@[go_sem] theorem cells_map (b : Nat) : (AV.map b).cells = [.map b] := rfl
@[go_sem] theorem cells_fn (f : Fn) (xs ys : List AV) : (AV.fn f xs ys).cells = [.fn f xs ys] := rfl
@[go_sem] theorem one_sc (v : Value) : oneCell (.sc v) = true := rfl
@[go_sem] theorem one_ptr (b o : Nat) : oneCell (.ptr b o) = true := rfl
@[go_sem] theorem one_slc (b o n : Nat) (c : Cap) : oneCell (.slc b o n c) = true := rfl
@[go_sem] theorem one_emp (b : Nat) : oneCell (.emp b) = true := rfl
@[go_sem] theorem one_map (b : Nat) : oneCell (.map b) = true := rfl
@[go_sem] theorem one_fn (f : Fn) (xs ys : List AV) : oneCell (.fn f xs ys) = true := rfl
end
theorem RM.loads_of {M : RM} {b : Nat} {l : List AV} {p : Bool} {e f : Nat} (h : M.heap b = some (.row l p e f)) (o k : Nat) : M.loads b o k = loadsL (some l) o k := by rw [RM.loads_eq, RM.cells_row h]
theorem RM.cell_of {M : RM} {b : Nat} {l : List AV} {p : Bool} {e f : Nat} (h : M.heap b = some (.row l p e f)) (o : Nat) : M.cell b o = l[o]? := RM.cell_row h
theorem RM.stores_of {M : RM} {b : Nat} {l : List AV} {p : Bool} {e f : Nat} (h : M.heap b = some (.row l p e f)) (o : Nat) (vs : List AV) : M.stores b o vs = (storesL l f o vs).map fun l' => M.put b (.row l' p e f) := RM.stores_eq h
theorem Keep.heap_of {bs : List Nat} {M M' : RM} (h : Keep bs M M') {b : Nat} {x : RB} (hh : M.heap b = some x) (hlt : b < M.next) (hb : b ∉ bs) : M'.heap b = some x := by rw [h.heap b hlt hb, hh]
end Go.Ab
set_option linter.unusedVariables false
set_option linter.unusedSimpArgs false
namespace Go.Ab
open Go Go.RowKit
def tabA (tab run : CallF) : CallF := fun f args A => match tab f args A with
  | some r => some r
  | none => run f args A
def callT (P : Program) (X : Ext) (tab : CallF) (L : Nat) : Nat → CallF
  | 0, _, _, _ => none
  | n + 1, f, args, A => match has X.split f with
    | true => splitA (bodyA P X L (tabA tab (callT P X tab L n))) f args A
    | false => bodyA P X L (tabA tab (callT P X tab L n)) f args A
inductive Ans where
  | val (v : AV)
  | rows (n : Nat) (v : AV) (bs : List (Nat × Blk)) (n' : Nat)
structure Ent where
  args : List AV
  fp : List (Nat × Blk) := []
  dead : List Nat := []
  nx : Nat := 0
  ans : Ans
def setAll : Tree Blk → List (Nat × Blk) → Tree Blk
  | t, [] => t
  | t, (b, x) :: r => setAll (t.set b x) r
def delAll : Tree Blk → List Nat → Tree Blk
  | t, [] => t
  | t, b :: r => delAll (t.del b) r
def hasRows (A : AW) : List (Nat × Blk) → Bool
  | [] => true
  | (b, x) :: r => match A.heap.get b with
    | some y => blkEq x y && hasRows A r
    | none => false
def ansA (A : AW) (e : Ent) : Option (AV × AW) :=
  match hasRows A e.fp with
  | false => none
  | true => match e.ans with
    | .val v => some (v, A)
    | .rows n v bs n' => match Nat.beq n A.next with
      | true => some (v, { next := n', heap := setAll (delAll A.heap e.dead) bs })
      | false => none
def findE : List Ent → List AV → AW → Option (AV × AW)
  | [], _, _ => none
  | e :: es, args, A => match avsEq e.args args with
    | true => match ansA A e with
      | some r => some r
      | none => findE es args A
    | false => findE es args A
abbrev Table := List (Nat × List Ent)
def tabOf : Table → CallF
  | [], _, _, _ => none
  | (g, es) :: T, f, args, A => match Nat.beq g f with
    | true => match findE es args A with
      | some r => some r
      | none => tabOf T f args A
    | false => tabOf T f args A
def inK : List Nat → Nat → Bool
  | [], _ => false
  | k :: ks, b => match Nat.beq k b with
    | true => true
    | false => inK ks b
mutual
def within (ks : List Nat) : AV → Bool
  | .sc _ | .top | .atl _ => true
  | .ptr b _ | .slc b _ _ _ | .emp b | .map b => inK ks b
  | .fn _ xs ys => withins ks xs && withins ks ys
  | .ifc _ x => within ks x
  | .agg xs | .tup xs => withins ks xs
def withins (ks : List Nat) : List AV → Bool
  | [] => true
  | x :: xs => within ks x && withins ks xs
end
theorem inK_iff {b : Nat} : ∀ {ks : List Nat}, inK ks b = true ↔ b ∈ ks
  | [] => by simp [inK]
  | k :: ks => by
    simp only [inK]
    split
    · rename_i h
      simp [beq_t h]
    · rename_i h
      rw [inK_iff, List.mem_cons]
      constructor
      · exact .inr
      · rintro (e | e)
        · exact absurd e.symm (beq_f h)
        · exact e
mutual
theorem within_rel {ρ ρ' : Ren} {ks : List Nat} (hk : ∀ b ∈ ks, ∀ i, ρ b = some i → ρ' b = some i) : ∀ (x : AV) {v : Value}, within ks x = true → VRel ρ x v → VRel ρ' x v
  | .top, v, _, _ => .top v
  | .atl k, v, _, hr => by cases hr; exact .atl _ _ (by assumption)
  | .sc u, v, _, hr => by cases hr; exact .sc _ (by assumption)
  | .ptr b o, v, h, hr => by
    simp only [within] at h
    cases hr with
    | ptr _ _ i e => exact .ptr _ _ i (hk b (inK_iff.1 h) i e)
  | .slc b o l c, v, h, hr => by
    simp only [within] at h
    cases hr with
    | slcS _ _ _ c i e => exact .slcS _ _ _ c i (hk b (inK_iff.1 h) i e)
    | slcO _ k _ i e q => exact .slcO _ k _ i (hk b (inK_iff.1 h) i e) q
  | .emp b, v, h, hr => by
    simp only [within] at h
    cases hr with
    | emp _ a c => exact .emp _ a c
  | .map b, v, h, hr => by
    simp only [within] at h
    cases hr with
    | map _ i e => exact .map _ i (hk b (inK_iff.1 h) i e)
  | .fn f xs ys, v, h, hr => by
    simp only [within, Bool.and_eq_true] at h
    cases hr with
    | fn _ _ _ us vs p a b => exact .fn f xs ys us vs p (withins_rel hk xs h.1 a) (withins_rel hk ys h.2 b)
  | .ifc t x, v, h, hr => by
    simp only [within] at h
    cases hr with
    | ifc _ _ v a => exact .ifc t x v (within_rel hk x h a)
  | .agg xs, v, h, hr => by
    simp only [within] at h
    cases hr with
    | agg _ vs a => exact .agg xs vs (withins_rel hk xs h a)
  | .tup xs, v, h, hr => by
    simp only [within] at h
    cases hr with
    | tup _ vs a => exact .tup xs vs (withins_rel hk xs h a)
theorem withins_rel {ρ ρ' : Ren} {ks : List Nat} (hk : ∀ b ∈ ks, ∀ i, ρ b = some i → ρ' b = some i) : ∀ (xs : List AV) {vs : List Value}, withins ks xs = true → LRel ρ xs vs → LRel ρ' xs vs
  | [], vs, _, hr => by cases hr; exact .nil
  | x :: xs, vs, h, hr => by
    simp only [withins, Bool.and_eq_true] at h
    cases hr with
    | cons _ v _ vs a b => exact .cons x v xs vs (within_rel hk x h.1 a) (withins_rel hk xs h.2 b)
end
def treeAll (p : AV → Bool) : Tree AV → Bool
  | .leaf => true
  | .node l v r => (match v with
    | some x => p x
    | none => true) && treeAll p l && treeAll p r
theorem treeAll_get {p : AV → Bool} : ∀ {t : Tree AV} {k : Nat} {x : AV}, treeAll p t = true → t.get k = some x → p x = true
  | .leaf, k, x, _, h => by simp [Tree.get] at h
  | .node l v r, k, x, ha, h => by
    simp only [treeAll, Bool.and_eq_true] at ha
    simp only [Tree.get] at h
    split at h
    · rw [h] at ha; exact ha.1.1
    · split at h
      · exact treeAll_get ha.1.2 h
      · exact treeAll_get ha.2 h
def entsIn (ks : List Nat) : List (AV × AV × Nat) → Bool
  | [] => true
  | (k, v, _) :: es => within ks k && within ks v && entsIn ks es
def blkIn (ks : List Nat) : Blk → Bool
  | .row _ t zs _ _ _ => treeAll (within ks) t && withins ks zs
  | .map es _ => entsIn ks es
  | .iter m _ _ _ => match m with
    | some b => inK ks b
    | none => true
  | .siter _ _ => true
theorem withins_mem {ks : List Nat} : ∀ {xs : List AV}, withins ks xs = true → ∀ x ∈ xs, within ks x = true
  | [], _, x, h => by cases h
  | y :: ys, h, x, hx => by
    simp only [withins, Bool.and_eq_true] at h
    rcases List.mem_cons.1 hx with e | hx
    · rw [e]; exact h.1
    · exact withins_mem h.2 x hx
theorem nth_mem {β : Type} : ∀ {l : List β} {n : Nat} {x : β}, nth l n = some x → x ∈ l
  | [], _, _, h => by simp [nth] at h
  | y :: ys, 0, x, h => by simp [nth] at h; simp [h]
  | y :: ys, n + 1, x, h => by
    simp only [nth] at h
    exact List.mem_cons_of_mem _ (nth_mem h)
theorem cellAt_in {tree : Tree AV} {zs : List AV} {n k : Nat} {x : AV} (h : cellAt tree zs n k = some x) : tree.get k = some x ∨ x ∈ zs := by
  unfold cellAt at h
  split at h
  · cases h
  · split at h
    · rename_i v hv
      cases h
      exact .inl hv
    · split at h
      · cases h
      · cases h
        exact .inr (List.mem_cons_self ..)
      · exact .inr (nth_mem h)
theorem EntRel.restrict {ρ ρ' : Ren} {ks : List Nat} (hk : ∀ b ∈ ks, ∀ i, ρ b = some i → ρ' b = some i) : ∀ {es : List (AV × AV × Nat)} {fs : List MapEntry}, entsIn ks es = true → EntRel ρ es fs → EntRel ρ' es fs
  | [], [], _, _ => trivial
  | [], _ :: _, _, h => h.elim
  | _ :: _, [], _, h => h.elim
  | (a, b, n) :: es, f :: fs, h, ⟨h1, h2, h3, h4⟩ => by
    simp only [entsIn, Bool.and_eq_true] at h
    exact ⟨within_rel hk a h.1.1 h1, within_rel hk b h.1.2 h2, h3, EntRel.restrict hk h.2 h4⟩
theorem BlkRel.restrict {P : Program} {ρ ρ' : Ren} {ks : List Nat} (hk : ∀ b ∈ ks, ∀ i, ρ b = some i → ρ' b = some i) {i : Info} : ∀ {x : Blk} {o : Obj}, blkIn ks x = true → BlkRel P ρ i x o → BlkRel P ρ' i x o
  | .row n t zs opn el fz, o, h, ⟨c, fr, e, k⟩ => by
    simp only [blkIn, Bool.and_eq_true] at h
    refine ⟨c, fr, e, k.size, fun j x hx => ?_, k.free, k.mark, k.opn, k.sh0⟩
    obtain ⟨v, h1, h2⟩ := k.val j x hx
    refine ⟨v, h1, within_rel hk x ?_ h2⟩
    rcases cellAt_in hx with hx | hx
    · exact treeAll_get h.1 hx
    · exact withins_mem h.2 x hx
  | .map es clock, o, h, ⟨fs, e, k⟩ => ⟨fs, e, EntRel.restrict hk h k⟩
  | .iter m since seen st, o, h, ⟨m', e, k⟩ => by
    refine ⟨m', e, ?_⟩
    cases m with
    | none => exact k
    | some b =>
      obtain ⟨j, h1, h2⟩ := k
      exact ⟨j, hk b (inK_iff.1 h) j h1, h2⟩
  | .siter s pos, o, h, k => k
section
variable {P : Program} {X : Ext}
theorem tabA_sound {base : Base} {tab run : CallF} (ht : CallOk P base tab) (hr : CallOk P base run) : CallOk P base (tabA tab run) := by
  intro f args A v A' h
  unfold tabA at h
  split at h
  · rename_i r hr'
    cases h
    exact ht f args A v A' hr'
  · exact hr f args A v A' h
theorem callT_sound {base : Base} (hng : XOk P X) (hm : P.follows .mixedOrders = true) {tab : CallF} (ht : CallOk P base tab) (L : Nat) : ∀ n, CallOk P base (callT P X tab L n)
  | 0 => by intro f args A v A' h; simp [callT] at h
  | n + 1 => by
    intro f args A v A' h
    simp only [callT] at h
    split at h
    · exact splitA_sound (bodyA_sound hng hm L (tabA_sound ht (callT_sound hng hm ht L n))) f args A v A' h
    · exact bodyA_sound hng hm L (tabA_sound ht (callT_sound hng hm ht L n)) f args A v A' h
def EntOk (P : Program) (I : World → Prop) (f : Nat) (e : Ent) : Prop :=
  ∀ (base : Base), (∀ w, base.inv w → I w) → ∀ A v A', ansA A e = some (v, A') → ∀ (ρ : Ren) (w : World) (us : List Value), LRel ρ e.args us → WRel P base ρ A w → base ≤ w.heap.size →
    Calls P f ⟨us⟩ w fun r w' => ∃ ρ' v', r = .returned v' ∧ Step base A.next ρ w ρ' w' ∧ WRel P base ρ' A' w' ∧ A.next ≤ A'.next ∧ VRel ρ' v v'
def TabOk (P : Program) (I : World → Prop) (T : Table) : Prop := ∀ g ∈ T, ∀ e ∈ g.2, EntOk P I g.1 e
theorem findE_sound {base : Base} {I : World → Prop} (hI : ∀ w, base.inv w → I w) {f : Nat} : ∀ (es : List Ent), (∀ e ∈ es, EntOk P I f e) → ∀ {args A v A'}, findE es args A = some (v, A') → ∀ (ρ : Ren) (w : World) (us : List Value), LRel ρ args us → WRel P base ρ A w → base ≤ w.heap.size →
    Calls P f ⟨us⟩ w fun r w' => ∃ ρ' v', r = .returned v' ∧ Step base A.next ρ w ρ' w' ∧ WRel P base ρ' A' w' ∧ A.next ≤ A'.next ∧ VRel ρ' v v'
  | [], _, args, A, v, A', h => by simp [findE] at h
  | e :: es, hes, args, A, v, A', h => by
    simp only [findE] at h
    split at h
    · rename_i hq
      have hq := avsEq_eq _ _ hq
      subst hq
      split at h
      · rename_i r hr
        cases h
        exact hes e (List.mem_cons_self ..) base hI A v A' hr
      · exact findE_sound hI es (fun e he => hes e (List.mem_cons_of_mem _ he)) h
    · exact findE_sound hI es (fun e he => hes e (List.mem_cons_of_mem _ he)) h
theorem tabOf_sound {base : Base} {I : World → Prop} (hI : ∀ w, base.inv w → I w) : ∀ (T : Table), TabOk P I T → CallOk P base (tabOf T)
  | [], _ => by intro f args A v A' h; simp [tabOf] at h
  | (g, es) :: T, hT => by
    intro f args A v A' h
    have hrest := tabOf_sound hI T (fun g hg => hT g (List.mem_cons_of_mem _ hg))
    simp only [tabOf] at h
    split at h
    · rename_i hq
      have hq := beq_t hq
      subst hq
      split at h
      · rename_i r hr
        cases h
        exact findE_sound hI es (hT (g, es) (List.mem_cons_self ..)) hr
      · exact hrest g args A v A' h
    · exact hrest f args A v A' h
theorem get_setAll : ∀ (bs : List (Nat × Blk)) (t : Tree Blk) {k : Nat} {x : Blk}, (setAll t bs).get k = some x → (k, x) ∈ bs ∨ (t.get k = some x ∧ ∀ y, (k, y) ∉ bs)
  | [], t, k, x, h => .inr ⟨h, fun y hy => by cases hy⟩
  | (b, y) :: r, t, k, x, h => by
    simp only [setAll] at h
    rcases get_setAll r _ h with h | ⟨h, hn⟩
    · exact .inl (List.mem_cons_of_mem _ h)
    · rw [Tree.get_set] at h
      split at h
      · rename_i e
        cases h
        subst e
        exact .inl (List.mem_cons_self ..)
      · rename_i hne
        refine .inr ⟨h, fun z hz => ?_⟩
        rcases List.mem_cons.1 hz with e | hz
        · cases e; exact hne rfl
        · exact hn z hz
theorem get_delAll : ∀ (ds : List Nat) (t : Tree Blk) {k : Nat} {x : Blk}, (delAll t ds).get k = some x → t.get k = some x ∧ k ∉ ds
  | [], t, k, x, h => ⟨h, by simp⟩
  | d :: r, t, k, x, h => by
    simp only [delAll] at h
    obtain ⟨h1, h2⟩ := get_delAll r _ h
    rw [Tree.get_del] at h1
    split at h1
    · cases h1
    · rename_i hne
      exact ⟨h1, by simp only [List.mem_cons, not_or]; exact ⟨hne, h2⟩⟩
theorem hasRows_spec {A : AW} : ∀ (l : List (Nat × Blk)), hasRows A l = true → ∀ b x, (b, x) ∈ l → A.heap.get b = some x
  | [], _, b, x, hm => by cases hm
  | (c, y) :: r, h, b, x, hm => by
    simp only [hasRows] at h
    split at h <;> first | (cases h; done) | skip
    rename_i z hz
    rw [Bool.and_eq_true] at h
    rcases List.mem_cons.1 hm with e | hm
    · cases e
      rw [hz, blkEq_eq h.1]
    · exact hasRows_spec r h.2 b x hm
def keysOf : List (Nat × Blk) → List Nat
  | [] => []
  | (b, _) :: r => b :: keysOf r
theorem keysOf_mem {b : Nat} : ∀ {l : List (Nat × Blk)}, b ∈ keysOf l ↔ ∃ x, (b, x) ∈ l
  | [] => by simp [keysOf]
  | (c, y) :: r => by
    simp only [keysOf, List.mem_cons, keysOf_mem (l := r)]
    constructor
    · rintro (e | ⟨x, h⟩)
      · subst e; exact ⟨y, .inl rfl⟩
      · exact ⟨x, .inr h⟩
    · rintro ⟨x, h | h⟩
      · cases h; exact .inl rfl
      · exact .inr ⟨x, h⟩
def fpOk (ks : List Nat) (n : Nat) : List (Nat × Blk) → List Nat → Bool
  | [], _ => true
  | (b, x) :: r, seen => blkIn ks x && Nat.ble (b + 1) n && !inK seen b && fpOk ks n r (b :: seen)
theorem fpOk_spec {ks : List Nat} {n : Nat} : ∀ (l : List (Nat × Blk)) (seen : List Nat), fpOk ks n l seen = true → (∀ b x, (b, x) ∈ l → blkIn ks x = true ∧ b < n ∧ b ∉ seen) ∧ ∀ b x y, (b, x) ∈ l → (b, y) ∈ l → x = y
  | [], _, _ => ⟨fun b x h => (by cases h), fun b x y h => (by cases h)⟩
  | (c, z) :: r, seen, h => by
    simp only [fpOk, Bool.and_eq_true, Bool.not_eq_true'] at h
    obtain ⟨⟨⟨h1, h2⟩, h3⟩, h4⟩ := h
    obtain ⟨i1, i2⟩ := fpOk_spec r (c :: seen) h4
    have hc : c ∉ seen := fun hm => by rw [inK_iff.2 hm] at h3; cases h3
    refine ⟨fun b x hm => ?_, fun b x y hx hy => ?_⟩
    · rcases List.mem_cons.1 hm with e | hm
      · cases e; exact ⟨h1, ble_t h2, hc⟩
      · obtain ⟨a1, a2, a3⟩ := i1 b x hm
        exact ⟨a1, a2, fun h => a3 (List.mem_cons_of_mem _ h)⟩
    · rcases List.mem_cons.1 hx with e | hx <;> rcases List.mem_cons.1 hy with f | hy
      · cases e; cases f; rfl
      · cases e
        exact absurd (List.mem_cons_self ..) (i1 _ _ hy).2.2
      · cases f
        exact absurd (List.mem_cons_self ..) (i1 _ _ hx).2.2
      · exact i2 b x y hx hy
def rowsOk (ks : List Nat) (n : Nat) (A : AW) : List (Nat × Blk) → Bool
  | [] => true
  | (b, x) :: r => (Nat.ble n b || inK ks b) && (match A.heap.get b with
    | some y => blkEq x y
    | none => false) && rowsOk ks n A r
def keptOk (A : AW) (gone : List Nat) : List (Nat × Blk) → Bool
  | [] => true
  | (b, x) :: r => (inK gone b || (match A.heap.get b with
    | some y => blkEq x y
    | none => false)) && keptOk A gone r
def nextOf (e : Ent) : Nat := match e.ans with
  | .val _ => e.nx
  | .rows m _ _ _ => m
def entCheck (P : Program) (X : Ext) (tab : CallF) (L n : Nat) (f : Nat) (e : Ent) : Bool :=
  match withins (keysOf e.fp) e.args && fpOk (keysOf e.fp) (nextOf e) e.fp [] with
  | false => false
  | true => match callT P X tab L n f e.args { next := nextOf e, heap := setAll .leaf e.fp } with
    | none => false
    | some (v', A') => match e.ans with
      | .val v => within [] v && avEq v' v && keptOk A' [] e.fp
      | .rows _ v bs m' => avEq v' v && Nat.beq A'.next m' && rowsOk (keysOf e.fp) (nextOf e) A' bs && keptOk A' (keysOf bs ++ e.dead) e.fp
theorem rowsOk_spec {ks : List Nat} {n : Nat} {A : AW} : ∀ (bs : List (Nat × Blk)), rowsOk ks n A bs = true → ∀ b x, (b, x) ∈ bs → (n ≤ b ∨ b ∈ ks) ∧ A.heap.get b = some x
  | [], _, b, x, hm => by cases hm
  | (c, y) :: r, h, b, x, hm => by
    simp only [rowsOk, Bool.and_eq_true] at h
    obtain ⟨⟨h1, h2⟩, h3⟩ := h
    rcases List.mem_cons.1 hm with e | hm
    · cases e
      split at h2
      · rename_i z hz
        rw [Bool.or_eq_true] at h1
        refine ⟨?_, ?_⟩
        · rcases h1 with h1 | h1
          · exact .inl (ble_t h1)
          · exact .inr (inK_iff.1 h1)
        · rw [hz, blkEq_eq h2]
      · cases h2
    · exact rowsOk_spec r h3 b x hm
theorem keptOk_spec {gone : List Nat} {A : AW} : ∀ (l : List (Nat × Blk)), keptOk A gone l = true → ∀ b x, (b, x) ∈ l → b ∈ gone ∨ A.heap.get b = some x
  | [], _, b, x, hm => by cases hm
  | (c, y) :: r, h, b, x, hm => by
    simp only [keptOk, Bool.and_eq_true] at h
    obtain ⟨h1, h3⟩ := h
    rcases List.mem_cons.1 hm with e | hm
    · cases e
      rw [Bool.or_eq_true] at h1
      rcases h1 with h1 | h1
      · exact .inl (inK_iff.1 h1)
      · split at h1
        · rename_i z hz
          rw [hz, blkEq_eq h1]
          exact .inr rfl
        · cases h1
    · exact keptOk_spec r h3 b x hm
theorem WRel.none {P : Program} {base : Base} {n : Nat} {w : World} (hi : base.inv w) : WRel P base (fun _ => none) { next := n, heap := .leaf } w :=
  ⟨fun _ _ h => (by cases h), fun _ _ _ h => (by cases h), fun _ _ _ _ _ _ h => (by cases h), fun _ _ h => (by simp [Tree.get] at h), fun _ _ _ h => (by cases h), hi⟩
def only (ρ : Ren) (ks : List Nat) : Ren := fun b => if b ∈ ks then ρ b else none
theorem only_in {ρ : Ren} {ks : List Nat} {b : Nat} {i : Info} (h : only ρ ks b = some i) : b ∈ ks ∧ ρ b = some i := by
  unfold only at h
  split at h
  · exact ⟨‹_›, h⟩
  · cases h
theorem only_mk {ρ : Ren} {ks : List Nat} {b : Nat} (h : b ∈ ks) : only ρ ks b = ρ b := by simp [only, h]
theorem entCheck_sound (hng : XOk P X) (hm : P.follows .mixedOrders = true) {I : World → Prop} {tab : CallF} (ht : ∀ base : Base, (∀ w, base.inv w → I w) → CallOk P base tab) {L n f : Nat} {e : Ent} (h : entCheck P X tab L n f e = true) : EntOk P I f e := by
  unfold entCheck at h
  split at h <;> first | (cases h; done) | skip
  rename_i hfl
  rw [Bool.and_eq_true] at hfl
  obtain ⟨hwi, hfp⟩ := hfl
  obtain ⟨hf1, hf2⟩ := fpOk_spec _ _ hfp
  split at h <;> first | (cases h; done) | skip
  rename_i v1 A1 hc
  intro base hI A v A' ha ρ w us hargs hw hb
  unfold ansA at ha
  split at ha <;> first | (cases ha; done) | skip
  rename_i hhas
  have hrow := hasRows_spec _ hhas
  -- the blocks alone
  let ks := keysOf e.fp
  have hks : ∀ {b}, b ∈ ks ↔ ∃ x, (b, x) ∈ e.fp := keysOf_mem
  have hto : ∀ b ∈ ks, ∀ i, ρ b = some i → only ρ ks b = some i := fun b hb i h => by rw [only_mk hb]; exact h
  have hargs0 : LRel (only ρ ks) e.args us := withins_rel hto _ hwi hargs
  have hget0 : ∀ b x, (setAll .leaf e.fp).get b = some x → (b, x) ∈ e.fp := fun b x h => by
    rcases get_setAll _ _ h with h | ⟨h, _⟩
    · exact h
    · simp [Tree.get] at h
  have hw0 : WRel P base (only ρ ks) { next := nextOf e, heap := setAll .leaf e.fp } w := by
    refine ⟨fun b i h => ?_, fun b i x h hx => ?_, fun b b' i i' x x' h h' hx hx' he => ?_, fun b x hx => ?_, fun b i x h hx => ?_, hw.inv⟩
    · obtain ⟨hbk, hbi⟩ := only_in h
      obtain ⟨x, hx⟩ := hks.1 hbk
      exact ⟨(hf1 b x hx).2.1, (hw.dom b i hbi).2⟩
    · obtain ⟨hbk, hbi⟩ := only_in h
      have hm := hget0 b x hx
      obtain ⟨o, ho, hrel⟩ := hw.blk b i x hbi (hrow b x hm)
      exact ⟨o, ho, hrel.restrict hto (hf1 b x hm).1⟩
    · exact hw.sep _ _ _ _ _ _ (only_in h).2 (only_in h').2 (hrow _ _ (hget0 _ _ hx)) (hrow _ _ (hget0 _ _ hx')) he
    · exact (hf1 b x (hget0 b x hx)).2.1
    · exact hw.lo b i x (only_in h).2 (hrow _ _ (hget0 _ _ hx))
  have hgone : ∀ b i, b ∉ ks → ρ b = some i → ∀ x, A.heap.get b = some x → ∀ b0 i0, only ρ ks b0 = some i0 → i0.cb ≠ i.cb := by
    intro b i hbk hbi x hx b0 i0 h0 he
    obtain ⟨h0k, h0i⟩ := only_in h0
    obtain ⟨x0, hx0⟩ := hks.1 h0k
    exact hbk (hw.sep _ _ _ _ _ _ h0i hbi (hrow _ _ hx0) hx he ▸ h0k)
  have main := callT_sound hng hm (ht base hI) L n f _ _ _ _ hc (only ρ ks) w us hargs0 hw0 hb
  split at ha
  · -- a value alone
    rename_i v0 hans
    cases ha
    rw [hans] at h
    dsimp only at h
    simp only [Bool.and_eq_true] at h
    obtain ⟨⟨h1, h2⟩, h3⟩ := h
    have hv1 := avEq_eq _ _ h2
    subst hv1
    have hkept := keptOk_spec _ h3
    refine main.mono fun r w' hR => ?_
    obtain ⟨ρ', v', rfl, hst, hwr, hnx, hv⟩ := hR
    have hback : ∀ b ∈ ks, ∀ i, ρ' b = some i → ρ b = some i := fun b hbk i h => by
      obtain ⟨x, hx⟩ := hks.1 hbk
      rw [hst.ext b (hf1 b x hx).2.1, only_mk hbk] at h
      exact h
    refine ⟨ρ, v', rfl, ⟨hst.os, hst.tape, hst.output, hst.size, fun c hc hun => hst.frame c hc fun b i hbi => hun b i (only_in hbi).2, fun _ _ => rfl, fun b i h => .inl ⟨b, i, h, rfl⟩, hst.low⟩, ⟨fun b i h => ?_, fun b i x hbi hx => ?_, hw.sep, hw.top, hw.lo, hwr.inv⟩, Nat.le_refl _, within_rel (ks := []) (fun b hb => by cases hb) _ h1 hv⟩
    · exact ⟨(hw.dom b i h).1, Nat.lt_of_lt_of_le (hw.dom b i h).2 hst.size⟩
    · by_cases hbk : b ∈ ks
      · obtain ⟨y, hy⟩ := hks.1 hbk
        have hxy : x = y := by have := hrow b y hy; rw [hx] at this; exact Option.some.inj this
        subst hxy
        rcases hkept b x hy with hg | hg
        · cases hg
        · have hρ' : ρ' b = some i := by rw [hst.ext b (hf1 b x hy).2.1, only_mk hbk]; exact hbi
          obtain ⟨o, ho, hrel⟩ := hwr.blk b i x hρ' hg
          exact ⟨o, ho, hrel.restrict hback (hf1 b x hy).1⟩
      · obtain ⟨o, ho, hrel⟩ := hw.blk b i x hbi hx
        exact ⟨o, by rw [hst.frame _ (hw.dom b i hbi).2 (hgone b i hbk hbi x hx)]; exact ho, hrel⟩
  · -- blocks as well
    rename_i m v0 bs m' hans
    have hnext : nextOf e = m := by unfold nextOf; rw [hans]
    rw [hans] at h
    dsimp only at h
    simp only [Bool.and_eq_true] at h
    obtain ⟨⟨⟨h1, h2⟩, h3⟩, h4⟩ := h
    have hv1 := avEq_eq _ _ h1
    have h2 := beq_t h2
    subst hv1
    subst h2
    split at ha <;> first | (cases ha; done) | skip
    rename_i hn
    have hn := beq_t hn
    rw [hnext, hn] at main hw0 hf1 h3
    cases ha
    have hrows := rowsOk_spec bs h3
    have hkept := keptOk_spec _ h4
    refine main.mono fun r w' hR => ?_
    obtain ⟨ρ', v', rfl, hst, hwr, hnx, hv⟩ := hR
    dsimp only at hst hnx
    let ρ2 : Ren := fun b => if b < A.next then ρ b else ρ' b
    have hlo : ∀ b, b < A.next → ρ2 b = ρ b := fun b h => by simp [ρ2, h]
    have hhi : ∀ b, A.next ≤ b → ρ2 b = ρ' b := fun b h => by simp only [ρ2]; rw [if_neg (by omega)]
    have hold : ∀ b i, b < A.next → ρ' b = some i → b ∈ ks ∧ ρ b = some i := fun b i h hbi => by
      rw [hst.ext b h] at hbi
      exact only_in hbi
    have hle1 : ρ.le ρ2 := fun b i h => by rw [hlo b (hw.dom b i h).1]; exact h
    have hle2 : ρ'.le ρ2 := fun b i h => by
      rcases Nat.lt_or_ge b A.next with h' | h'
      · rw [hlo b h']; exact (hold b i h' h).2
      · rw [hhi b h']; exact h
    -- a row of the outcome: changed or new; or as it was
    have hget : ∀ b i x, ρ2 b = some i → (setAll (delAll A.heap e.dead) bs).get b = some x → (ρ' b = some i ∧ A1.heap.get b = some x) ∨ (b ∉ ks ∧ b < A.next ∧ ρ b = some i ∧ A.heap.get b = some x) := by
      intro b i x hbi hx
      rcases get_setAll bs _ hx with hx | ⟨hx, hnb⟩
      · obtain ⟨hwh, hx⟩ := hrows b x hx
        refine .inl ⟨?_, hx⟩
        rcases Nat.lt_or_ge b A.next with h' | h'
        · rcases hwh with hwh | hwh
          · omega
          · rw [hst.ext b h', only_mk hwh, ← hlo b h']; exact hbi
        · rw [← hhi b h']; exact hbi
      · obtain ⟨hx, hnd⟩ := get_delAll _ _ hx
        have hbn := hw.top b x hx
        rw [hlo b hbn] at hbi
        by_cases hbk : b ∈ ks
        · obtain ⟨y, hy⟩ := hks.1 hbk
          have hxy : x = y := by have := hrow b y hy; rw [hx] at this; exact Option.some.inj this
          subst hxy
          rcases hkept b x hy with hg | hg
          · rcases List.mem_append.1 hg with hg | hg
            · obtain ⟨z, hz⟩ := keysOf_mem.1 hg
              exact absurd hz (hnb z)
            · exact absurd hg hnd
          · exact .inl ⟨by rw [hst.ext b hbn, only_mk hbk]; exact hbi, hg⟩
        · exact .inr ⟨hbk, hbn, hbi, hx⟩
    have hsepn : ∀ b i x b' i' x', b ∉ ks → ρ b = some i → A.heap.get b = some x → ρ' b' = some i' → A1.heap.get b' = some x' → i.cb ≠ i'.cb := by
      intro b i x b' i' x' hbk hbi hx hb' hx' he
      rcases hst.fresh b' i' hb' with ⟨b0, i0, h0, e0⟩ | hge
      · exact hgone b i hbk hbi x hx b0 i0 h0 (by rw [e0, he])
      · have := (hw.dom b i hbi).2; omega
    refine ⟨ρ2, v', rfl, ⟨hst.os, hst.tape, hst.output, hst.size, fun c hc hun => hst.frame c hc fun b i hbi => hun b i (only_in hbi).2, fun b h => hlo b h, fun b i h => ?_, hst.low⟩, ⟨fun b i h => ?_, fun b i x h1 h2 => ?_, fun b b' i i' x x' hb hb' hx hx' he => ?_, fun b x h => ?_, fun b i x h1 h2 => ?_, hwr.inv⟩, hnx, hv.mono hle2⟩
    · rcases Nat.lt_or_ge b A.next with h' | h'
      · rw [hlo b h'] at h; exact .inl ⟨b, i, h, rfl⟩
      · rw [hhi b h'] at h
        rcases hst.fresh b i h with ⟨b0, i0, h0, e0⟩ | hge
        · exact .inl ⟨b0, i0, (only_in h0).2, e0⟩
        · exact .inr hge
    · rcases Nat.lt_or_ge b A.next with h' | h'
      · rw [hlo b h'] at h
        exact ⟨Nat.lt_of_lt_of_le (hw.dom b i h).1 hnx, Nat.lt_of_lt_of_le (hw.dom b i h).2 hst.size⟩
      · rw [hhi b h'] at h
        exact hwr.dom b i h
    · rcases hget b i x h1 h2 with ⟨g1, g2⟩ | ⟨g1, g2, g3, g4⟩
      · obtain ⟨o, ho, hrel⟩ := hwr.blk b i x g1 g2
        exact ⟨o, ho, hrel.mono hle2⟩
      · obtain ⟨o, ho, hrel⟩ := hw.blk b i x g3 g4
        exact ⟨o, by rw [hst.frame _ (hw.dom b i g3).2 (hgone b i g1 g3 x g4)]; exact ho, hrel.mono hle1⟩
    · rcases hget b i x hb hx with ⟨g1, g2⟩ | ⟨g1, g2, g3, g4⟩ <;> rcases hget b' i' x' hb' hx' with ⟨k1, k2⟩ | ⟨k1, k2, k3, k4⟩
      · exact hwr.sep _ _ _ _ _ _ g1 k1 g2 k2 he
      · exact absurd he.symm (hsepn b' i' x' b i x k1 k3 k4 g1 g2)
      · exact absurd he (hsepn b i x b' i' x' g1 g3 g4 k1 k2)
      · exact hw.sep _ _ _ _ _ _ g3 k3 g4 k4 he
    · rcases get_setAll bs _ h with h | ⟨h, _⟩
      · exact hwr.top b x (hrows b x h).2
      · exact Nat.lt_of_lt_of_le (hw.top b x (get_delAll _ _ h).1) hnx
    · rcases hget b i x h1 h2 with ⟨g1, g2⟩ | ⟨g1, g2, g3, g4⟩
      · exact hwr.lo b i x g1 g2
      · exact hw.lo b i x g3 g4
def batchOk (P : Program) (X : Ext) (T : Table) (L n : Nat) (B : Table) : Bool := B.all fun g => g.2.all (entCheck P X (tabOf T) L n g.1)
theorem TabOk.nil {I : World → Prop} : TabOk P I [] := fun g hg => by cases hg
theorem TabOk.add (hng : XOk P X) (hm : P.follows .mixedOrders = true) {I : World → Prop} {T B : Table} (hT : TabOk P I T) {L n : Nat} (h : batchOk P X T L n B = true) : TabOk P I (B ++ T) := by
  intro g hg e he
  rcases List.mem_append.1 hg with hg | hg
  · exact entCheck_sound hng hm (fun base hI => tabOf_sound hI T hT) (List.all_eq_true.1 (List.all_eq_true.1 h g hg) e he)
  · exact hT g hg e he
open Go.WideShapes Go.ChangeShapes in
open Go.WideShapes Go.ChangeShapes in
end
end Go.Ab
set_option linter.unusedVariables false
set_option linter.unusedSimpArgs false
namespace Go.Ab
open Go Go.RowKit
structure Enc (α : Type) where
  size : Nat
  cells : α → List AV
  len : ∀ a, (cells a).length = size
  one : ∀ a, (cells a).all oneCell = true
section
variable {α : Type} (E : Enc α)
def Enc.row (xs : List α) : List AV := xs.flatMap E.cells
theorem Enc.row_cons (x : α) (xs : List α) : E.row (x :: xs) = E.cells x ++ E.row xs := rfl
theorem Enc.row_append (xs ys : List α) : E.row (xs ++ ys) = E.row xs ++ E.row ys := by simp [Enc.row]
theorem Enc.row_one (x : α) : E.row [x] = E.cells x := by simp [Enc.row]
theorem Enc.row_len : ∀ (xs : List α), (E.row xs).length = xs.length * E.size
  | [] => by simp [Enc.row]
  | x :: xs => by rw [Enc.row_cons, List.length_append, E.len, Enc.row_len xs, List.length_cons, Nat.succ_mul, Nat.add_comm]
theorem Enc.row_all : ∀ (xs : List α), (E.row xs).all oneCell = true
  | [] => by simp [Enc.row]
  | x :: xs => by rw [Enc.row_cons, List.all_append, E.one, Enc.row_all xs]; rfl
theorem Enc.row_drop : ∀ (xs : List α) (i : Nat), (E.row xs).drop (i * E.size) = E.row (xs.drop i)
  | [], i => by simp [Enc.row]
  | x :: xs, 0 => by simp
  | x :: xs, i + 1 => by
    rw [Enc.row_cons, Nat.succ_mul, Nat.add_comm, ← List.drop_drop, List.drop_left' (E.len x), Enc.row_drop xs i]
    rfl
theorem Enc.row_take : ∀ (xs : List α) (i : Nat), (E.row xs).take (i * E.size) = E.row (xs.take i)
  | [], i => by simp [Enc.row]
  | x :: xs, 0 => by simp [Enc.row]
  | x :: xs, i + 1 => by
    rw [Enc.row_cons, Nat.succ_mul, Nat.add_comm, List.take_append, List.take_of_length_le (by rw [E.len]; omega), E.len, Nat.add_sub_cancel_left, Enc.row_take xs i]
    rfl
theorem Enc.row_get {xs : List α} {i : Nat} (hi : i < xs.length) : ((E.row xs).drop (i * E.size)).take E.size = E.cells xs[i] := by
  rw [Enc.row_drop, List.drop_eq_getElem_cons hi, Enc.row_cons]
  rw [List.take_append_of_le_length (by rw [E.len]; exact Nat.le_refl _), List.take_of_length_le (by rw [E.len]; exact Nat.le_refl _)]
abbrev Sl (M : RM) (v : AV) (xs : List α) : Prop := SlR M E.size v (E.row xs) xs.length
abbrev Ow (M : RM) (base el : Nat) (v : AV) (xs : List α) : Prop := Own M base el E.size v (E.row xs) xs.length
variable {E} {M M' : RM} {v : AV} {xs : List α}
theorem Sl.elem (h : Sl E M v xs) {i : Nat} (hi : i < xs.length) : ∃ b o, b < M.next ∧ b ∈ blkOf v ∧ (∀ (kd : IntKind) (K : AV → Prop), idxS v (N kd (i : Int)) E.size K = K (.ptr b o)) ∧ M.loads b o E.size = some (E.cells xs[i]) := by
  obtain ⟨b, o, cap, rfl, hb, hl⟩ := h.pos (by omega)
  have hsum : i * E.size + E.size ≤ xs.length * E.size := by rw [← Nat.succ_mul]; exact Nat.mul_le_mul_right _ hi
  refine ⟨b, o + i * E.size, hb, by simp [blkOf], fun kd K => ?_, ?_⟩
  · rw [idxS_slc]
    simp only [Int.toNat_natCast]
    exact propext ⟨fun h => h.2.2, fun h => ⟨by omega, by omega, h⟩⟩
  · rw [loads_sub hl (i * E.size) E.size hsum, E.row_get hi]
theorem Sl.at (h : Sl E M v xs) {i : Nat} (sz : Nat) (j : Int) (hi : i < xs.length) (hsz : E.size = sz := by rfl) (hj : j = (i : Int) := by rfl) : ∃ b o, b < M.next ∧ b ∈ blkOf v ∧ (∀ (kd : IntKind) (K : AV → Prop), idxS v (N kd j) sz K = K (.ptr b o)) ∧ M.loads b o sz = some (E.cells xs[i]) := by
  subst hsz hj; exact h.elem hi
theorem cell_of_loads {b o k : Nat} {cs : List AV} (h : M.loads b o k = some cs) {j : Nat} {x : AV} (hj : cs[j]? = some x) : M.cell b (o + j) = some x := by
  have hlt : j < k := by rw [← loads_len h]; exact (List.getElem?_eq_some_iff.1 hj).1
  rw [loads_get h j hlt, hj]
theorem cell0_of_loads {b o k : Nat} {cs : List AV} (h : M.loads b o k = some cs) {x : AV} (hj : cs[0]? = some x) : M.cell b o = some x := cell_of_loads h hj
theorem app_all {base T bytes : Nat} {zs : List AV} {u : AV} {ys : List α} {K : PostV} (ho : Ow E M base T v xs) (hb : base ≤ M.next) (hs : 1 ≤ E.size) (hu : Sl E M u ys)
    (hn : (xs.length + ys.length) * bytes ≤ 140737488355328) (hn2 : xs.length + ys.length ≤ 140737488355328)
    (hK : ∀ v' M', Ow E M' base T v' (xs ++ ys) → Keep (blkOf v) M M' → M.next ≤ M'.next → (v' = v ∨ ∀ b ∈ blkOf v', M.next ≤ b) → K v' M') :
    appW T E.size bytes zs false v u M K := by
  refine app_own ho hb hs (SlR.newL hu _) (E.row_len ys) (E.row_all ys) hn hn2 ?_
  intro v' M' h1 h2 h3 h4
  refine hK v' M' ?_ h2 h3 h4
  rw [← E.row_append] at h1
  simpa [Ow] using h1
theorem loads_head {b o k : Nat} {cs : List AV} (h : M.loads b o k = some cs) (m : Nat) (hm : m ≤ k) : M.loads b o m = some (cs.take m) := loads_sub h 0 m (by omega)
theorem Sl.new {T c : Nat} {p : Bool} (ys : List α) : Sl E (M.push (.row (E.row ys) p T 0)) (.slc M.next 0 ys.length (.ex c)) ys :=
  .slc _ _ _ _ _ (by simp [RM.push]) (by rw [RM.loads_row (RM.push_new _) (by rw [E.row_len]; omega), List.drop_zero, ← E.row_len, List.take_length])
theorem app_one {base T bytes : Nat} {zs : List AV} {a : α} {K : PostV} (ho : Ow E M base T v xs) (hb : base ≤ M.next) (hs : 1 ≤ E.size)
    (hn : (xs.length + 1) * bytes ≤ 140737488355328) (hn2 : xs.length + 1 ≤ 140737488355328)
    (hK : ∀ v' M', Ow E M' base T v' (xs ++ [a]) → Keep (blkOf v) M M' → M.next ≤ M'.next → (v' = v ∨ ∀ b ∈ blkOf v', M.next ≤ b) → K v' M') :
    appW T E.size bytes zs false v (.slc M.next 0 1 (.ex 1)) (M.push (.row (E.cells a) false T 0)) K := by
  have hk : Keep [] M (M.push (.row (E.cells a) false T 0)) := (Keep.refl _ _).push _
  refine app_all (ys := [a]) (Own.keep ho hk (by simp)) (Nat.le_trans hb hk.next) hs (by rw [← E.row_one]; exact Sl.new [a]) hn hn2 ?_
  intro v' M' h1 h2 h3 h4
  exact hK v' M' h1 ((hk.mono (by simp)).trans h2) (Nat.le_trans hk.next h3) (h4.imp id fun h b hb => Nat.le_trans hk.next (h b hb))
@[go_sem] theorem rows0 {T : Nat} {zs : List AV} {K : RB → (Nat → AV) → Prop} : rowsW T 0 zs [] K = K (.row [] false T 0) (fun b => .slc b 0 0 (.ex 0)) := by
  apply propext; unfold rowsW
  constructor
  · rintro ⟨l, h, hk⟩; cases h; exact hk
  · intro hk; exact ⟨_, rfl, hk⟩
theorem rows1 {T size : Nat} {zs : List AV} {x : AV} {K : RB → (Nat → AV) → Prop} (h : x.cells.length = size) (h1 : x.cells.all oneCell = true) (hz : zs.length = size) :
    rowsW T 1 zs [(0, size, x)] K = K (.row x.cells false T 0) (fun b => .slc b 0 1 (.ex 1)) := by
  have : fillO (repL zs 1) [(0, size, x)] = some x.cells := by
    simp only [fillO, repL, List.append_nil, h1, h, Nat.zero_add, hz, Nat.le_refl, and_self, if_true, List.take_zero, List.nil_append]
    rw [List.drop_of_length_le (by omega), List.append_nil]
  apply propext; unfold rowsW
  constructor
  · rintro ⟨l, h, hk⟩; rw [this] at h; cases h; exact hk
  · intro hk; exact ⟨_, this, hk⟩
theorem Ow.lit (E : Enc α) {T : Nat} (M : RM) : Ow E (M.push (.row [] false T 0)) M.next T (.slc M.next 0 0 (.ex 0)) [] := Own.lit M (Nat.le_refl _)
theorem i64_succ {i : Nat} (h : i < 9223372036854775807) : IntKind.wrap .i64 ((i : Int) + 1) = ((i + 1 : Nat) : Int) := by
  rw [wrap_i64_id (by omega) (by omega)]; rfl
end
@[go_sem] theorem flatEq_nil : flatEq [] [] [] = some true := rfl
@[go_sem] theorem flatEq_int (ks : List Nat) (k : IntKind) (a b : Int) (xs ys : List AV) : flatEq (1 :: ks) (N k a :: xs) (N k b :: ys) = if a = b then flatEq ks xs ys else some false := by
  simp only [flatEq, cellEq, if_true]
  by_cases h : a = b
  · simp [h]
  · have : (a == b) = false := by simp [h]
    simp [this, h]
@[go_sem] theorem flatEq_str (ks : List Nat) (a b : List UInt8) (xs ys : List AV) : flatEq (2 :: ks) (St a :: xs) (St b :: ys) = if a = b then flatEq ks xs ys else some false := by
  simp only [flatEq, cellEq]
  by_cases h : a = b
  · simp [h]
  · have : (a == b) = false := by simp [h]
    simp [this, h]
@[go_sem] theorem flatEq_bool (ks : List Nat) (a b : Bool) (xs ys : List AV) : flatEq (3 :: ks) (Bo a :: xs) (Bo b :: ys) = if a = b then flatEq ks xs ys else some false := by
  simp only [flatEq, cellEq]
  by_cases h : a = b
  · simp [h]
  · have : (a == b) = false := by simp [h]
    simp [this, h]
theorem aggEqW_of {neg : Bool} {ks : List Nat} {cs ds : List AV} {r : Bool} {K : AV → Prop} (h1 : cs.length = ks.length) (h2 : ds.length = ks.length) (h : flatEq ks cs ds = some r) : aggEqW neg ks (.agg cs) (.agg ds) K = K (Bo (r != neg)) := by
  rw [aggEqW_agg]
  apply propext
  constructor
  · rintro ⟨_, _, r', h', hk⟩; rw [h] at h'; cases h'; exact hk
  · intro hk; exact ⟨h1, h2, r, h, hk⟩
theorem fuseM (x : AV) (w : Bool) (f g : PostV → Prop) (F G : AV → RM → PostV → Prop) (k : PostV) :
    guardM x w f g (fun v M => guardM x w (F v M) (G v M) k) = guardM x w (fun k' => f fun v M => F v M k') (fun k' => g fun v M => G v M k') k := by
  unfold guardM guardW
  split
  · split <;> simp_all
  · rfl
  · rfl
theorem fuseK (x : AV) (w : Bool) (f g : KR → Prop) (F G : AV → RM → Option Nat → KR → Prop) (k : KR) :
    guardK x w f g (fun v M b => guardK x w (F v M b) (G v M b) k) = guardK x w (fun k' => f fun v M b => F v M b k') (fun k' => g fun v M b => G v M b k') k := by
  unfold guardK guardW
  split
  · split <;> simp_all
  · rfl
  · rfl
theorem fuseKM (x : AV) (w : Bool) (f g : KR → Prop) (F G : AV → RM → Option Nat → PostV → Prop) (k : PostV) :
    guardK x w f g (fun v M b => guardM x w (F v M b) (G v M b) k) = guardM x w (fun k' => f fun v M b => F v M b k') (fun k' => g fun v M b => G v M b k') k := by
  unfold guardK guardM guardW
  split
  · split <;> simp_all
  · rfl
  · rfl
theorem fuseMK (x : AV) (w : Bool) (f g : PostV → Prop) (F G : AV → RM → KR → Prop) (k : KR) :
    guardM x w f g (fun v M => guardK x w (F v M) (G v M) k) = guardK x w (fun k' => f fun v M => F v M k') (fun k' => g fun v M => G v M k') k := by
  unfold guardK guardM guardW
  split
  · split <;> simp_all
  · rfl
  · rfl
theorem loopW_ind {body : (List AV → RM → Prop) → List AV → RM → Prop} {xs : List AV} {M : RM} (I : Nat → List AV → RM → Prop) (n : Nat) (h0 : I n xs M)
    (hb : ∀ (next : List AV → RM → Prop) m ys M', (∀ m' zs M'', m' < m → I m' zs M'' → next zs M'') → I m ys M' → body next ys M') : loopW body xs M :=
  ⟨I, n, h0, fun m ys M' hI => hb _ m ys M' (fun m' zs M'' hlt h => ⟨m', hlt, h⟩) hI⟩
theorem callsR_tab {P : Program} {I : World → Prop} {T : Table} (hT : TabOk P I T) {f : FuncId} {args : List AV} {v : AV} {M : RM} {Q : PostV} (hP : HasBody P f) (hl : ∀ A, tabOf T f args A = some (v, A))
    (hI : ∀ w, M.base.inv w → I w) (hQ : Q v M) : CallsR P f args M Q := by
  refine ⟨hP, fun ρ w us hargs hw => ?_⟩
  obtain ⟨A, hA⟩ := hw
  refine (tabOf_sound (base := M.base) hI T hT f args A v A (hl A) ρ w us hargs hA.rel hA.size).mono fun e w' hR => ?_
  obtain ⟨ρ', v', rfl, hst, hw', _, hv⟩ := hR
  refine ⟨v', v, M, ρ', rfl, after_of hA hst hw' rfl hA.next (Nat.le_refl _) (fun b x hx => ?_), hv, hQ⟩
  rcases hA.blk b x hx with h | ⟨c, rfl, _⟩
  · exact .inl h
  · exact .inr ⟨c, rfl, hx⟩
end Go.Ab
set_option linter.unusedVariables false
set_option linter.unusedSimpArgs false
namespace Go.Ab
open Go Go.RowKit
abbrev By (b : UInt8) : AV := N .u8 (b.toNat : Int)
def BY : Enc UInt8 := ⟨1, fun b => [By b], fun _ => rfl, fun _ => rfl⟩
theorem BY_row (s : List UInt8) : BY.row s = s.map By := by
  induction s with
  | nil => rfl
  | cons b s ih => rw [Enc.row_cons, ih]; rfl
def INT : Enc Int := ⟨1, fun n => [N .i64 n], fun _ => rfl, fun _ => rfl⟩
def U64 : Enc Nat := ⟨1, fun n => [N .u64 (n : Int)], fun _ => rfl, fun _ => rfl⟩
theorem U64_row (s : List Nat) : U64.row s = s.map (fun (s : Nat) => N .u64 (s : Int)) := by
  induction s with
  | nil => rfl
  | cons b s ih => rw [Enc.row_cons, ih]; rfl
section
variable {α : Type} {E : Enc α} {M M' : RM} {v : AV} {xs : List α}
theorem Sl.at1 (h : Sl E M v xs) {i : Nat} (j : Int) (hi : i < xs.length) (hsz : E.size = 1 := by rfl) (hj : j = (i : Int) := by rfl) :
    ∃ b o, b < M.next ∧ b ∈ blkOf v ∧ (∀ (kd : IntKind) (K : AV → Prop), idxS v (N kd j) 1 K = K (.ptr b o)) ∧ ∀ x, E.cells xs[i] = [x] → M.cell b o = some x := by
  obtain ⟨b, o, h1, h2, h3, h4⟩ := Sl.at h 1 j hi hsz hj
  exact ⟨b, o, h1, h2, h3, fun x hx => cell0_of_loads h4 (by rw [hx]; rfl)⟩
structure Rw (E : Enc α) (M : RM) (b : Nat) (opn : Bool) (el : Nat) (xs : List α) : Prop where
  heap : M.heap b = some (.row (E.row xs) opn el 0)
  lt : b < M.next
theorem Rw.sl {b el : Nat} {p : Bool} {cap : Cap} (h : Rw E M b p el xs) : Sl E M (.slc b 0 xs.length cap) xs := by
  refine .slc _ _ _ _ _ h.lt ?_
  rw [RM.loads_row h.heap (by rw [E.row_len]; omega), List.drop_zero, ← E.row_len, List.take_length]
theorem Rw.keep {b el : Nat} {p : Bool} {bs : List Nat} (h : Rw E M b p el xs) (hk : Keep bs M M') (hb : b ∉ bs) : Rw E M' b p el xs :=
  ⟨hk.heap_of h.heap h.lt hb, Nat.lt_of_lt_of_le h.lt hk.next⟩
theorem Rw.new {el : Nat} {p : Bool} (M : RM) (xs : List α) : Rw E (M.push (.row (E.row xs) p el 0)) M.next p el xs :=
  ⟨RM.push_new _, by simp [RM.push]⟩
end
@[go_sem] theorem bytesW_St (el : Nat) (s : List UInt8) (K : RB → (Nat → AV) → Prop) : bytesW el (St s) K = K (.row (BY.row s) true el 0) (fun b => .slc b 0 s.length (.op 1)) := by
  rw [BY_row]
  apply propext; unfold bytesW
  constructor
  · rintro ⟨s', h, hk⟩; cases h; exact hk
  · intro hk; exact ⟨s, rfl, hk⟩
def lowB (b : UInt8) : UInt8 := if 65 ≤ b.toNat ∧ b.toNat ≤ 90 then b + 32 else b
def low (s : List UInt8) : List UInt8 := s.map lowB
end Go.Ab
set_option linter.unusedVariables false
set_option linter.unusedSimpArgs false
namespace Go.Ab
open Go Go.RowKit
structure KeepTo (n : Nat) (bs : List Nat) (M M' : RM) : Prop where
  base : M'.base = M.base
  next : M.next ≤ M'.next
  heap : ∀ c, c < n → c ∉ bs → M'.heap c = M.heap c
theorem KeepTo.refl (n : Nat) (bs : List Nat) (M : RM) : KeepTo n bs M M := ⟨rfl, Nat.le_refl _, fun _ _ _ => rfl⟩
theorem KeepTo.trans {n : Nat} {bs : List Nat} {M M1 M2 : RM} (h : KeepTo n bs M M1) (k : KeepTo n bs M1 M2) : KeepTo n bs M M2 :=
  ⟨k.base.trans h.base, Nat.le_trans h.next k.next, fun c h1 h2 => (k.heap c h1 h2).trans (h.heap c h1 h2)⟩
theorem Keep.to {bs cs : List Nat} {n : Nat} {M M' : RM} (h : Keep bs M M') (hn : n ≤ M.next) (hb : ∀ b ∈ bs, n ≤ b ∨ b ∈ cs) : KeepTo n cs M M' :=
  ⟨h.base, h.next, fun c h1 h2 => h.heap c (Nat.lt_of_lt_of_le h1 hn) (fun hm => by rcases hb c hm with h3 | h3; omega; exact h2 h3)⟩
theorem KeepTo.heap_of {n : Nat} {bs : List Nat} {M M' : RM} (h : KeepTo n bs M M') {b : Nat} {x : RB} (hh : M.heap b = some x) (hlt : b < n) (hb : b ∉ bs) : M'.heap b = some x := by rw [h.heap b hlt hb, hh]
theorem Own.same {M M' : RM} {n el size n0 : Nat} {v : AV} {cs : List AV} (h : Own M n0 el size v cs n) (hn : M'.next = M.next) (hb : ∀ c ∈ blkOf v, M'.heap c = M.heap c) (hbase : M'.base = M.base) : Own M' n0 el size v cs n := by
  cases h with
  | nil => exact .nil
  | ex0 b o h1 h2 h3 => exact .ex0 b o h1 (by omega) (by simpa [RM.cells_eq, hb b (by simp [blkOf]), RM.lo, hbase] using h3)
  | op b n cs h1 h2 h3 h4 => exact .op b n cs h1 (by omega) (by rw [hb b (by simp [blkOf]), h3]) h4
theorem Own.one {M : RM} {n el size n0 : Nat} {v : AV} {cs : List AV} (h : Own M n0 el size v cs n) : oneCell v = true := by
  cases h <;> rfl
def AwakeC (B : Base) (c : CallT) : Prop := ∀ {M : RM} {Q : PostV}, M.base = B → Q (Bo true) M → c [] M Q
theorem Own.cells {M : RM} {n el size n0 : Nat} {v : AV} {cs : List AV} (h : Own M n0 el size v cs n) : v.cells = [v] := by
  cases h <;> rfl
end Go.Ab
set_option linter.unusedVariables false
set_option linter.unusedSimpArgs false
namespace Go.Ab
open Go Go.RowKit
section
variable {P : Program} {ρ : Ren} {M : RM} {w w' : World}
theorem WRel.below {base : Base} {A : AW} (h : WRel P base ρ A w) (hb : Below w.heap.size w w') (hn : base.n ≤ w.heap.size) : WRel P base ρ A w' where
  dom b i hbi := ⟨(h.dom b i hbi).1, Nat.lt_of_lt_of_le (h.dom b i hbi).2 hb.size⟩
  blk b i x hbi hx := let ⟨o, ho, hr⟩ := h.blk b i x hbi hx; ⟨o, by rw [hb.block _ (h.dom b i hbi).2]; exact ho, hr⟩
  sep := h.sep
  top := h.top
  lo := h.lo
  inv := base.low w w' (fun c hc => hb.block c (Nat.lt_of_lt_of_le hc hn)) h.inv
theorem Step.of_below {base n : Nat} (hb : Below w.heap.size w w') (hn : base ≤ w.heap.size) : Step base n ρ w ρ w' where
  os := hb.os
  tape := hb.tape
  output := hb.output
  size := hb.size
  frame c hc _ := hb.block c hc
  ext _ _ := rfl
  fresh b i h := .inl ⟨b, i, h, rfl⟩
  low c hc := hb.block c (Nat.lt_of_lt_of_le hc hn)
theorem After.below (h : MRel P ρ M w) (hb : Below w.heap.size w w') : After P M ρ w M ρ w' := by
  obtain ⟨A, hA⟩ := h
  refine after_of hA (Step.of_below hb hA.size) (hA.rel.below hb hA.size) rfl hA.next (Nat.le_refl _) fun b x hx => ?_
  rcases hA.blk b x hx with h | ⟨c, rfl, _⟩
  · exact .inl h
  · exact .inr ⟨c, rfl, hx⟩
end
end Go.Ab
set_option linter.unusedVariables false
set_option linter.unusedSimpArgs false
namespace Go.Ab
open Go Go.RowKit
structure Rep (α : Type) where
  size : Nat
  rel : RM → List AV → α → (Nat → Prop) → Prop
  len : ∀ {M cs a S}, rel M cs a S → cs.length = size
  one : ∀ {M cs a S}, rel M cs a S → cs.all oneCell = true
  mono : ∀ {M cs a S S'}, rel M cs a S → (∀ b, S b → S' b) → rel M cs a S'
  lt : ∀ {M cs a S}, rel M cs a S → rel M cs a (fun b => S b ∧ b < M.next)
  keep : ∀ {M M' cs a S bs}, rel M cs a S → Keep bs M M' → (∀ b ∈ bs, ¬ S b) → rel M' cs a S
def Enc.rep {α : Type} (E : Enc α) : Rep α where
  size := E.size
  rel _ cs a _ := cs = E.cells a
  len h := by subst h; exact E.len _
  one h := by subst h; exact E.one _
  mono h _ := h
  lt h := h
  keep h _ _ := h
inductive RepL {α : Type} (R : Rep α) (M : RM) (S : Nat → Prop) : List AV → List α → Prop
  | nil : RepL R M S [] []
  | cons {cs ds : List AV} {a : α} {xs : List α} : R.rel M cs a S → RepL R M S ds xs → RepL R M S (cs ++ ds) (a :: xs)
section
variable {α : Type} {R : Rep α} {M M' : RM} {S S' : Nat → Prop} {cs ds : List AV} {xs ys : List α} {a : α}
theorem RepL.len (h : RepL R M S cs xs) : cs.length = xs.length * R.size := by
  induction h with
  | nil => simp
  | cons h1 _ ih => rw [List.length_append, R.len h1, ih, List.length_cons, Nat.succ_mul, Nat.add_comm]
theorem RepL.one (h : RepL R M S cs xs) : cs.all oneCell = true := by
  induction h with
  | nil => rfl
  | cons h1 _ ih => rw [List.all_append, R.one h1, ih]; rfl
theorem RepL.mono (h : RepL R M S cs xs) (hs : ∀ b, S b → S' b) : RepL R M S' cs xs := by
  induction h with
  | nil => exact .nil
  | cons h1 _ ih => exact .cons (R.mono h1 hs) ih
theorem RepL.lt (h : RepL R M S cs xs) : RepL R M (fun b => S b ∧ b < M.next) cs xs := by
  induction h with
  | nil => exact .nil
  | cons h1 _ ih => exact .cons (R.lt h1) ih
theorem RepL.keep {bs : List Nat} (h : RepL R M S cs xs) (hk : Keep bs M M') (hb : ∀ b ∈ bs, ¬ S b) : RepL R M' S cs xs := by
  induction h with
  | nil => exact .nil
  | cons h1 _ ih => exact .cons (R.keep h1 hk hb) ih
theorem RepL.append (h : RepL R M S cs xs) (k : RepL R M S ds ys) : RepL R M S (cs ++ ds) (xs ++ ys) := by
  induction h with
  | nil => exact k
  | cons h1 _ ih => rw [List.append_assoc]; exact .cons h1 ih
theorem RepL.single (h : R.rel M cs a S) : RepL R M S cs [a] := by
  have := RepL.cons h .nil
  simpa using this
theorem RepL.get (h : RepL R M S cs xs) : ∀ {i : Nat} (hi : i < xs.length), R.rel M ((cs.drop (i * R.size)).take R.size) xs[i] S := by
  induction h with
  | nil => intro i hi; simp at hi
  | cons h1 h2 ih =>
    rename_i c1 d1 a1 x1
    intro i hi
    cases i with
    | zero =>
      rw [Nat.zero_mul, List.drop_zero, List.take_append_of_le_length (by rw [R.len h1]; exact Nat.le_refl _), List.take_of_length_le (by rw [R.len h1]; exact Nat.le_refl _)]
      exact h1
    | succ i =>
      rw [Nat.succ_mul, Nat.add_comm, ← List.drop_drop, List.drop_left' (R.len h1)]
      exact ih (by simpa using hi)
theorem RepL.take (h : RepL R M S cs xs) : ∀ (k : Nat), RepL R M S (cs.take (k * R.size)) (xs.take k) := by
  induction h with
  | nil => intro k; simp; exact .nil
  | cons h1 h2 ih =>
    intro k
    cases k with
    | zero => simp; exact .nil
    | succ k =>
      rw [Nat.succ_mul, Nat.add_comm, List.take_append, List.take_of_length_le (by rw [R.len h1]; omega), R.len h1, Nat.add_sub_cancel_left]
      exact .cons h1 (ih k)
theorem RepL.drop (h : RepL R M S cs xs) : ∀ (k : Nat), RepL R M S (cs.drop (k * R.size)) (xs.drop k) := by
  induction h with
  | nil => intro k; simp; exact .nil
  | cons h1 h2 ih =>
    intro k
    cases k with
    | zero => simp; exact .cons h1 h2
    | succ k =>
      rw [Nat.succ_mul, Nat.add_comm, ← List.drop_drop, List.drop_left' (R.len h1)]
      exact ih k
theorem RepL.cells {E : Enc α} : ∀ {cs : List AV} {xs : List α}, RepL E.rep M S cs xs → cs = E.row xs
  | _, _, .nil => rfl
  | _, _, .cons h1 h2 => by rw [Enc.row_cons, RepL.cells h2]; rw [show _ = _ from h1]
theorem RepL.of_cells {E : Enc α} : ∀ (xs : List α), RepL E.rep M S (E.row xs) xs
  | [] => .nil
  | x :: xs => by rw [Enc.row_cons]; exact .cons rfl (RepL.of_cells xs)
def SlD (R : Rep α) (M : RM) (v : AV) (xs : List α) (S : Nat → Prop) : Prop :=
  ∃ cs, SlR M R.size v cs xs.length ∧ (∀ b ∈ blkOf v, S b) ∧ RepL R M S cs xs
theorem SlR.lt {size n : Nat} {v : AV} (h : SlR M size v cs n) : ∀ b ∈ blkOf v, b < M.next := by
  cases h with
  | nil => intro b hb; simp [blkOf] at hb
  | emp => intro b hb; simp [blkOf] at hb
  | slc b o n cap cs hb _ => intro c hc; simp [blkOf] at hc; omega
theorem SlR.one {size n : Nat} {v : AV} (h : SlR M size v cs n) : oneCell v = true := by
  cases h <;> rfl
theorem SlR.cells {size n : Nat} {v : AV} (h : SlR M size v cs n) : v.cells = [v] := by
  cases h <;> rfl
variable {v : AV}
theorem SlD.mono (h : SlD R M v xs S) (hs : ∀ b, S b → S' b) : SlD R M v xs S' := let ⟨cs, h1, h2, h3⟩ := h; ⟨cs, h1, fun b hb => hs b (h2 b hb), h3.mono hs⟩
theorem SlD.lt (h : SlD R M v xs S) : SlD R M v xs (fun b => S b ∧ b < M.next) := let ⟨cs, h1, h2, h3⟩ := h; ⟨cs, h1, fun b hb => ⟨h2 b hb, h1.lt b hb⟩, h3.lt⟩
theorem SlD.keep {bs : List Nat} (h : SlD R M v xs S) (hk : Keep bs M M') (hb : ∀ b ∈ bs, ¬ S b) : SlD R M' v xs S :=
  let ⟨cs, h1, h2, h3⟩ := h; ⟨cs, h1.keep hk (fun b hv hbs => hb b hbs (h2 b hv)), h2, h3.keep hk hb⟩
theorem SlD.len (h : SlD R M v xs S) {K : AV → Prop} : lenW v K = K (N .i64 xs.length) := let ⟨cs, h1, _, _⟩ := h; h1.len
theorem SlD.one (h : SlD R M v xs S) : oneCell v = true := let ⟨cs, h1, _, _⟩ := h; h1.one
theorem SlD.cells (h : SlD R M v xs S) : v.cells = [v] := let ⟨cs, h1, _, _⟩ := h; h1.cells
theorem SlD.nil : SlD R M nilS [] S := ⟨[], .nil, by simp [blkOf], .nil⟩
theorem SlD.sl {E : Enc α} (h : SlD E.rep M v xs S) : Sl E M v xs := by
  obtain ⟨cs, h1, h2, h3⟩ := h
  rw [h3.cells] at h1
  exact h1
theorem SlD.of_sl {E : Enc α} (h : Sl E M v xs) (hs : ∀ b ∈ blkOf v, S b) : SlD E.rep M v xs S := ⟨_, h, hs, RepL.of_cells xs⟩
theorem SlD.at (h : SlD R M v xs S) {i : Nat} (sz : Nat) (j : Int) (hi : i < xs.length) (hsz : R.size = sz := by rfl) (hj : j = (i : Int) := by rfl) :
    ∃ b o cs, b < M.next ∧ b ∈ blkOf v ∧ (∀ (kd : IntKind) (K : AV → Prop), idxS v (N kd j) sz K = K (.ptr b o)) ∧ M.loads b o sz = some cs ∧ R.rel M cs xs[i] S := by
  subst hsz hj
  obtain ⟨cs, h1, h2, h3⟩ := h
  obtain ⟨b, o, cap, rfl, hb, hl⟩ := h1.pos (by omega)
  have hsum : i * R.size + R.size ≤ xs.length * R.size := by rw [← Nat.succ_mul]; exact Nat.mul_le_mul_right _ hi
  refine ⟨b, o + i * R.size, (cs.drop (i * R.size)).take R.size, hb, by simp [blkOf], fun kd K => ?_, ?_, h3.get hi⟩
  · rw [idxS_slc]
    simp only [Int.toNat_natCast]
    exact propext ⟨fun h => h.2.2, fun h => ⟨by omega, by omega, h⟩⟩
  · rw [loads_sub hl (i * R.size) R.size hsum]
def Rep.slice (R : Rep α) : Rep (List α) where
  size := 1
  rel M cs xs S := ∃ v, cs = [v] ∧ SlD R M v xs S
  len h := by obtain ⟨v, rfl, _⟩ := h; rfl
  one h := by obtain ⟨v, rfl, h⟩ := h; simp [h.one]
  mono h hs := by obtain ⟨v, rfl, h⟩ := h; exact ⟨v, rfl, h.mono hs⟩
  lt h := by obtain ⟨v, rfl, h⟩ := h; exact ⟨v, rfl, h.lt⟩
  keep h hk hb := by obtain ⟨v, rfl, h⟩ := h; exact ⟨v, rfl, h.keep hk hb⟩
def OwD (R : Rep α) (M : RM) (base el : Nat) (v : AV) (xs : List α) (S : Nat → Prop) : Prop :=
  ∃ cs, Own M base el R.size v cs xs.length ∧ RepL R M S cs xs
theorem OwD.nil {base el : Nat} : OwD R M base el nilS [] S := ⟨[], .nil, .nil⟩
theorem OwD.mono {base el : Nat} (h : OwD R M base el v xs S) (hs : ∀ b, S b → S' b) : OwD R M base el v xs S' := let ⟨cs, h1, h2⟩ := h; ⟨cs, h1, h2.mono hs⟩
theorem OwD.lt {base el : Nat} (h : OwD R M base el v xs S) : OwD R M base el v xs (fun b => S b ∧ b < M.next) := let ⟨cs, h1, h2⟩ := h; ⟨cs, h1, h2.lt⟩
theorem OwD.keep {base el : Nat} {bs : List Nat} (h : OwD R M base el v xs S) (hk : Keep bs M M') (hb : ∀ b ∈ bs, ¬ S b) (hv : ∀ b ∈ blkOf v, b ∉ bs) : OwD R M' base el v xs S :=
  let ⟨cs, h1, h2⟩ := h; ⟨cs, h1.keep hk hv, h2.keep hk hb⟩
theorem OwD.len {base el : Nat} (h : OwD R M base el v xs S) {K : AV → Prop} : lenW v K = K (N .i64 xs.length) := let ⟨cs, h1, _⟩ := h; h1.slR.len
theorem OwD.blk {base el : Nat} (h : OwD R M base el v xs S) : ∀ b ∈ blkOf v, base ≤ b ∧ b < M.next := let ⟨cs, h1, _⟩ := h; h1.blk
theorem OwD.slD {base el : Nat} (h : OwD R M base el v xs S) (hs : ∀ b, base ≤ b → b < M.next → S b) : SlD R M v xs S :=
  let ⟨cs, h1, h2⟩ := h; ⟨cs, h1.slR, fun b hb => hs b (h1.blk b hb).1 (h1.blk b hb).2, h2⟩
theorem OwD.cells {base el : Nat} (h : OwD R M base el v xs S) : v.cells = [v] := let ⟨cs, h1, _⟩ := h; h1.cells
theorem OwD.one {base el : Nat} (h : OwD R M base el v xs S) : oneCell v = true := let ⟨cs, h1, _⟩ := h; h1.one
theorem OwD.app {base T bytes : Nat} {zs : List AV} {K : PostV} (ho : OwD R M base T v xs S) (ha : R.rel M cs a S) (hb : base ≤ M.next) (hs : 1 ≤ R.size)
    (hd : ∀ b ∈ blkOf v, ¬ S b) (hS : ∀ b, S b → b < M.next)
    (hn : (xs.length + 1) * bytes ≤ 140737488355328) (hn2 : xs.length + 1 ≤ 140737488355328)
    (hK : ∀ v' M', OwD R M' base T v' (xs ++ [a]) S → Keep (blkOf v) M M' → M.next ≤ M'.next → (v' = v ∨ ∀ b ∈ blkOf v', M.next ≤ b) → (∀ b ∈ blkOf v', ¬ S b) → K v' M') :
    appW T R.size bytes zs false v (.slc M.next 0 1 (.ex 1)) (M.push (.row cs false T 0)) K := by
  obtain ⟨ds, h1, h2⟩ := ho
  have hk : Keep [] M (M.push (.row cs false T 0)) := (Keep.refl _ _).push _
  have hl := R.len ha
  have hnl : newL (M.push (.row cs false T 0)) R.size zs false (.slc M.next 0 1 (.ex 1)) = some (1, cs) := by
    simp only [newL, Nat.one_mul]
    rw [RM.loads_row (RM.push_new _) (by omega), List.drop_zero, ← hl, List.take_length]
  refine app_own (h1.keep hk (by simp)) (Nat.le_trans hb hk.next) hs hnl (by rw [hl, Nat.one_mul]) (R.one ha) hn hn2 ?_
  intro v' M' q1 q2 q3 q4
  have kk : Keep (blkOf v) M M' := (hk.mono (by simp)).trans q2
  refine hK v' M' ⟨_, by simpa using q1, ?_⟩ kk (Nat.le_trans hk.next q3) (q4.imp id fun h b hb => Nat.le_trans hk.next (h b hb)) ?_
  · exact (h2.keep kk hd).append (RepL.single (R.keep ha kk hd))
  · rcases q4 with rfl | q4
    · exact hd
    · intro b hb hSb
      have := q4 b hb
      have := hS b hSb
      simp only [RM.push] at *
      omega
end
end Go.Ab
set_option linter.unusedVariables false
set_option linter.unusedSimpArgs false
namespace Go.Ab
open Go Go.RowKit
section
variable {M M' : RM} {b i n e f : Nat} {l : List AV} {p : Bool} {x : AV}
theorem load1_at {K : AV → Prop} (h : M.heap b = some (.row l p e f)) (hx : l[i]? = some x) : load1 M (.ptr b i) K = K x := by
  rw [load1_ptr, RM.cell_of h, hx]; simp
theorem loadN_at {K : AV → Prop} (h : M.heap b = some (.row l p e f)) (hn : l.length = n) : loadN M (.ptr b 0) n K = K (.agg l) := by
  rw [loadN_ptr, RM.loads_of h]
  have : loadsL (some l) 0 n = some l := by simp [loadsL, ← hn]
  rw [this]; simp
theorem storeW_at {K : RM → Prop} (h : M.heap b = some (.row l p e 0)) (hi : i < l.length) (hc : x.cells = [x]) (h1 : oneCell x = true) : storeW M (.ptr b i) x 1 K = K (M.put b (.row (l.set i x) p e 0)) := by
  rw [storeW_ptr, hc, RM.stores_of h, storesL_some (by simp only [List.length_cons, List.length_nil]; omega) (Nat.zero_le _) (by simp [h1])]
  have : l.take i ++ [x] ++ l.drop (i + 1) = l.set i x := by
    rw [List.set_eq_take_append_cons_drop, if_pos hi]; simp
  simp [this]
theorem storeW_to {K : RM → Prop} (l' : List AV) (h : M.heap b = some (.row l p e 0)) (hi : i < l.length) (hc : x.cells = [x]) (h1 : oneCell x = true) (hl : l.set i x = l') : storeW M (.ptr b i) x 1 K = K (M.put b (.row l' p e 0)) := by
  rw [storeW_at h hi hc h1, hl]
theorem fld0 {K : AV → Prop} : fldW (.ptr b 0) n K = K (.ptr b n) := by rw [fldW_ptr, Nat.zero_add]
theorem storeW_all {K : RM → Prop} (h : M.heap b = some (.row l p e 0)) (hn : x.cells.length = n) (hl : l.length = n) (h1 : x.cells.all oneCell = true) : storeW M (.ptr b 0) x n K = K (M.put b (.row x.cells p e 0)) := by
  rw [storeW_ptr, RM.stores_of h, storesL_whole (by rw [hn, hl]) h1]
  simp [hn]
theorem heap_put_ne {c : Nat} {y z : RB} (h : M.heap b = some y) (hb : b ≠ c) : (M.put c z).heap b = some y := by
  simp only [RM.put]; rw [if_neg hb]; exact h
theorem heap_put_eq (y : RB) : (M.put b y).heap b = some y := RM.put_same _ _
theorem heap_push_lt {y z : RB} (h : M.heap b = some y) (hb : b < M.next) : (M.push z).heap b = some y := by
  simp only [RM.push]; rw [if_neg (by omega)]; exact h
theorem next_push (y : RB) : (M.push y).next = M.next + 1 := rfl
theorem next_put (c : Nat) (y : RB) : (M.put c y).next = M.next := rfl
theorem Keep.new {bs : List Nat} (h : Keep bs M M') {b : Nat} (y : RB) (hb : M.next ≤ b) : Keep bs M (M'.put b y) := h.put y (.inl hb)
end
variable {M : RM}
theorem extW0 {a : AV} {l : List AV} {K : AV → Prop} : extW (.tup (a :: l)) 0 K = K a := by rw [extW_tup]; simp
theorem extW1 {a b : AV} {l : List AV} {K : AV → Prop} : extW (.tup (a :: b :: l)) 1 K = K b := by rw [extW_tup]; simp
theorem condT {p q : Prop} : condW (Bo true) p q = p := by simp [condW_Bo]
theorem condF {p q : Prop} : condW (Bo false) p q = q := by simp [condW_Bo]
theorem condB {b : Bool} {p q : Prop} (h1 : b = true → p) (h2 : b = false → q) : condW (Bo b) p q := ⟨h1, h2⟩
theorem guardM_TT {f g : PostV → Prop} {k : PostV} : guardM (Bo true) true f g k = f k := rfl
theorem guardM_FF {f g : PostV → Prop} {k : PostV} : guardM (Bo false) false f g k = f k := rfl
theorem guardM_TF {f g : PostV → Prop} {k : PostV} : guardM (Bo true) false f g k = g k := rfl
theorem guardM_FT {f g : PostV → Prop} {k : PostV} : guardM (Bo false) true f g k = g k := rfl
theorem guardK_TT {f g : KR → Prop} {k : KR} : guardK (Bo true) true f g k = f k := rfl
theorem guardK_FF {f g : KR → Prop} {k : KR} : guardK (Bo false) false f g k = f k := rfl
theorem guardK_TF {f g : KR → Prop} {k : KR} : guardK (Bo true) false f g k = g k := rfl
theorem guardK_FT {f g : KR → Prop} {k : KR} : guardK (Bo false) true f g k = g k := rfl
theorem guardM_U {w : Bool} {f g : PostV → Prop} {k : PostV} : guardM .undef w f g k = g k := rfl
theorem guardK_U {w : Bool} {f g : KR → Prop} {k : KR} : guardK .undef w f g k = g k := rfl
theorem pickT {a b : AV} {K : AV → Prop} : pickW (Bo true) a b K = K a := by rw [pickW_Bo]; rfl
theorem pickF {a b : AV} {K : AV → Prop} : pickW (Bo false) a b K = K b := by rw [pickW_Bo]; rfl
theorem SlR.known {size : Nat} {v : AV} {cs : List AV} {n : Nat} (h : SlR M size v cs n) : known v = true := by
  cases h <;> rfl
theorem boxW_agg {t : TypeId} {cs : List AV} {K : RB → (Nat → AV) → Prop} (h1 : cs.all oneCell = true) (h2 : 1 ≤ cs.length) : boxW t (.agg cs) K = K (.row cs false t 0) (fun b => .ptr b 0) := by
  unfold boxW
  exact propext ⟨fun h => h.2.2, fun h => ⟨h1, h2, h⟩⟩
theorem build2 {x y a b : AV} (h1 : known x = true) (h2 : x.cells = [x]) (h3 : known y = true) (h4 : y.cells = [y]) : fillL [a, b] [(0, 1, x), (1, 1, y)] = some [x, y] := by
  simp [fillL, h1, h2, h3, h4]
def Rep.pre {α β : Type} (E : Enc α) (R : Rep β) : Rep (α × β) where
  size := E.size + R.size
  rel M cs a S := ∃ ds, cs = E.cells a.1 ++ ds ∧ R.rel M ds a.2 S
  len h := by obtain ⟨ds, rfl, h⟩ := h; rw [List.length_append, E.len, R.len h]
  one h := by obtain ⟨ds, rfl, h⟩ := h; rw [List.all_append, E.one, R.one h]; rfl
  mono h hs := by obtain ⟨ds, rfl, h⟩ := h; exact ⟨ds, rfl, R.mono h hs⟩
  lt h := by obtain ⟨ds, rfl, h⟩ := h; exact ⟨ds, rfl, R.lt h⟩
  keep h hk hb := by obtain ⟨ds, rfl, h⟩ := h; exact ⟨ds, rfl, R.keep h hk hb⟩
def Rep.post {α β : Type} (R : Rep α) (E : Enc β) : Rep (α × β) where
  size := R.size + E.size
  rel M cs a S := ∃ ds, cs = ds ++ E.cells a.2 ∧ R.rel M ds a.1 S
  len h := by obtain ⟨ds, rfl, h⟩ := h; rw [List.length_append, E.len, R.len h]
  one h := by obtain ⟨ds, rfl, h⟩ := h; rw [List.all_append, E.one, R.one h]; rfl
  mono h hs := by obtain ⟨ds, rfl, h⟩ := h; exact ⟨ds, rfl, R.mono h hs⟩
  lt h := by obtain ⟨ds, rfl, h⟩ := h; exact ⟨ds, rfl, R.lt h⟩
  keep h hk hb := by obtain ⟨ds, rfl, h⟩ := h; exact ⟨ds, rfl, R.keep h hk hb⟩
def Rep.map {α β : Type} (R : Rep α) (g : β → α) : Rep β where
  size := R.size
  rel M cs a S := R.rel M cs (g a) S
  len h := R.len h
  one h := R.one h
  mono h hs := R.mono h hs
  lt h := R.lt h
  keep h hk hb := R.keep h hk hb
end Go.Ab
set_option maxRecDepth 10000
set_option linter.unusedVariables false
set_option linter.unusedSimpArgs false
namespace Go.Ab.Dot
open Go Go.Ab
def LessC (c : CallT) : Prop := ∀ {M : RM} {x y : Nat} {Q : PostV}, Q (Bo (decide (x < y))) M → c [N .u64 (x : Int), N .u64 (y : Int)] M Q
theorem isNaN_spec {M : RM} {x : Nat} {Q : PostV} (h : Q (Bo false) M) : W_isNaN_uint64 (N .u64 (x : Int)) M Q := by
  unfold W_isNaN_uint64
  rw [intW_neq, bne_self_eq_false]; exact h
theorem isNaN2_spec {M : RM} {x : Nat} {Q : PostV} (h : Q (Bo false) M) : W_isNaN_uint64_2 (N .u64 (x : Int)) M Q := by
  unfold W_isNaN_uint64_2
  rw [intW_neq, bne_self_eq_false]; exact h
def NaNC (c : CallT) : Prop := ∀ {M : RM} {x : Nat} {Q : PostV}, Q (Bo false) M → c [N .u64 (x : Int)] M Q
theorem less_spec {cn : CallT} (hn : NaNC cn) : LessC fun args M Q => ∃ a0 a1, args = [a0, a1] ∧ W_Less_uint64 cn a0 a1 M Q := by
  intro M x y Q hQ
  refine ⟨_, _, rfl, ?_⟩
  unfold W_Less_uint64
  simp only [fuseM]
  refine hn ?_
  rw [guardM_FT]
  dsimp only
  rw [pickF, guardM_FF, intW_lss]
  dsimp only
  rw [pickF, show decide ((x : Int) < (y : Int)) = decide (x < y) by simp]
  exact hQ
def Asc (xs : List Nat) : Prop := xs.Pairwise (· < ·)
def below (n : Nat) (xs : List Nat) : Nat := (xs.takeWhile (fun x => decide (x < n))).length
theorem below_le (n : Nat) (xs : List Nat) : below n xs ≤ xs.length := by
  unfold below
  induction xs with
  | nil => simp
  | cons x xs ih =>
    rw [List.takeWhile_cons]
    split <;> simp <;> omega
theorem Asc.lt {xs : List Nat} (h : Asc xs) {i j : Nat} (hij : i < j) (hj : j < xs.length) : xs[i]'(by omega) < xs[j] := List.pairwise_iff_getElem.1 h i j (by omega) hj hij
theorem below_char {n : Nat} : ∀ {xs : List Nat} {i : Nat}, i ≤ xs.length → (∀ k (hk : k < xs.length), k < i → xs[k] < n) → (∀ (hi : i < xs.length), n ≤ xs[i]) → below n xs = i
  | [], i, h, _, _ => by simp at h; subst h; rfl
  | x :: xs, 0, _, _, h2 => by
    have := h2 (by simp)
    simp at this
    unfold below
    rw [List.takeWhile_cons, if_neg (by simp; omega)]; rfl
  | x :: xs, i + 1, h, h1, h2 => by
    have hx := h1 0 (by simp) (by omega)
    have := below_char (n := n) (xs := xs) (i := i) (by simpa using h) (fun k hk hki => by have := h1 (k + 1) (by simp; omega) (by omega); simpa using this) (fun hi => by have := h2 (by simp; omega); simpa using this)
    unfold below at *
    rw [List.takeWhile_cons, if_pos (by simpa using hx), List.length_cons, this]
theorem below_mem {n : Nat} {xs : List Nat} (ha : Asc xs) : (n ∈ xs ↔ ∃ h : below n xs < xs.length, xs[below n xs] = n) := by
  constructor
  · intro hm
    obtain ⟨i, hi, he⟩ := List.getElem_of_mem hm
    have hb : below n xs = i := below_char (by omega) (fun k hk hki => by have := ha.lt hki hi; omega) (fun _ => by omega)
    exact ⟨by omega, by simp only [hb]; exact he⟩
  · rintro ⟨h, he⟩
    rw [← he]; exact List.getElem_mem h
theorem below_lt {n : Nat} : ∀ {xs : List Nat} {k : Nat} (hk : k < xs.length), k < below n xs → xs[k] < n
  | x :: xs, k, hk, h => by
    unfold below at h
    rw [List.takeWhile_cons] at h
    split at h
    · rename_i hx
      cases k with
      | zero => simpa using hx
      | succ k => exact below_lt (xs := xs) (k := k) (by simpa using hk) (by unfold below; simpa using h)
    · simp at h
theorem below_ge {n : Nat} : ∀ {xs : List Nat} (h : below n xs < xs.length), n ≤ xs[below n xs]
  | x :: xs, h => by
    unfold below at *
    rw [List.takeWhile_cons] at h
    simp only [List.takeWhile_cons]
    by_cases hx : x < n
    · simp only [hx, decide_true, if_true, List.length_cons] at h ⊢
      exact below_ge (xs := xs) (by unfold below; omega)
    · simp only [hx, decide_false, Bool.false_eq_true, if_false, List.length_nil, List.getElem_cons_zero]
      omega
def SearchC (c : CallT) : Prop := ∀ {M : RM} {v : AV} {xs : List Nat} {n : Nat} {Q : PostV}, Sl U64 M v xs → xs.length ≤ 1000000 → Asc xs → Q (.tup [N .i64 ((below n xs : Nat) : Int), Bo (decide (n ∈ xs))]) M → c [v, N .u64 (n : Int)] M Q
theorem half (i j : Nat) (h : i + j < 9223372036854775808) : N .i64 (IntKind.i64.wrap (shrI .u64 (IntKind.u64.wrap (IntKind.i64.wrap ((i : Int) + (j : Int)))) 1)) = N .i64 (((i + j) / 2 : Nat) : Int) := by
  rw [show IntKind.i64.wrap ((i : Int) + (j : Int)) = ((i + j : Nat) : Int) by rw [wrap_i64_id (by omega) (by omega)]; rfl]
  rw [show IntKind.u64.wrap (((i + j : Nat) : Int)) = ((i + j : Nat) : Int) by unfold IntKind.wrap; simp [IntKind.bits, IntKind.signed]; omega]
  rw [show (1 : Int) = ((1 : Nat) : Int) from rfl, shrI_nat _ _ _ (by decide)]
  rw [show ((i + j : Nat) / 2 ^ 1) = (i + j) / 2 by simp]
  rw [wrap_i64_id (by omega) (by omega)]
theorem search_spec {cl cn : CallT} (hl : LessC cl) (hn : NaNC cn) : SearchC fun args M Q => ∃ a0 a1, args = [a0, a1] ∧ W_BinarySearch_uint64 cl cn a0 a1 M Q := by
  intro M v xs n Q hv hxl ha hQ
  refine ⟨_, _, rfl, ?_⟩
  unfold W_BinarySearch_uint64
  simp only [fuseM]
  rw [SlR.len hv]
  refine loopW_ind (fun m ys M3 => M3 = M ∧ ∃ i j : Nat, m = j - i ∧ ys = [N .i64 (i : Int), N .i64 (j : Int)] ∧ i ≤ j ∧ j ≤ xs.length ∧ (∀ k (hk : k < xs.length), k < i → xs[k] < n) ∧ (∀ k (hk : k < xs.length), j ≤ k → n ≤ xs[k])) _
    ⟨rfl, 0, xs.length, rfl, rfl, Nat.zero_le _, Nat.le_refl _, by omega, by omega⟩ ?_
  rintro next m ys M3 hnext ⟨rfl, i, j, rfl, rfl, hij, hj, h1, h2⟩
  dsimp only [nthD]
  rw [intW_lss]
  refine condB (fun hlt => ?_) (fun hge => ?_)
  · have hlt : i < j := by simpa using hlt
    have hh : (i + j) / 2 < j := by omega
    have hh2 : i ≤ (i + j) / 2 := by omega
    rw [intW_add, cvtW_N, shW_shr]
    refine ⟨by omega, ?_⟩
    rw [cvtW_N, half i j (by omega)]
    have hm : (i + j) / 2 < xs.length := by omega
    obtain ⟨b, o, _, _, hidx, hc⟩ := Sl.at1 (E := U64) hv (((i + j) / 2 : Nat) : Int) hm
    have hc := hc _ rfl
    rw [hidx, load1_ptr]
    refine ⟨_, hc, ?_⟩
    refine hl ?_
    refine condB (fun h => ?_) (fun h => ?_)
    · have h : xs[(i + j) / 2] < n := by simpa using h
      rw [intW_add, i64_succ (by omega)]
      refine hnext _ _ _ (by omega) ⟨rfl, (i + j) / 2 + 1, j, rfl, rfl, by omega, hj, fun k hk hki => ?_, h2⟩
      rcases Nat.lt_or_ge k ((i + j) / 2) with h3 | h3
      · have := ha.lt h3 hm; omega
      · have : k = (i + j) / 2 := by omega
        subst this; exact h
    · have h : n ≤ xs[(i + j) / 2] := by simp at h; omega
      refine hnext _ _ _ (by omega) ⟨rfl, i, (i + j) / 2, rfl, rfl, by omega, by omega, h1, fun k hk hki => ?_⟩
      rcases Nat.lt_or_ge ((i + j) / 2) k with h3 | h3
      · have := ha.lt h3 hk; omega
      · have : k = (i + j) / 2 := by omega
        subst this; exact h
  · have hij : i = j := by simp at hge; omega
    subst hij
    have hb : below n xs = i := below_char hj h1 (fun hi => h2 i hi (Nat.le_refl _))
    rw [hb] at hQ
    rw [intW_lss]
    by_cases hi : i < xs.length
    · obtain ⟨b, o, _, _, hidx, hc⟩ := Sl.at1 (E := U64) hv (i : Int) hi
      have hc := hc _ rfl
      have hm : decide (n ∈ xs) = (xs[i] == n) := by
        have := below_mem (n := n) ha
        simp only [hb] at this
        by_cases h : xs[i] = n
        · rw [decide_eq_true (this.2 ⟨hi, h⟩)]; simp [h]
        · rw [decide_eq_false (fun hm => h (this.1 hm).2)]; simp [h]
      rw [hm] at hQ
      rw [show decide ((i : Int) < (xs.length : Int)) = true by simpa using hi, guardM_TT, hidx, load1_ptr]
      refine ⟨_, hc, ?_⟩
      rw [intW_eql, show (((xs[i] : Nat) : Int) == (n : Int)) = (xs[i] == n) by
        by_cases h : xs[i] = n
        · simp [h]
        · have : ((xs[i] : Int) == (n : Int)) = false := by simp; omega
          rw [this]; simp [h]]
      dsimp only
      cases he : xs[i] == n with
      | true =>
        rw [he] at hQ
        simp only [guardM_U, guardM_TT, guardM_TF, guardM_FT, guardM_FF, pickT, pickF]
        exact hQ
      | false =>
        rw [he] at hQ
        rw [guardM_FF, hidx, load1_ptr]
        refine ⟨_, hc, ?_⟩
        refine hn ?_
        simp only [guardM_U, guardM_TT, guardM_TF, guardM_FT, guardM_FF, pickT, pickF]
        exact hQ
    · have hm : decide (n ∈ xs) = false := by
        refine decide_eq_false fun h => ?_
        have := (below_mem (n := n) ha).1 h
        simp only [hb] at this
        exact hi this.1
      rw [hm] at hQ
      rw [show decide ((i : Int) < (xs.length : Int)) = false by simp; omega]
      simp only [guardM_U, guardM_TT, guardM_TF, guardM_FT, guardM_FF, pickT, pickF]
      exact hQ
end Go.Ab.Dot
set_option maxRecDepth 10000
set_option linter.unusedVariables false
set_option linter.unusedSimpArgs false
namespace Go.Ab.Dot
open Go Go.Ab
theorem copyW_rows {M : RM} {b bx o ox dn sn k e : Nat} {l vs : List AV} {p : Bool} {cap capx : Cap} {K : PostV} (hd : M.heap b = some (.row l p e 0)) (hk : Nat.min sn dn = k) (hk0 : k ≠ 0) (hl : M.loads bx ox k = some vs) (ho : o + k ≤ l.length) (hall : vs.all oneCell = true) :
    copyW 1 (.slc b o dn cap) (.slc bx ox sn capx) M K = K (N .i64 (k : Int)) (M.put b (.row (l.take o ++ vs ++ l.drop (o + k)) p e 0)) := by
  have hvs := loads_len hl
  have hst : M.stores b o vs = some (M.put b (.row (l.take o ++ vs ++ l.drop (o + k)) p e 0)) := by
    rw [RM.stores_of hd, storesL_some (by omega) (Nat.zero_le _) hall, hvs]; rfl
  have : copyM 1 (.slc b o dn cap) (.slc bx ox sn capx) M = some (N .i64 (k : Int), M.put b (.row (l.take o ++ vs ++ l.drop (o + k)) p e 0)) := by
    unfold copyM
    simp only [lenA, hk, if_neg hk0, firstM, Nat.mul_one, hl, hst]
  unfold copyW
  rw [this]
  apply propext
  constructor
  · rintro ⟨v, M', h, hK⟩; cases h; exact hK
  · intro hK; exact ⟨_, _, rfl, hK⟩
theorem subS_from_ex {size b o n c at' : Nat} (h : at' ≤ n) (hc : n ≤ c) (hne : at' ≠ c) : subS size (.slc b o n (.ex c)) (some (N .i64 (at' : Int))) none none = some (.slc b (o + at' * size) (n - at') (.ex (c - at'))) := by
  simp only [subS, bnd]
  simp [h, hc, Ne.symm hne]
theorem subS_to_ex {size b o n c at' : Nat} (h : at' ≤ c) (hc : c ≠ 0) : subS size (.slc b o n (.ex c)) none (some (N .i64 (at' : Int))) none = some (.slc b o at' (.ex c)) := by
  simp only [subS, bnd]
  simp [h, hc]
theorem subS_from_op {size b o n at' : Nat} (h : at' < n) : subS size (.slc b o n (.op size)) (some (N .i64 (at' : Int))) none none = some (.slc b (o + at' * size) (n - at') (.op size)) := by
  simp only [subS, bnd]
  simp [Nat.le_of_lt h]
  omega
theorem list3 {A B D : List AV} {X : AV} {k m : Nat} (hA : A.length = k) (hB : B.length = m) : (A ++ X :: B).take (k + 1) ++ D ++ (A ++ X :: B).drop (k + 1 + m) = A ++ X :: D := by
  subst hA; subst hB
  have e : A ++ X :: B = (A ++ [X]) ++ B := by simp
  rw [e, List.take_left' (by simp), List.drop_of_length_le (by simp; omega)]
  simp
def capOk : AV → Prop
  | .slc _ _ n (.ex c) => n ≤ c
  | .slc _ _ _ (.op e) => e = 1
  | _ => True
def insL (k x : Nat) (xs : List Nat) : List Nat := xs.take k ++ x :: xs.drop k
theorem insL_len {k x : Nat} {xs : List Nat} (h : k ≤ xs.length) : (insL k x xs).length = xs.length + 1 := by
  simp [insL]; omega
def OverC (c : CallT) : Prop := ∀ {M : RM} {ba oa na bb ob nb ea eb : Nat} {ca cb : Cap} {la lb : List AV} {opb : Bool} {Q : PostV}, ba ≠ bb → M.heap ba = some (.row la false ea 0) → M.heap bb = some (.row lb opb eb 0) → oa + 1 ≤ la.length → 1 ≤ lb.length → Q (Bo false) M → c [.slc ba oa na ca, .slc bb ob nb cb] M Q
theorem i64_succ1 {i : Nat} (h : i < 9223372036854775807) : IntKind.wrap .i64 ((i : Int) + ((1 : Nat) : Int)) = ((i + 1 : Nat) : Int) := i64_succ h
theorem repL_one (k : Nat) : (repL [N .u64 0] k).length = k ∧ (repL [N .u64 0] k).all oneCell = true := by
  induction k with
  | zero => exact ⟨rfl, rfl⟩
  | succ k ih => exact ⟨by simp [repL, ih.1], by simp [repL, ih.2, one_sc]⟩
theorem insert_ex {M : RM} {b bx T n c k x ex : Nat} {xs : List Nat} {co cr : CallT} {Q : PostV} (hov : OverC co) (hn : n = xs.length) (hnl : n ≤ 1000000) (hc : n ≤ c) (hk : k < n)
    (hb : M.heap b = some (.row (U64.row xs ++ List.replicate (c - n) .top) true T 0)) (hbl : b < M.next) (hx : M.heap bx = some (.row [N .u64 (x : Int)] false ex 0)) (hxl : bx < M.next) (hne : bx ≠ b)
    (hQ : ∀ v' M', Sl U64 M' v' (insL k x xs) → capOk v' → (∀ c ∈ blkOf v', c = b ∨ M.next ≤ c) → Keep [b] M M' → Q v' M') : W_Insert_uint64 T co cr (.slc b 0 n (.ex c)) (N .i64 (k : Int)) (.slc bx 0 1 (.ex 1)) M Q := by
  have hrow : (U64.row xs).length = n := by rw [Enc.row_len, hn]; simp [U64]
  have hlenb : (U64.row xs ++ List.replicate (c - n) AV.top).length = c := by simp [hrow]; omega
  unfold W_Insert_uint64
  rw [subS_from_ex (by omega) hc (by omega), getW_some, lenW_slc, intW_eql, show ((((1 : Nat) : Int)) == 0) = false from rfl, condF, lenW_slc, intW_eql,
    show (((k : Int)) == (n : Int)) = false by simp; omega, condF, intW_add, i64_succ1 (by omega), capW_ex, intW_gtr]
  have hxo : M.loads bx 0 1 = some [N .u64 (x : Int)] := by rw [RM.loads_row hx (by simp)]; rfl
  have hold : M.loads b k (n - k) = some ((U64.row xs).drop k) := by
    rw [RM.loads_row hb (by omega), List.drop_append_of_le_length (by omega), List.take_append_of_le_length (by simp [hrow]), List.take_of_length_le (by simp [hrow])]
  have hall := U64.row_all xs
  have hins : U64.row (insL k x xs) = (U64.row xs).take k ++ N .u64 (x : Int) :: (U64.row xs).drop k := by
    have h1 := U64.row_take xs k
    have h2 := U64.row_drop xs k
    simp only [show U64.size = 1 from rfl, Nat.mul_one] at h1 h2
    rw [h1, h2, insL, Enc.row_append, Enc.row_cons]; rfl
  have hinl : (insL k x xs).length = n + 1 := by rw [insL_len (by omega), hn]
  have htl : ((U64.row xs).take k).length = k := by simp [hrow]; omega
  have hdl : ((U64.row xs).drop k).length = n - k := by simp [hrow]
  refine condB (fun hg => ?_) (fun hg => ?_)
  · have hcn : c = n := by simp at hg; omega
    subst hcn
    rw [Nat.sub_self, List.replicate_zero, List.append_nil] at hb
    rw [subS_to_ex (by omega) (by omega), getW_some, intW_add, i64_succ1 (by omega), intW_sub,
      show IntKind.wrap .i64 (((c + 1 : Nat) : Int) - (k : Int)) = ((c + 1 - k : Nat) : Int) by rw [wrap_i64_id (by omega) (by omega)]; omega]
    have hr0 := repL_one (c + 1 - k)
    refine ⟨c + 1 - k, repL [N .u64 0] (c + 1 - k), by simp [newL], by omega, by omega, .slc M.next 0 (c + 1) (.op 1), M.push (.row ((U64.row xs).take k ++ repL [N .u64 0] (c + 1 - k)) true T 0), ?_, ?_⟩
    · have hl0 : M.loads b 0 (k * 1) = some ((U64.row xs).take k) := by rw [RM.loads_row hb (by omega)]; simp
      simp only [appM, if_neg (show ¬ c + 1 - k = 0 by omega), if_neg (show ¬ k + (c + 1 - k) ≤ c by omega), hl0]
      have h1 : (((U64.row xs).take k) ++ repL [N .u64 0] (c + 1 - k)).all oneCell = true := by
        rw [List.all_append, hr0.2, Bool.and_true, List.all_eq_true]
        exact fun y hy => List.all_eq_true.1 hall y (List.mem_of_mem_take hy)
      rw [if_pos ⟨by omega, by omega, h1⟩, show k + (c + 1 - k) = c + 1 by omega]
    · have hnew : (M.push (.row ((U64.row xs).take k ++ repL [N .u64 0] (c + 1 - k)) true T 0)).heap M.next = some (.row ((U64.row xs).take k ++ repL [N .u64 0] (c + 1 - k)) true T 0) := RM.push_new _
      have kp : Keep [] M (M.push (.row ((U64.row xs).take k ++ repL [N .u64 0] (c + 1 - k)) true T 0)) := (Keep.refl _ _).push _
      have hb1 := kp.heap_of hb hbl (by simp)
      have hx1 := kp.loads hxl (by simp) (o := 0) (k := 1)
      rw [hxo] at hx1
      have hn1 : (M.push (.row ((U64.row xs).take k ++ repL [N .u64 0] (c + 1 - k)) true T 0)).next = M.next + 1 := rfl
      generalize M.push (.row ((U64.row xs).take k ++ repL [N .u64 0] (c + 1 - k)) true T 0) = M1 at *
      have hnl1 : ((U64.row xs).take k ++ repL [N .u64 0] (c + 1 - k)).length = c + 1 := by rw [List.length_append, htl, hr0.1]; omega
      dsimp only
      rw [subS_from_op (by omega), getW_some, copyW_rows (k := 1) hnew (by simp [Nat.min_def]; omega) (by omega) hx1 (by rw [hnl1]; omega) rfl, intW_add, i64_succ1 (by omega),
        subS_from_op (by omega), getW_some, getW_some]
      simp only [Nat.mul_one, Nat.zero_add]
      have hrowx : ((U64.row xs).take k ++ repL [N .u64 0] (c + 1 - k)).take k ++ [N .u64 (x : Int)] ++ ((U64.row xs).take k ++ repL [N .u64 0] (c + 1 - k)).drop (k + 1) = (U64.row xs).take k ++ N .u64 (x : Int) :: repL [N .u64 0] (c - k) := by
        rw [List.take_append_of_le_length (by omega), List.take_of_length_le (by omega), ← List.drop_drop, List.drop_left' htl, show c + 1 - k = (c - k) + 1 by omega, repL]
        simp
      rw [hrowx]
      have hnew2 : (M1.put M.next (.row ((U64.row xs).take k ++ N .u64 (x : Int) :: repL [N .u64 0] (c - k)) true T 0)).heap M.next = some (.row ((U64.row xs).take k ++ N .u64 (x : Int) :: repL [N .u64 0] (c - k)) true T 0) := heap_put_eq _
      have hb2 := heap_put_ne (z := .row ((U64.row xs).take k ++ N .u64 (x : Int) :: repL [N .u64 0] (c - k)) true T 0) hb1 (show b ≠ M.next by omega)
      have kp2 : Keep [] M (M1.put M.next (.row ((U64.row xs).take k ++ N .u64 (x : Int) :: repL [N .u64 0] (c - k)) true T 0)) := kp.new _ (Nat.le_refl _)
      have hn2 : (M1.put M.next (.row ((U64.row xs).take k ++ N .u64 (x : Int) :: repL [N .u64 0] (c - k)) true T 0)).next = M.next + 1 := hn1
      generalize M1.put M.next (.row ((U64.row xs).take k ++ N .u64 (x : Int) :: repL [N .u64 0] (c - k)) true T 0) = M2 at *
      have hr1 := repL_one (c - k)
      have hold2 : M2.loads b k (c - k) = some ((U64.row xs).drop k) := by
        rw [RM.loads_row hb2 (by omega), List.take_of_length_le (by simp [hrow])]
      have hnl2 : ((U64.row xs).take k ++ N .u64 (x : Int) :: repL [N .u64 0] (c - k)).length = c + 1 := by rw [List.length_append, htl, List.length_cons, hr1.1]; omega
      have hdall : ((U64.row xs).drop k).all oneCell = true := by
        rw [List.all_eq_true]; exact fun y hy => List.all_eq_true.1 hall y (List.mem_of_mem_drop hy)
      rw [copyW_rows (k := c - k) hnew2 (by simp [Nat.min_def]) (by omega) hold2 (by rw [hnl2]; omega) hdall]
      have hrow3 : ((U64.row xs).take k ++ N .u64 (x : Int) :: repL [N .u64 0] (c - k)).take (k + 1) ++ (U64.row xs).drop k ++ ((U64.row xs).take k ++ N .u64 (x : Int) :: repL [N .u64 0] (c - k)).drop (k + 1 + (c - k)) = U64.row (insL k x xs) := by
        rw [list3 htl hr1.1, hins]
      rw [hrow3]
      refine hQ _ _ ?_ rfl (fun d hd => .inr (by simp [blkOf] at hd; omega)) ((kp2.new _ (Nat.le_refl _)).mono (by simp))
      have : Rw U64 (M2.put M.next (.row (U64.row (insL k x xs)) true T 0)) M.next true T (insL k x xs) := ⟨heap_put_eq _, by rw [next_put]; omega⟩
      have h4 := this.sl (cap := .op 1)
      rw [hinl] at h4
      exact h4
  · have hcn : n + 1 ≤ c := by simp at hg; omega
    rw [intW_add, i64_succ1 (by omega), subS_to_ex (by omega) (by omega), getW_some, intW_add, i64_succ1 (by omega), subS_from_ex (by omega) (by omega) (by omega), getW_some]
    simp only [Nat.zero_add, Nat.mul_one]
    refine hov hne hx hb (by simp) (by rw [hlenb]; omega) ?_
    rw [notW_Bo, Bool.not_false, condT, intW_add, i64_succ1 (by omega), subS_from_ex (by omega) (by omega) (by omega), getW_some, subS_from_ex (by omega) (by omega) (by omega), getW_some]
    simp only [Nat.zero_add, Nat.mul_one]
    have hdall : ((U64.row xs).drop k).all oneCell = true := by
      rw [List.all_eq_true]; exact fun y hy => List.all_eq_true.1 hall y (List.mem_of_mem_drop hy)
    rw [copyW_rows (k := n - k) hb (by simp [Nat.min_def]; omega) (by omega) hold (by rw [hlenb]; omega) hdall]
    have hsplit : U64.row xs = (U64.row xs).take k ++ (U64.row xs).drop k := (List.take_append_drop _ _).symm
    obtain ⟨y, D, hD⟩ : ∃ y D, (U64.row xs).drop k = y :: D := by
      cases h : (U64.row xs).drop k with
      | nil => rw [h] at hdl; simp at hdl; omega
      | cons y D => exact ⟨y, D, rfl⟩
    obtain ⟨R, hR⟩ : ∃ R, List.replicate (c - n) AV.top = .top :: R ∧ R.length = c - n - 1 := ⟨List.replicate (c - n - 1) AV.top, by rw [show c - n = (c - n - 1) + 1 by omega, List.replicate_succ]; simp, by simp⟩
    generalize hA : (U64.row xs).take k = A at *
    have hDl : D.length + 1 = n - k := by rw [hD] at hdl; simpa using hdl
    have hrow1 : (U64.row xs ++ List.replicate (c - n) AV.top).take (k + 1) ++ (U64.row xs).drop k ++ (U64.row xs ++ List.replicate (c - n) AV.top).drop (k + 1 + (n - k)) = A ++ y :: (y :: D ++ R) := by
      have hX : U64.row xs = A ++ y :: D := by rw [hsplit, hD]
      rw [hD, hX, hR.1]
      have e1 : A ++ y :: D ++ AV.top :: R = (A ++ [y]) ++ (D ++ AV.top :: R) := by simp
      have e2 : A ++ y :: D ++ AV.top :: R = (A ++ y :: D ++ [AV.top]) ++ R := by simp
      have d1 : (A ++ y :: D ++ AV.top :: R).drop (k + 1 + (n - k)) = R := by rw [e2, List.drop_left' (by simp; omega)]
      have d2 : (A ++ y :: D ++ AV.top :: R).take (k + 1) = A ++ [y] := by rw [e1, List.take_left' (by simp [htl])]
      rw [d1, d2]
      simp
    rw [hrow1]
    have hb2 : (M.put b (.row (A ++ y :: (y :: D ++ R)) true T 0)).heap b = some (.row (A ++ y :: (y :: D ++ R)) true T 0) := heap_put_eq _
    have kp : Keep [b] M (M.put b (.row (A ++ y :: (y :: D ++ R)) true T 0)) := (Keep.refl _ _).put _ (.inr (by simp))
    have hx2 := kp.loads hxl (by simp [hne]) (o := 0) (k := 1)
    rw [hxo] at hx2
    have hn2 : (M.put b (.row (A ++ y :: (y :: D ++ R)) true T 0)).next = M.next := rfl
    generalize M.put b (.row (A ++ y :: (y :: D ++ R)) true T 0) = M2 at *
    have hl2 : (A ++ y :: (y :: D ++ R)).length = c := by simp [htl, hR.2]; omega
    rw [getW_some, copyW_rows (k := 1) hb2 (by simp [Nat.min_def]; omega) (by omega) hx2 (by rw [hl2]; omega) rfl]
    have hrow2 : (A ++ y :: (y :: D ++ R)).take k ++ [N .u64 (x : Int)] ++ (A ++ y :: (y :: D ++ R)).drop (k + 1) = U64.row (insL k x xs) ++ R := by
      rw [hins, hD, List.take_left' htl, show (A ++ y :: (y :: D ++ R)).drop (k + 1) = y :: D ++ R by
        rw [show A ++ y :: (y :: D ++ R) = (A ++ [y]) ++ (y :: D ++ R) by simp, List.drop_left' (by simp [htl])]]
      simp
    rw [hrow2]
    refine hQ _ _ ?_ (show n + 1 ≤ c from hcn) (fun d hd => .inl (by simpa [blkOf] using hd)) (kp.put _ (.inr (by simp)))
    rw [← hinl]
    refine .slc _ _ _ _ _ (by rw [next_put, hn2]; exact hbl) ?_
    have hil : (U64.row (insL k x xs)).length = n + 1 := by rw [Enc.row_len, hinl]; simp [U64]
    show RM.loads _ b 0 ((insL k x xs).length * 1) = _
    rw [Nat.mul_one, hinl, RM.loads_row (heap_put_eq _) (by rw [List.length_append, hil]; omega), List.drop_zero, List.take_append_of_le_length (by omega), List.take_of_length_le (by omega)]
end Go.Ab.Dot
set_option maxRecDepth 10000
set_option linter.unusedVariables false
set_option linter.unusedSimpArgs false
namespace Go.Ab.Dot
open Go Go.Ab
theorem Own.capOk {M : RM} {n el n0 : Nat} {v : AV} {cs : List AV} (h : Own M n0 el 1 v cs n) : capOk v := by
  cases h with
  | nil => trivial
  | ex0 => exact Nat.le_refl _
  | op => rfl
theorem sub_from {M : RM} {v : AV} {xs : List Nat} {k : Nat} (h : Sl U64 M v xs) (hc : capOk v) (hk : k ≤ xs.length) :
    ∃ v', subS 1 v (some (N .i64 (k : Int))) none none = some v' ∧ Sl U64 M v' (xs.drop k) ∧ capOk v' ∧ ∀ b ∈ blkOf v', b ∈ blkOf v := by
  generalize hcs : U64.row xs = cs at *
  have h' : SlR M 1 v cs xs.length := by rw [← hcs]; exact h
  have hl : cs.length = xs.length := by rw [← hcs, Enc.row_len]; simp [U64]
  have hd : U64.row (xs.drop k) = cs.drop k := by rw [← hcs, ← U64.row_drop]; simp [U64]
  generalize hn : xs.length = n at *
  cases h' with
  | nil =>
    have : k = 0 := by omega
    subst this
    exact ⟨nilS, by simp [subS, bnd], by simp only [Sl]; rw [hd]; simp [hn]; exact .nil, trivial, by simp⟩
  | emp b =>
    have : k = 0 := by omega
    subst this
    exact ⟨.emp b, by simp [subS, bnd], by simp only [Sl]; rw [hd]; simp [hn]; exact .emp b, trivial, by simp⟩
  | slc b o n cap cs hb hload =>
    rw [Nat.mul_one] at hload
    have hpart : M.loads b (o + k) (n - k) = some (cs.drop k) := by
      have := loads_sub hload k (n - k) (by omega)
      rw [List.take_of_length_le (by simp; omega)] at this
      exact this
    cases cap with
    | ex c =>
      have hcn : n ≤ c := hc
      by_cases hck : c = k
      · have hkn : k = n := by omega
        refine ⟨.slc b o 0 (.ex 0), by simp only [subS, bnd]; simp [hk, hcn, hck]; omega, ?_, Nat.le_refl _, by simp [blkOf]⟩
        simp only [Sl]
        rw [hd, List.length_drop, hn, hkn, Nat.sub_self, List.drop_of_length_le (by omega)]
        refine .slc b o 0 _ _ hb ?_
        have := loads_sub hload 0 0 (by omega)
        simpa using this
      · refine ⟨.slc b (o + k * 1) (n - k) (.ex (c - k)), by simp only [subS, bnd]; simp [hk, hcn, hck], ?_, by simp only [capOk]; omega, by simp [blkOf]⟩
        simp only [Sl]
        rw [hd, List.length_drop, hn]
        refine .slc _ _ _ _ _ hb ?_
        show M.loads b (o + k * 1) ((n - k) * 1) = _
        rw [Nat.mul_one, Nat.mul_one]; exact hpart
    | op e =>
      have he : e = 1 := hc
      subst he
      by_cases hkn : n ≤ k
      · refine ⟨.emp b, by simp only [subS, bnd]; simp [hk, hkn], ?_, trivial, by simp [blkOf]⟩
        simp only [Sl]
        rw [hd, List.length_drop, hn, show n - k = 0 by omega, List.drop_of_length_le (by omega)]
        exact .emp b
      · refine ⟨.slc b (o + k * 1) (n - k) (.op 1), by simp only [subS, bnd]; simp [hk, hkn], ?_, rfl, by simp [blkOf]⟩
        simp only [Sl]
        rw [hd, List.length_drop, hn]
        refine .slc _ _ _ _ _ hb ?_
        show M.loads b (o + k * 1) ((n - k) * 1) = _
        rw [Nat.mul_one, Nat.mul_one]; exact hpart
def settleK : Nat → List Nat → Nat × Nat
  | u, [] => (u, 0)
  | u, x :: xs => if x ≤ u + 1 then ((settleK (max u x) xs).1, (settleK (max u x) xs).2 + 1) else (u, 0)
def settle (u : Nat) (xs : List Nat) : Nat × List Nat := ((settleK u xs).1, xs.drop (settleK u xs).2)
theorem settleK_step {u : Nat} {xs : List Nat} {i u' : Nat} (hi : i < xs.length) (h : settleK u xs = ((settleK u' (xs.drop i)).1, (settleK u' (xs.drop i)).2 + i)) (hle : xs[i] ≤ u' + 1) :
    settleK u xs = ((settleK (max u' xs[i]) (xs.drop (i + 1))).1, (settleK (max u' xs[i]) (xs.drop (i + 1))).2 + (i + 1)) := by
  rw [h, List.drop_eq_getElem_cons hi, settleK, if_pos hle]
  ext <;> simp; omega
theorem settleK_stop {u : Nat} {xs : List Nat} {i u' : Nat} (h : settleK u xs = ((settleK u' (xs.drop i)).1, (settleK u' (xs.drop i)).2 + i)) (hs : i = xs.length ∨ ∃ hi : i < xs.length, ¬ xs[i] ≤ u' + 1) : settleK u xs = (u', i) := by
  rw [h]
  rcases hs with hs | ⟨hi, hs⟩
  · rw [List.drop_of_length_le (by omega)]; simp [settleK]
  · rw [List.drop_eq_getElem_cons hi, settleK, if_neg hs]; simp
theorem max_wrap (a b : Nat) : (if (b : Int) > (a : Int) then (b : Int) else (a : Int)) = ((max a b : Nat) : Int) := by
  split <;> omega
theorem set_same {l : List AV} {o : Nat} {x : AV} (h : l[o]? = some x) : l.set o x = l := by
  apply List.ext_getElem?
  intro j
  rw [List.getElem?_set]
  split
  · rename_i e; subst e
    obtain ⟨h1, h2⟩ := List.getElem?_eq_some_iff.1 h
    simp [h1, h2]
  · rfl
def SettledC (c : CallT) : Prop := ∀ {M : RM} {b o T u : Nat} {l : List AV} {v : AV} {xs : List Nat} {Q : PostV}, M.heap b = some (.row l false T 0) → l[o]? = some (N .u64 (u : Int)) → l[o + 1]? = some v → Sl U64 M v xs → b ∉ blkOf v → capOk v →
  xs.length ≤ 1000000 → u ≤ 4398046511104 → (∀ x ∈ xs, x ≤ 4398046511104) →
  (∀ v' M', M'.heap b = some (.row ((l.set o (N .u64 (((settle u xs).1 : Nat) : Int))).set (o + 1) v') false T 0) → Sl U64 M' v' (settle u xs).2 → capOk v' → (∀ d ∈ blkOf v', d ∈ blkOf v) → Keep [b] M M' → M'.next = M.next → Q (.tup []) M') → c [.ptr b o] M Q
theorem settled_spec : SettledC fun args M Q => ∃ a0, args = [a0] ∧ W_part_settled a0 M Q := by
  intro M b o T u l v xs Q hb ho hv hs hbv hcap hxl hu hx hQ
  refine ⟨_, rfl, ?_⟩
  unfold W_part_settled
  simp only [fuseK]
  have hol : o < l.length := (List.getElem?_eq_some_iff.1 ho).1
  have hol1 : o + 1 < l.length := (List.getElem?_eq_some_iff.1 hv).1
  refine loopW_ind (fun m ys M3 => ∃ (i u' : Nat), m = xs.length - i ∧ ys = [N .i64 (i : Int)] ∧ i ≤ xs.length ∧ u' ≤ 4398046511104 ∧ M3.heap b = some (.row (l.set o (N .u64 (u' : Int))) false T 0) ∧ Keep [b] M M3 ∧ M3.next = M.next ∧
      settleK u xs = ((settleK u' (xs.drop i)).1, (settleK u' (xs.drop i)).2 + i)) _
    ⟨0, u, rfl, rfl, Nat.zero_le _, hu, ?_, Keep.refl _ _, rfl, by simp⟩ ?_
  · rw [hb]
    rw [set_same ho]
  rintro next m ys M3 hnext ⟨i, u', rfl, rfl, hi, hu', h3, hK, hn3, hset⟩
  dsimp only [nthD]
  have g0 : (l.set o (N .u64 (u' : Int)))[o]? = some (N .u64 (u' : Int)) := by rw [List.getElem?_set_self hol]
  have g1 : (l.set o (N .u64 (u' : Int)))[o + 1]? = some v := by rw [List.getElem?_set_ne (by omega)]; exact hv
  have hs3 : Sl U64 M3 v xs := SlR.keep hs hK (fun d hd h => by simp at h; subst h; exact hbv hd)
  rw [ptrW_ptr, fldW_ptr, load1_at h3 g1, SlR.len hs3, intW_lss]
  have stop : (i = xs.length ∨ ∃ hi : i < xs.length, ¬ xs[i] ≤ u' + 1) → ptrW (.ptr b o) fun t44 => fldW t44 1 fun t45 => load1 M3 t45 fun t46 => getW (subS 1 t46 (some (N .i64 (i : Int))) none none) fun t48 => ptrW (.ptr b o) fun t49 => fldW t49 1 fun t50 => storeW M3 t50 t48 1 fun M_48 => Q (.tup []) M_48 := fun h => by
    have he := settleK_stop hset h
    rw [ptrW_ptr, fldW_ptr, load1_at h3 g1]
    obtain ⟨v', e1, e2, e3, e4⟩ := sub_from hs3 hcap hi
    rw [e1, getW_some, ptrW_ptr, fldW_ptr, storeW_at h3 (by simpa using hol1) (SlR.cells e2) (SlR.one e2)]
    have kk : Keep [b] M3 (M3.put b (.row ((l.set o (N .u64 (u' : Int))).set (o + 1) v') false T 0)) := (Keep.refl _ _).put _ (.inr (by simp))
    refine hQ v' _ ?_ ?_ e3 e4 (hK.trans kk) hn3
    · rw [heap_put_eq, settle, he]
    · rw [settle, he]
      exact SlR.keep e2 kk (fun d hd h => by simp at h; subst h; exact hbv (e4 _ hd))
  by_cases hlt : i < xs.length
  · have hxi := hx _ (List.getElem_mem hlt)
    obtain ⟨b1, o1, _, _, hidx, hc⟩ := Sl.at1 (E := U64) hs3 (i : Int) hlt
    have hc := hc _ rfl
    rw [show decide ((i : Int) < (xs.length : Int)) = true by simpa using hlt, guardK_TT, ptrW_ptr, fldW_ptr, load1_at h3 g1, hidx, load1_ptr]
    refine ⟨_, hc, ?_⟩
    rw [ptrW_ptr, fldW_ptr, Nat.add_zero, load1_at h3 g0, intW_add, intW_leq]
    rw [show IntKind.u64.wrap ((u' : Int) + 1) = ((u' + 1 : Nat) : Int) by unfold IntKind.wrap; simp [IntKind.bits, IntKind.signed]; omega]
    dsimp only
    rw [pickT]
    refine condB (fun h => ?_) (fun h => ?_)
    · have hle : xs[i] ≤ u' + 1 := by
        have h2 : ((xs[i] : Nat) : Int) ≤ ((u' + 1 : Nat) : Int) := of_decide_eq_true h
        omega
      rw [ptrW_ptr, fldW_ptr, Nat.add_zero, load1_at h3 g0, ptrW_ptr, fldW_ptr, load1_at h3 g1, hidx, load1_ptr]
      refine ⟨_, hc, ?_⟩
      rw [minW_N, if_pos rfl, max_wrap, ptrW_ptr, fldW_ptr, Nat.add_zero, storeW_to (l.set o (N .u64 ((max u' xs[i] : Nat) : Int))) h3 (by simpa using hol) rfl rfl (by rw [List.set_set]), intW_add, i64_succ (by omega)]
      exact hnext _ _ _ (by omega) ⟨i + 1, max u' xs[i], rfl, rfl, by omega, by omega, heap_put_eq _, hK.put _ (.inr (by simp)), hn3, settleK_step hlt hset hle⟩
    · have hle : ¬ xs[i] ≤ u' + 1 := by
        have h2 : ¬ ((xs[i] : Nat) : Int) ≤ ((u' + 1 : Nat) : Int) := of_decide_eq_false h
        omega
      exact stop (.inr ⟨hlt, hle⟩)
  · rw [show decide ((i : Int) < (xs.length : Int)) = false by simp; omega, guardK_FT]
    dsimp only
    rw [pickF, condF]
    exact stop (.inl (by omega))
abbrev Pt := Nat × List Nat
def addP (p : Pt) (n : Nat) : Bool × Pt :=
  if n ∈ p.2 ∨ n ≤ p.1 then (true, p)
  else if (settle p.1 (insL (below n p.2) n p.2)).2.length ≤ 4096 then (true, settle p.1 (insL (below n p.2) n p.2)) else (false, p)
def InsertC (T : Nat) (c : CallT) : Prop := ∀ {M : RM} {v : AV} {bx n0 k x ex : Nat} {xs : List Nat} {Q : PostV}, Ow U64 M n0 T v xs → n0 ≤ M.next → xs.length ≤ 100000 → k ≤ xs.length → M.heap bx = some (.row [N .u64 (x : Int)] false ex 0) → bx < M.next → bx ∉ blkOf v →
  (∀ v' M', Sl U64 M' v' (insL k x xs) → capOk v' → (∀ c ∈ blkOf v', n0 ≤ c) → Keep (blkOf v) M M' → Q v' M') → c [v, N .i64 (k : Int), .slc bx 0 1 (.ex 1)] M Q
theorem settle_len (u : Nat) (xs : List Nat) : (settle u xs).2.length ≤ xs.length := by simp [settle]
theorem insL_mem {k x : Nat} {xs : List Nat} {y : Nat} (h : y ∈ insL k x xs) : y = x ∨ y ∈ xs := by
  unfold insL at h
  rcases List.mem_append.1 h with h | h
  · exact .inr (List.mem_of_mem_take h)
  · rcases List.mem_cons.1 h with h | h
    · exact .inl h
    · exact .inr (List.mem_of_mem_drop h)
def AddPC (c : CallT) : Prop := ∀ {M : RM} {b o T u n : Nat} {l : List AV} {v : AV} {xs : List Nat} {Q : PostV}, M.heap b = some (.row l false T 0) → b < M.next → l[o]? = some (N .u64 (u : Int)) → l[o + 1]? = some v → Sl U64 M v xs → b ∉ blkOf v → capOk v →
  Asc xs → xs.length ≤ 10000 → u ≤ 4398046511104 → (∀ x ∈ xs, x ≤ 4398046511104) → n ≤ 4398046511104 →
  (∀ M', addP (u, xs) n = ((addP (u, xs) n).1, (u, xs)) → Keep [] M M' → Q (Bo (addP (u, xs) n).1) M') →
  (∀ v' M', M'.heap b = some (.row (l.take o ++ [N .u64 (((addP (u, xs) n).2.1 : Nat) : Int), v'] ++ l.drop (o + 2)) false T 0) → Sl U64 M' v' (addP (u, xs) n).2.2 → capOk v' → (∀ d ∈ blkOf v', M.next ≤ d) → Keep [b] M M' → Q (Bo (addP (u, xs) n).1) M') →
  c [.ptr b o, N .u64 (n : Int)] M Q
theorem addP_spec {TU TP : Nat} {cb cc ci cs : CallT} (hsr : SearchC cb) (hcl : CloneC TU 1 8 cc) (hin : InsertC TU ci) (hst : SettledC cs) : AddPC fun args M Q => ∃ a0 a1, args = [a0, a1] ∧ W_part_add cb TU TP cc ci cs a0 a1 M Q := by
  intro M b o T u n l v xs Q hb hbl ho hv hs hbv hcap hasc hxl hu hx hn hsame hnew
  refine ⟨_, _, rfl, ?_⟩
  unfold W_part_add
  simp only [fuseM]
  have hol : o + 1 < l.length := (List.getElem?_eq_some_iff.1 hv).1
  rw [ptrW_ptr, fldW_ptr, load1_at hb hv]
  refine hsr hs (by omega) hasc ?_
  rw [extW0, extW1]
  have yes : n ∈ xs ∨ n ≤ u → Q (Bo true) M := fun h => by
    have e : addP (u, xs) n = (true, (u, xs)) := by unfold addP; rw [if_pos h]
    have := hsame M (by rw [e]) (Keep.refl _ _)
    rw [e] at this; exact this
  by_cases hm : n ∈ xs
  · rw [decide_eq_true hm, guardM_TF]
    dsimp only
    rw [pickT, condT]
    exact yes (.inl hm)
  rw [decide_eq_false hm, guardM_FF, ptrW_ptr, fldW_ptr, Nat.add_zero, load1_at hb ho, intW_leq]
  dsimp only
  rw [pickF]
  by_cases hnu : n ≤ u
  · rw [show decide ((n : Int) ≤ (u : Int)) = true by simpa using hnu, condT]
    exact yes (.inr hnu)
  rw [show decide ((n : Int) ≤ (u : Int)) = false by simp; omega, condF]
  have e0 : addP (u, xs) n = if (settle u (insL (below n xs) n xs)).2.length ≤ 4096 then (true, settle u (insL (below n xs) n xs)) else (false, (u, xs)) := by
    unfold addP; rw [if_neg (by simp [hm]; omega)]
  rw [ptrW_ptr, fldW_ptr, Nat.add_zero, load1_at hb ho, ptrW_ptr, fldW_ptr, load1_at hb hv, rows1 (x := N .u64 (n : Int)) (size := 1) rfl rfl rfl, newR_eq, newR_eq]
  have hx1 : ((M.push (.row [N .u64 (n : Int)] false TU 0)).push (.row [N .u64 0, nilS] false TP 0)).heap M.next = some (.row [N .u64 (n : Int)] false TU 0) := heap_push_lt (RM.push_new _) (by simp [RM.push])
  have h7 : ((M.push (.row [N .u64 (n : Int)] false TU 0)).push (.row [N .u64 0, nilS] false TP 0)).heap (M.next + 1) = some (.row [N .u64 0, nilS] false TP 0) := RM.push_new _
  have kk : Keep [] M ((M.push (.row [N .u64 (n : Int)] false TU 0)).push (.row [N .u64 0, nilS] false TP 0)) := ((Keep.refl _ _).push _).push _
  have nn : ((M.push (.row [N .u64 (n : Int)] false TU 0)).push (.row [N .u64 0, nilS] false TP 0)).next = M.next + 2 := rfl
  rw [next_push]
  change cc _ ((M.push (.row [N .u64 (n : Int)] false TU 0)).push (.row [N .u64 0, nilS] false TP 0)) _
  generalize (M.push (.row [N .u64 (n : Int)] false TU 0)).push (.row [N .u64 0, nilS] false TP 0) = M1 at *
  refine hcl (SlR.keep hs kk (by simp)) (U64.row_all xs) (by omega) (by omega) fun v1 M2 ow k2 => ?_
  have n2 := k2.next
  have hb2 := (kk.trans k2).heap_of hb hbl (by simp)
  have hx2 := k2.heap_of hx1 (by omega) (by simp)
  have h72 := k2.heap_of h7 (by omega) (by simp)
  have hbi := below_le n xs
  have hwb : ∀ d ∈ blkOf v1, M1.next ≤ d := fun d hd => (ow.blk d hd).1
  rw [load1_at hb2 ho]
  refine ⟨rfl, ?_⟩
  rw [rows1 (x := N .u64 (n : Int)) (size := 1) rfl rfl rfl]
  refine ⟨⟨hx2, rfl⟩, ⟨h72, rfl⟩, ?_⟩
  refine hin (n0 := M1.next) ow n2 (by omega) hbi hx2 (by omega) (fun h => by have := hwb _ h; omega) fun v2 M3 s3 c3 b3 k3 => ?_
  have n3 := k3.next
  have ke : Keep [] M M3 := (kk.trans k2).then_new k3 fun d hd => .inl (by have := hwb d hd; omega)
  have hb3 := ke.heap_of hb hbl (by simp)
  have h73 := k3.heap_of h72 (by omega) (fun h => by have := hwb _ h; omega)
  rw [load1_at hb3 ho]
  refine ⟨rfl, ⟨h73, rfl⟩, ?_⟩
  rw [buildW_eq]
  refine ⟨[N .u64 (u : Int), v2], build2 rfl rfl (SlR.known s3) (SlR.cells s3), ?_⟩
  rw [storeW_all (n := 2) (x := .agg [N .u64 (u : Int), v2]) (l := [N .u64 0, nilS]) h73 rfl rfl (by simp [AV.cells, one_sc, SlR.one s3])]
  change cs _ (M3.put (M.next + 1) (.row [N .u64 (u : Int), v2] false TP 0)) _
  have h74 : (M3.put (M.next + 1) (.row [N .u64 (u : Int), v2] false TP 0)).heap (M.next + 1) = _ := heap_put_eq _
  have ke4 : Keep [] M (M3.put (M.next + 1) (.row [N .u64 (u : Int), v2] false TP 0)) := ke.new _ (by omega)
  have n4 : (M3.put (M.next + 1) (.row [N .u64 (u : Int), v2] false TP 0)).next = M3.next := rfl
  have s4 : Sl U64 (M3.put (M.next + 1) (.row [N .u64 (u : Int), v2] false TP 0)) v2 (insL (below n xs) n xs) := SlR.keep (bs := [M.next + 1]) s3 ((Keep.refl _ _).put _ (.inr (by simp))) (fun d hd h => by have := b3 d hd; simp at h; omega)
  have hb4 := heap_put_ne (z := .row [N .u64 (u : Int), v2] false TP 0) hb3 (show b ≠ M.next + 1 by omega)
  generalize M3.put (M.next + 1) (.row [N .u64 (u : Int), v2] false TP 0) = M4 at *
  have hil := insL_len (x := n) hbi
  refine hst h74 rfl rfl s4 (fun h => by have := b3 _ h; omega) c3 (by omega) hu (fun y hy => by rcases insL_mem hy with rfl | hy; exact hn; exact hx y hy) ?_
  intro v5 M5 h75 s5 c5 b5 k5 n5
  have hb5 := k5.heap_of hb4 (by omega) (by simp; omega)
  have ke5 : Keep [] M M5 := ke4.then_new k5 fun d hd => .inl (by simp at hd; omega)
  simp only [List.set_cons_zero, List.set_cons_succ, Nat.zero_add] at h75
  rw [fld0, load1_at h75 rfl, SlR.len s5, intW_gtr]
  refine condB (fun hg => ?_) (fun hg => ?_)
  · have hg : ¬ (settle u (insL (below n xs) n xs)).2.length ≤ 4096 := by simp at hg; omega
    rw [if_neg hg] at e0
    have := hsame M5 (by rw [e0]) ke5
    rw [e0] at this; exact this
  · have hg : (settle u (insL (below n xs) n xs)).2.length ≤ 4096 := by simp at hg; omega
    rw [if_pos hg] at e0
    rw [loadN_at (n := 2) h75 rfl, ptrW_ptr, storeW_ptr]
    have hst : M5.stores b o [N .u64 (((settle u (insL (below n xs) n xs)).1 : Nat) : Int), v5] = some (M5.put b (.row (l.take o ++ [N .u64 (((settle u (insL (below n xs) n xs)).1 : Nat) : Int), v5] ++ l.drop (o + 2)) false T 0)) := by
      rw [RM.stores_of hb5, storesL_some (by simp only [List.length_cons, List.length_nil]; omega) (Nat.zero_le _) (by simp [one_sc, SlR.one s5])]; rfl
    refine ⟨rfl, _, hst, ?_⟩
    have kf : Keep [b] M5 (M5.put b (.row (l.take o ++ [N .u64 (((settle u (insL (below n xs) n xs)).1 : Nat) : Int), v5] ++ l.drop (o + 2)) false T 0)) := (Keep.refl _ _).put _ (.inr (by simp))
    have := hnew v5 _ (by rw [heap_put_eq, e0]) (by rw [e0]; exact SlR.keep s5 kf (fun d hd h => by have := b3 d (b5 d hd); simp at h; omega)) c5 (fun d hd => by have := b3 d (b5 d hd); omega) ((ke5.mono (by simp)).trans kf)
    rw [e0] at this; exact this
end Go.Ab.Dot
