/- Each Go function as a formula over the heap, printed by a program of this claim, and that a call does what the formula says. No condition. -/
import Derived.Test.YtkiakofohkecaaaHx0
set_option linter.unusedVariables false
set_option maxRecDepth 100000
namespace Go.Proofs.Ytkiakofohkecaaa
open Go Go.Fw
/- 3 trellis/trellislaw9.PathsHeap -/
def f3.J1 (j126 : Value) (R : Value → Hp → Prop) (hj_2 : Hp) (t6 : Value) (I1 : List Value → Hp → Prop) (μ1 : List Value → Hp → Nat) (h_4 : Hp) : Prop :=
  condT j126 (
  R (.bool false) hj_2) (
  bnd (binE .add t6 (.int .i64 1)) fun t27_1 =>
  (I1 [t27_1] hj_2 ∧ μ1 [t27_1] hj_2 < μ1 [t6] h_4))
def f3.J2 (t14 : Value) (hj_1 : Hp) (t5 : Value) (t15 : Value) (R : Value → Hp → Prop) (t6 : Value) (I1 : List Value → Hp → Prop) (μ1 : List Value → Hp → Nat) (h_4 : Hp) : Prop :=
  (CallsH Try.prog 12 #[t14] hj_1 fun t114_1 h_7 =>
  bnd (idxA 2 1 t5 (.int .i64 0)) fun t115_1 =>
  bnd (ldS h_7 t115_1) fun t116_1 =>
  bnd (lenE t116_1) fun t117_1 =>
  bnd (binE .neq t114_1 t117_1) fun t118_1 =>
  guardT (isB t118_1 false) (fun K => CallsH Try.prog 12 #[(bif isB t118_1 false then t15 else undef)] h_7 K) h_7 fun t121_1 h_8 =>
  bnd (bif isB t118_1 false then idxA 2 1 t5 (.int .i64 1) else some undef) fun t122_1 =>
  bnd (bif isB t118_1 false then ldS h_8 t122_1 else some undef) fun t123_1 =>
  bnd (bif isB t118_1 false then lenE t123_1 else some undef) fun t124_1 =>
  bnd (bif isB t118_1 false then binE .neq t121_1 t124_1 else some undef) fun t125_1 =>
  bnd ((asB t118_1).map fun t => bif t then (.bool true) else t125_1) fun t126_1 =>
  (f3.J1 t126_1 R h_8 t6 I1 μ1 h_4)) ∧
  (bnd (idxA 2 1 t5 (.int .i64 0)) fun t115_2 =>
  bnd (ldS hj_1 t115_2) fun t116_2 =>
  CallsH Try.prog 12 #[t14] hj_1 fun t114_2 h_9 =>
  bnd (lenE t116_2) fun t117_2 =>
  bnd (binE .neq t114_2 t117_2) fun t118_2 =>
  guardT (isB t118_2 false) (fun K => CallsH Try.prog 12 #[(bif isB t118_2 false then t15 else undef)] h_9 K) h_9 fun t121_2 h_10 =>
  bnd (bif isB t118_2 false then idxA 2 1 t5 (.int .i64 1) else some undef) fun t122_2 =>
  bnd (bif isB t118_2 false then ldS h_10 t122_2 else some undef) fun t123_2 =>
  bnd (bif isB t118_2 false then lenE t123_2 else some undef) fun t124_2 =>
  bnd (bif isB t118_2 false then binE .neq t121_2 t124_2 else some undef) fun t125_2 =>
  bnd ((asB t118_2).map fun t => bif t then (.bool true) else t125_2) fun t126_2 =>
  (f3.J1 t126_2 R h_10 t6 I1 μ1 h_4)) ∧
  (CallsH Try.prog 12 #[t14] hj_1 fun t114_3 h_11 =>
  bnd (idxA 2 1 t5 (.int .i64 0)) fun t115_3 =>
  bnd (ldS h_11 t115_3) fun t116_3 =>
  bnd (lenE t116_3) fun t117_3 =>
  bnd (binE .neq t114_3 t117_3) fun t118_3 =>
  bnd (bif isB t118_3 false then idxA 2 1 t5 (.int .i64 1) else some undef) fun t122_3 =>
  bnd (bif isB t118_3 false then ldS h_11 t122_3 else some undef) fun t123_3 =>
  guardT (isB t118_3 false) (fun K => CallsH Try.prog 12 #[(bif isB t118_3 false then t15 else undef)] h_11 K) h_11 fun t121_3 h_12 =>
  bnd (bif isB t118_3 false then lenE t123_3 else some undef) fun t124_3 =>
  bnd (bif isB t118_3 false then binE .neq t121_3 t124_3 else some undef) fun t125_3 =>
  bnd ((asB t118_3).map fun t => bif t then (.bool true) else t125_3) fun t126_3 =>
  (f3.J1 t126_3 R h_12 t6 I1 μ1 h_4)) ∧
  (bnd (idxA 2 1 t5 (.int .i64 0)) fun t115_4 =>
  bnd (ldS hj_1 t115_4) fun t116_4 =>
  CallsH Try.prog 12 #[t14] hj_1 fun t114_4 h_13 =>
  bnd (lenE t116_4) fun t117_4 =>
  bnd (binE .neq t114_4 t117_4) fun t118_4 =>
  bnd (bif isB t118_4 false then idxA 2 1 t5 (.int .i64 1) else some undef) fun t122_4 =>
  bnd (bif isB t118_4 false then ldS h_13 t122_4 else some undef) fun t123_4 =>
  guardT (isB t118_4 false) (fun K => CallsH Try.prog 12 #[(bif isB t118_4 false then t15 else undef)] h_13 K) h_13 fun t121_4 h_14 =>
  bnd (bif isB t118_4 false then lenE t123_4 else some undef) fun t124_4 =>
  bnd (bif isB t118_4 false then binE .neq t121_4 t124_4 else some undef) fun t125_4 =>
  bnd ((asB t118_4).map fun t => bif t then (.bool true) else t125_4) fun t126_4 =>
  (f3.J1 t126_4 R h_14 t6 I1 μ1 h_4))
def f3.J3 (t7_1 : Value) (hj : Hp) (t6 : Value) (j8 : Value) (t5 : Value) (j9 : Value) (t14 : Value) (t15 : Value) (R : Value → Hp → Prop) (I1 : List Value → Hp → Prop) (μ1 : List Value → Hp → Nat) (h_4 : Hp) : Prop :=
  bnd (fldE 0 t7_1) fun t36_1 =>
  bnd (ldS hj t36_1) fun t37_1 =>
  bnd (unE .not t37_1) fun t38_1 =>
  condT t38_1 (
  bnd (fldE 2 t7_1) fun t40_1 =>
  bnd (ldS hj t40_1) fun t41_1 =>
  bnd ((fillS [(0, 1), (1, 1)] #[(.int .i64 0), (.int .i64 0)] [(0, t41_1), (1, t6)]).map .agg) fun t43_1 =>
  CallsH Try.prog 9 #[j8, t43_1] hj fun t44_1 h_15 =>
  bnd (idxA 2 1 t5 j9) fun t47_1 =>
  bnd (ldS h_15 t47_1) fun t48_1 =>
  bnd (fldE 2 t7_1) fun t49_1 =>
  bnd (ldS h_15 t49_1) fun t50_1 =>
  bnd ((fillS [(0, 1), (1, 1)] #[(.int .i64 0), (.int .i64 0)] [(0, t50_1), (1, t6)]).map .agg) fun t52_1 =>
  bnd (fillR 2 #[(.int .i64 0), (.int .i64 0)] [(0, t52_1)]) fun c =>
  nw h_15 c 26 (fun b => .slice (some ⟨b, 0, none⟩) 1 1) fun t53_1 h_16 =>
  efS Try.prog (Go.Builtin.append_ #[28, 28] 28 #[t48_1, t53_1]) h_16 fun t54_1 h_17 =>
  bnd (idxA 2 1 t5 j9) fun t55_1 =>
  bnd (stE 1 h_17 t55_1 t54_1) fun h_18 =>
  (f3.J2 t14 h_18 t5 t15 R t6 I1 μ1 h_4)) (
  CallsH Try.prog 10 #[j8] hj fun t58_1 h_19 =>
  bnd (extE 0 t58_1) fun t59_1 =>
  bnd (extE 1 t58_1) fun t60_1 =>
  nw h_19 #[(.int .i64 0), (.int .i64 0)] 26 ptr0 fun t10_1 h_20 =>
  bnd (stE 2 h_20 t10_1 t59_1) fun h_21 =>
  bnd (idxA 2 1 t5 j9) fun t62_1 =>
  bnd (ldS h_21 t62_1) fun t63_1 =>
  bnd (binE .eql j9 (.int .i64 1)) fun t65_1 =>
  CallsH Try.prog 11 #[t63_1, t65_1] h_21 fun t66_1 h_22 =>
  bnd (binE .geq t66_1 (.int .i64 0)) fun t69_1 =>
  bnd (binB .neq t60_1 t69_1) fun t70_1 =>
  bnd (bif isB t70_1 false then binE .lss (bif isB t70_1 false then t66_1 else undef) (.int .i64 0) else some undef) fun t73_1 =>
  bnd (bif isB (bif isB t70_1 false then t73_1 else undef) true then ldA 2 h_22 t10_1 else some undef) fun t75_1 =>
  bnd (bif isB (bif isB t70_1 false then t73_1 else undef) true then (fillS [(0, 1), (1, 1)] #[(.int .i64 0), (.int .i64 0)] []).map .agg else some undef) fun t76_1 =>
  guardT (isB (bif isB t70_1 false then t73_1 else undef) true) (fun K => prS Try.prog (binS .neq 26 (.tmp 75) (.tmp 76) t75_1 t76_1) fun v => K v h_22) h_22 fun t77_1 h_23 =>
  bnd (bif isB t70_1 false then ((asB (bif isB t70_1 false then t73_1 else undef)).map fun t => bif t then t77_1 else (.bool false)) else some undef) fun t78_1 =>
  bnd ((asB t70_1).map fun t => bif t then (.bool true) else t78_1) fun t79_1 =>
  bnd (bif isB t79_1 false then binE .geq (bif isB t79_1 false then t66_1 else undef) (.int .i64 0) else some undef) fun t82_1 =>
  bnd (bif isB (bif isB t79_1 false then t82_1 else undef) true then ldA 2 h_23 t10_1 else some undef) fun t84_1 =>
  bnd (bif isB (bif isB t79_1 false then t82_1 else undef) true then idxA 2 1 t5 (bif isB (bif isB t79_1 false then t82_1 else undef) true then j9 else undef) else some undef) fun t86_1 =>
  bnd (bif isB (bif isB t79_1 false then t82_1 else undef) true then ldS h_23 t86_1 else some undef) fun t87_1 =>
  bnd (bif isB (bif isB t79_1 false then t82_1 else undef) true then idxE 2 t87_1 (bif isB (bif isB t79_1 false then t82_1 else undef) true then t66_1 else undef) else some undef) fun t89_1 =>
  bnd (bif isB (bif isB t79_1 false then t82_1 else undef) true then ldA 2 h_23 t89_1 else some undef) fun t90_1 =>
  guardT (isB (bif isB t79_1 false then t82_1 else undef) true) (fun K => prS Try.prog (binS .neq 26 (.tmp 84) (.tmp 90) t84_1 t90_1) fun v => K v h_23) h_23 fun t91_1 h_24 =>
  bnd (bif isB t79_1 false then ((asB (bif isB t79_1 false then t82_1 else undef)).map fun t => bif t then t91_1 else (.bool false)) else some undef) fun t92_1 =>
  bnd ((asB t79_1).map fun t => bif t then (.bool true) else t92_1) fun t93_1 =>
  condT t93_1 (
  R (.bool false) h_24) (
  bnd (binE .geq t66_1 (.int .i64 0)) fun t95_1 =>
  condT t95_1 (
  bnd (idxA 2 1 t5 j9) fun t98_1 =>
  bnd (ldS h_24 t98_1) fun t99_1 =>
  bnd (sliceE 2 t99_1 none (some t66_1)) fun t101_1 =>
  efS Try.prog (Go.Builtin.append_ #[28, 28] 28 #[(.slice none 0 0), t101_1]) h_24 fun t102_1 h_25 =>
  bnd (idxA 2 1 t5 j9) fun t106_1 =>
  bnd (ldS h_25 t106_1) fun t107_1 =>
  bnd (binE .add t66_1 (.int .i64 1)) fun t109_1 =>
  bnd (sliceE 2 t107_1 (some t109_1) none) fun t110_1 =>
  efS Try.prog (Go.Builtin.append_ #[28, 28] 28 #[t102_1, t110_1]) h_25 fun t111_1 h_26 =>
  bnd (idxA 2 1 t5 j9) fun t112_1 =>
  bnd (stE 1 h_26 t112_1 t111_1) fun h_27 =>
  (f3.J2 t14 h_27 t5 t15 R t6 I1 μ1 h_4)) (
  (f3.J2 t14 h_24 t5 t15 R t6 I1 μ1 h_4))))
/- slots [6] -/
  def f3.L1 (h_3 : Hp) (t0 : Value) (t15 : Value) (t5 : Value) (t14 : Value) (R : Value → Hp → Prop) : Prop :=
  ∃ (I1 : List Value → Hp → Prop) (μ1 : List Value → Hp → Nat), I1 [(.int .i64 0)] h_3 ∧
  ∀ t22 t23 t24 t25 t28 t29 t30 t31 t7 t32 t33 t34 t35 t8 t9 t36 t37 t38 t39 t40 t41 t42 t43 t44 t45 t46 t47 t48 t49 t50 t51 t52 t53 t54 t55 t57 t58 t56 t59 t60 t10 t11 t61 t62 t63 t64 t65 t66 t12 t67 t68 t69 t70 t71 t72 t73 t74 t75 t76 t77 t78 t79 t80 t81 t82 t83 t84 t85 t86 t87 t88 t89 t90 t91 t92 t93 t94 t95 t96 t97 t98 t99 t100 t101 t102 t13 t103 t104 t105 t106 t107 t108 t109 t110 t111 t112 t113 t114 t115 t116 t117 t118 t119 t120 t121 t122 t123 t124 t125 t126 t2 t26 t27 t6 : Value, ∀ (h_4 : Hp), I1 [t6] h_4 →
  bnd (lenE t0) fun t24_1 =>
  bnd (binE .lss t6 t24_1) fun t25_1 =>
  condT t25_1 (
  bnd (idxE 3 t0 t6) fun t30_1 =>
  bnd (ldA 3 h_4 t30_1) fun t31_1 =>
  nw h_4 #[(.bool false), (.bool false), (.int .i64 0)] 31 ptr0 fun t7_1 h_5 =>
  bnd (stE 3 h_5 t7_1 t31_1) fun h_6 =>
  bnd (fldE 1 t7_1) fun t33_1 =>
  bnd (ldS h_6 t33_1) fun t34_1 =>
  condT t34_1 (
  (f3.J3 t7_1 h_6 t6 t15 t5 (.int .i64 1) t14 t15 R I1 μ1 h_4)) (
  (f3.J3 t7_1 h_6 t6 t14 t5 (.int .i64 0) t14 t15 R I1 μ1 h_4))) (
  R (.bool true) h_4)
def f3.T (t0 : Value) (h : Hp) (R : Value → Hp → Prop) : Prop :=
  CallsH Try.prog 6 #[(.func (.func 7) #[] #[])] h fun t14 h_1 =>
  CallsH Try.prog 6 #[(.func (.func 8) #[] #[])] h_1 fun t15 h_2 =>
  bnd (nilBin .p .eql t14 (.pointer none)) fun t17 =>
  bnd (bif isB t17 false then nilBin .p .eql (bif isB t17 false then t15 else undef) (.pointer none) else some undef) fun t20 =>
  bnd ((asB t17).map fun t => bif t then (.bool true) else t20) fun t21 =>
  condT t21 (
  R (.bool false) h_2) (
  nw h_2 #[(.slice none 0 0), (.slice none 0 0)] 29 ptr0 fun t5 h_3 =>
  (f3.L1 h_3 t0 t15 t5 t14 R))
theorem f3.eq (t0 : Value) (h : Hp) (R : Value → Hp → Prop) : evC Try.prog (fun i => bif Nat.beq i 7 then [6] else []) (fun i => bif Nat.beq i 26 then [[0, 1, 2, 3, 4, 5, 6, 7, 8, 9, 10, 11, 12, 13], [0, 2, 3, 1, 4, 5, 6, 7, 8, 9, 10, 11, 12, 13], [0, 1, 2, 3, 4, 5, 6, 7, 9, 10, 8, 11, 12, 13], [0, 2, 3, 1, 4, 5, 6, 7, 9, 10, 8, 11, 12, 13]] else []) (Try.f3.body.getD .skip) (env0 [t0]) h (bodyQ Try.prog Try.f3.results.toList R) = f3.T t0 h R := by kernel_rfl
theorem f3.ok {t0 : Value} {h : Hp} {R : Value → Hp → Prop} (k : f3.T t0 h R) : CallsH Try.prog 3 #[t0] h R :=
    calls_of_evC (args := [t0]) (c := Try.f3.body.getD .skip) (fun i => bif Nat.beq i 7 then [6] else []) (fun i => bif Nat.beq i 26 then [[0, 1, 2, 3, 4, 5, 6, 7, 8, 9, 10, 11, 12, 13], [0, 2, 3, 1, 4, 5, 6, 7, 8, 9, 10, 11, 12, 13], [0, 1, 2, 3, 4, 5, 6, 7, 9, 10, 8, 11, 12, 13], [0, 2, 3, 1, 4, 5, 6, 7, 9, 10, 8, 11, 12, 13]] else []) follows_mixed Try.func3 (by kernel_rfl) (by kernel_rfl) (by kernel_rfl)
      (Eq.mpr (f3.eq t0 h R) k)
/- 4 trellis/trellislaw9.PathsSorted -/
/- slots [7] -/
  def f4.L2 (h_5 : Hp) (t0 : Value) (t12 : Value) (t31 : Value) (R : Value → Hp → Prop) (t6 : Value) : Prop :=
  ∃ (I2 : List Value → Hp → Prop) (μ2 : List Value → Hp → Nat), I2 [(.int .i64 0)] h_5 ∧
  ∀ t32 t33 t34 t35 t39 t40 t38 t41 t42 t8 t9 t43 t44 t45 t46 t47 t48 t49 t50 t51 t52 t53 t54 t55 t56 t57 t58 t59 t60 t61 t62 t63 t64 t65 t66 t67 t68 t69 t70 t71 t72 t73 t74 t75 t76 t77 t78 t79 t80 t81 t82 t83 t84 t85 t86 t87 t88 t89 t90 t91 t92 t93 t94 t95 t96 t2 t97 t98 t99 t100 t101 t36 t37 t7 : Value, ∀ (h_6 : Hp), I2 [t7] h_6 →
  bnd (lenE t0) fun t34_1 =>
  bnd (binE .lss t7 t34_1) fun t35_1 =>
  condT t35_1 (
  CallsH Try.prog 10 #[t12] h_6 fun t40_1 h_7 =>
  bnd (extE 0 t40_1) fun t41_1 =>
  bnd (extE 1 t40_1) fun t42_1 =>
  nw h_7 #[(.int .i64 0), (.int .i64 0)] 26 ptr0 fun t8_1 h_8 =>
  bnd (stE 2 h_8 t8_1 t41_1) fun h_9 =>
  bnd (unE .not t42_1) fun t44_1 =>
  bnd (bif isB t44_1 false then fldE 1 t8_1 else some undef) fun t46_1 =>
  bnd (bif isB t44_1 false then ldS h_9 t46_1 else some undef) fun t47_1 =>
  bnd (bif isB t44_1 false then binE .lss t47_1 (.int .i64 0) else some undef) fun t48_1 =>
  bnd ((asB t44_1).map fun t => bif t then (.bool true) else t48_1) fun t49_1 =>
  bnd (bif isB t49_1 false then fldE 1 t8_1 else some undef) fun t51_1 =>
  bnd (bif isB t49_1 false then ldS h_9 t51_1 else some undef) fun t52_1 =>
  bnd (bif isB t49_1 false then lenE (bif isB t49_1 false then t0 else undef) else some undef) fun t54_1 =>
  bnd (bif isB t49_1 false then binE .geq t52_1 t54_1 else some undef) fun t55_1 =>
  bnd ((asB t49_1).map fun t => bif t then (.bool true) else t55_1) fun t56_1 =>
  bnd (bif isB t56_1 false then fldE 1 t8_1 else some undef) fun t59_1 =>
  bnd (bif isB t56_1 false then ldS h_9 t59_1 else some undef) fun t60_1 =>
  bnd (bif isB t56_1 false then idxE 1 (bif isB t56_1 false then t31 else undef) t60_1 else some undef) fun t61_1 =>
  bnd (bif isB t56_1 false then ldS h_9 t61_1 else some undef) fun t62_1 =>
  bnd ((asB t56_1).map fun t => bif t then (.bool true) else t62_1) fun t63_1 =>
  bnd (bif isB t63_1 false then fldE 1 t8_1 else some undef) fun t66_1 =>
  bnd (bif isB t63_1 false then ldS h_9 t66_1 else some undef) fun t67_1 =>
  bnd (bif isB t63_1 false then idxE 1 (bif isB t63_1 false then t0 else undef) t67_1 else some undef) fun t68_1 =>
  bnd (bif isB t63_1 false then ldS h_9 t68_1 else some undef) fun t69_1 =>
  bnd (bif isB t63_1 false then fldE 0 t8_1 else some undef) fun t70_1 =>
  bnd (bif isB t63_1 false then ldS h_9 t70_1 else some undef) fun t71_1 =>
  bnd (bif isB t63_1 false then binE .neq t69_1 t71_1 else some undef) fun t72_1 =>
  bnd ((asB t63_1).map fun t => bif t then (.bool true) else t72_1) fun t73_1 =>
  condT t73_1 (
  R (.bool false) h_9) (
  bnd (binE .gtr t7 (.int .i64 0)) fun t75_1 =>
  bnd (bif isB t75_1 true then fldE 0 t6 else some undef) fun t77_1 =>
  bnd (bif isB t75_1 true then ldS h_9 t77_1 else some undef) fun t78_1 =>
  bnd (bif isB t75_1 true then fldE 0 t8_1 else some undef) fun t79_1 =>
  bnd (bif isB t75_1 true then ldS h_9 t79_1 else some undef) fun t80_1 =>
  bnd (bif isB t75_1 true then binE .gtr t78_1 t80_1 else some undef) fun t81_1 =>
  bnd (bif isB (bif isB t75_1 true then t81_1 else undef) false then fldE 0 t6 else some undef) fun t83_1 =>
  bnd (bif isB (bif isB t75_1 true then t81_1 else undef) false then ldS h_9 t83_1 else some undef) fun t84_1 =>
  bnd (bif isB (bif isB t75_1 true then t81_1 else undef) false then fldE 0 t8_1 else some undef) fun t85_1 =>
  bnd (bif isB (bif isB t75_1 true then t81_1 else undef) false then ldS h_9 t85_1 else some undef) fun t86_1 =>
  bnd (bif isB (bif isB t75_1 true then t81_1 else undef) false then binE .eql t84_1 t86_1 else some undef) fun t87_1 =>
  bnd (bif isB (bif isB (bif isB t75_1 true then t81_1 else undef) false then t87_1 else undef) true then fldE 1 t6 else some undef) fun t89_1 =>
  bnd (bif isB (bif isB (bif isB t75_1 true then t81_1 else undef) false then t87_1 else undef) true then ldS h_9 t89_1 else some undef) fun t90_1 =>
  bnd (bif isB (bif isB (bif isB t75_1 true then t81_1 else undef) false then t87_1 else undef) true then fldE 1 t8_1 else some undef) fun t91_1 =>
  bnd (bif isB (bif isB (bif isB t75_1 true then t81_1 else undef) false then t87_1 else undef) true then ldS h_9 t91_1 else some undef) fun t92_1 =>
  bnd (bif isB (bif isB (bif isB t75_1 true then t81_1 else undef) false then t87_1 else undef) true then binE .gtr t90_1 t92_1 else some undef) fun t93_1 =>
  bnd (bif isB (bif isB t75_1 true then t81_1 else undef) false then ((asB (bif isB (bif isB t75_1 true then t81_1 else undef) false then t87_1 else undef)).map fun t => bif t then t93_1 else (.bool false)) else some undef) fun t94_1 =>
  bnd (bif isB t75_1 true then ((asB (bif isB t75_1 true then t81_1 else undef)).map fun t => bif t then (.bool true) else t94_1) else some undef) fun t95_1 =>
  bnd ((asB t75_1).map fun t => bif t then t95_1 else (.bool false)) fun t96_1 =>
  condT t96_1 (
  R (.bool false) h_9) (
  bnd (fldE 1 t8_1) fun t98_1 =>
  bnd (ldS h_9 t98_1) fun t99_1 =>
  bnd (idxE 1 t31 t99_1) fun t100_1 =>
  bnd (stE 1 h_9 t100_1 (.bool true)) fun h_10 =>
  bnd (ldA 2 h_10 t8_1) fun t101_1 =>
  bnd (stE 2 h_10 t6 t101_1) fun h_11 =>
  bnd (binE .add t7 (.int .i64 1)) fun t37_1 =>
  (I2 [t37_1] h_11 ∧ μ2 [t37_1] h_11 < μ2 [t7] h_6)))) (
  CallsH Try.prog 10 #[t12] h_6 fun t104 h_12 =>
  bnd (extE 0 t104) fun t105 =>
  bnd (extE 1 t104) fun t106 =>
  nw h_12 #[(.int .i64 0), (.int .i64 0)] 26 ptr0 fun t10 h_13 =>
  bnd (stE 2 h_13 t10 t105) fun h_14 =>
  bnd (unE .not t106) fun t108 =>
  guardT (isB t108 true) (fun K => CallsH Try.prog 12 #[(bif isB t108 true then t12 else undef)] h_14 K) h_14 fun t111 h_15 =>
  bnd (bif isB t108 true then binE .eql t111 (.int .i64 0) else some undef) fun t112 =>
  bnd ((asB t108).map fun t => bif t then t112 else (.bool false)) fun t113 =>
  R t113 h_15)
/- slots [4] -/
  def f4.L1 (h_1 : Hp) (t0 : Value) (t12 : Value) (R : Value → Hp → Prop) : Prop :=
  ∃ (I1 : List Value → Hp → Prop) (μ1 : List Value → Hp → Nat), I1 [(.int .i64 0)] h_1 ∧
  ∀ t15 t16 t17 t18 t21 t22 t23 t24 t25 t26 t27 t28 t19 t20 t4 : Value, ∀ (h_2 : Hp), I1 [t4] h_2 →
  bnd (lenE t0) fun t17_1 =>
  bnd (binE .lss t4 t17_1) fun t18_1 =>
  condT t18_1 (
  bnd (idxE 1 t0 t4) fun t24_1 =>
  bnd (ldS h_2 t24_1) fun t25_1 =>
  bnd ((fillS [(0, 1), (1, 1)] #[(.int .i64 0), (.int .i64 0)] [(0, t25_1), (1, t4)]).map .agg) fun t27_1 =>
  CallsH Try.prog 9 #[t12, t27_1] h_2 fun t28_1 h_3 =>
  bnd (binE .add t4 (.int .i64 1)) fun t20_1 =>
  (I1 [t20_1] h_3 ∧ μ1 [t20_1] h_3 < μ1 [t4] h_2)) (
  bnd (lenE t0) fun t30 =>
  efS Try.prog (Go.Instr.makeSlice 39 t30 t30) h_2 fun t31 h_4 =>
  nw h_4 #[(.int .i64 0), (.int .i64 0)] 26 ptr0 fun t6 h_5 =>
  (f4.L2 h_5 t0 t12 t31 R t6))
def f4.T (t0 : Value) (h : Hp) (R : Value → Hp → Prop) : Prop :=
  CallsH Try.prog 6 #[(.func (.func 13) #[] #[])] h fun t12 h_1 =>
  bnd (nilBin .p .eql t12 (.pointer none)) fun t14 =>
  condT t14 (
  R (.bool false) h_1) (
  (f4.L1 h_1 t0 t12 R))
theorem f4.eq (t0 : Value) (h : Hp) (R : Value → Hp → Prop) : evC Try.prog (fun i => bif Nat.beq i 5 then [4] else bif Nat.beq i 11 then [7] else []) (fun _ => []) (Try.f4.body.getD .skip) (env0 [t0]) h (bodyQ Try.prog Try.f4.results.toList R) = f4.T t0 h R := by kernel_rfl
theorem f4.ok {t0 : Value} {h : Hp} {R : Value → Hp → Prop} (k : f4.T t0 h R) : CallsH Try.prog 4 #[t0] h R :=
    calls_of_evC (args := [t0]) (c := Try.f4.body.getD .skip) (fun i => bif Nat.beq i 5 then [4] else bif Nat.beq i 11 then [7] else []) (fun _ => []) follows_mixed Try.func4 (by kernel_rfl) (by kernel_rfl) (by kernel_rfl)
      (Eq.mpr (f4.eq t0 h R) k)
/- 5 trellis/trellislaw9.PathsOnce -/
def f5.J1 (t23 : Value) (hj : Hp) (j7 : Value) (R : Value → Hp → Prop) (t8 : Value) (I1 : List Value → Hp → Prop) (μ1 : List Value → Hp → Nat) (t7 : Value) (h_3 : Hp) : Prop :=
  CallsH Try.prog 12 #[t23] hj fun t106_1 h_4 =>
  bnd (lenE j7) fun t108_1 =>
  bnd (binE .neq t106_1 t108_1) fun t109_1 =>
  condT t109_1 (
  R (.bool false) h_4) (
  bnd (binE .add t8 (.int .i64 1)) fun t31_1 =>
  (I1 [j7, t31_1] h_4 ∧ μ1 [j7, t31_1] h_4 < μ1 [t7, t8] h_3))
def f5.J2 (t12_1 : Value) (I2 : List Value → Hp → Prop) (j11_1 : Value) (hj_1 : Hp) (μ2 : List Value → Hp → Nat) (t11_1 : Value) (h_11 : Hp) : Prop :=
  bnd (binE .add t12_1 (.int .i64 1)) fun t61_2 =>
  (I2 [j11_1, t61_2] hj_1 ∧ μ2 [j11_1, t61_2] hj_1 < μ2 [t11_1, t12_1] h_11)
/- slots [11, 12] -/
  def f5.L2 (h_10 : Hp) (t7 : Value) (t9_1 : Value) (t1 : Value) (t55_1 : Value) (R : Value → Hp → Prop) (t23 : Value) (t8 : Value) (I1 : List Value → Hp → Prop) (μ1 : List Value → Hp → Nat) (h_3 : Hp) : Prop :=
  ∃ (I2 : List Value → Hp → Prop) (μ2 : List Value → Hp → Nat), I2 [(.int .i64 (-1)), (.int .i64 0)] h_10 ∧
  ∀ t56_1 t57_1 t58_1 t59_1 t62_1 t63_1 t64_1 t65_1 t66_1 t67_1 t68_1 t69_1 t70_1 t71_1 t72_1 t73_1 t74_1 t75_1 t76_1 t77_1 t78_1 t79_1 t80_1 t11_1 t60_1 t61_1 t12_1 : Value, ∀ (h_11 : Hp), I2 [t11_1, t12_1] h_11 →
  bnd (lenE t7) fun t58_2 =>
  bnd (binE .lss t12_1 t58_2) fun t59_2 =>
  condT t59_2 (
  bnd (idxE 1 t7 t12_1) fun t64_2 =>
  bnd (ldS h_11 t64_2) fun t65_2 =>
  bnd (fldE 1 t9_1) fun t66_2 =>
  bnd (ldS h_11 t66_2) fun t67_2 =>
  bnd (binE .eql t65_2 t67_2) fun t68_2 =>
  bnd (bif isB t68_2 true then fldE 1 t9_1 else some undef) fun t71_2 =>
  bnd (bif isB t68_2 true then ldS h_11 t71_2 else some undef) fun t72_2 =>
  bnd (bif isB t68_2 true then idxE 3 (bif isB t68_2 true then t1 else undef) t72_2 else some undef) fun t73_2 =>
  bnd (bif isB t68_2 true then fldE 2 t73_2 else some undef) fun t74_2 =>
  bnd (bif isB t68_2 true then ldS h_11 t74_2 else some undef) fun t75_2 =>
  bnd (bif isB t68_2 true then fldE 0 t9_1 else some undef) fun t76_2 =>
  bnd (bif isB t68_2 true then ldS h_11 t76_2 else some undef) fun t77_2 =>
  bnd (bif isB t68_2 true then binE .eql t75_2 t77_2 else some undef) fun t78_2 =>
  bnd ((asB t68_2).map fun t => bif t then t78_2 else (.bool false)) fun t79_2 =>
  condT t79_2 (
  (f5.J2 t12_1 I2 t12_1 h_11 μ2 t11_1 h_11)) (
  (f5.J2 t12_1 I2 t11_1 h_11 μ2 t11_1 h_11))) (
  bnd (lenE t7) fun t83_1 =>
  bnd (binE .gtr t83_1 (.int .i64 0)) fun t84_1 =>
  bnd (binB .neq t55_1 t84_1) fun t85_1 =>
  bnd (bif isB (bif isB t85_1 false then (bif isB t85_1 false then t55_1 else undef) else undef) true then binE .lss (bif isB (bif isB t85_1 false then (bif isB t85_1 false then t55_1 else undef) else undef) true then t11_1 else undef) (.int .i64 0) else some undef) fun t90_1 =>
  bnd (bif isB t85_1 false then ((asB (bif isB t85_1 false then (bif isB t85_1 false then t55_1 else undef) else undef)).map fun t => bif t then t90_1 else (.bool false)) else some undef) fun t91_1 =>
  bnd ((asB t85_1).map fun t => bif t then (.bool true) else t91_1) fun t92_1 =>
  condT t92_1 (
  R (.bool false) h_11) (
  condT t55_1 (
  bnd (sliceE 1 t7 none (some t11_1)) fun t97_1 =>
  efS Try.prog (Go.Builtin.append_ #[41, 41] 41 #[(.slice none 0 0), t97_1]) h_11 fun t98_1 h_12 =>
  bnd (binE .add t11_1 (.int .i64 1)) fun t102_1 =>
  bnd (sliceE 1 t7 (some t102_1) none) fun t103_1 =>
  efS Try.prog (Go.Builtin.append_ #[41, 41] 41 #[t98_1, t103_1]) h_12 fun t104_1 h_13 =>
  (f5.J1 t23 h_13 t104_1 R t8 I1 μ1 t7 h_3)) (
  (f5.J1 t23 h_11 t7 R t8 I1 μ1 t7 h_3))))
def f5.J3 (t17_1 : Value) (I4 : List Value → Hp → Prop) (j16 : Value) (hj_2 : Hp) (μ4 : List Value → Hp → Nat) (t16_1 : Value) (h_18 : Hp) : Prop :=
  bnd (binE .add t17_1 (.int .i64 1)) fun t123_2 =>
  (I4 [j16, t123_2] hj_2 ∧ μ4 [j16, t123_2] hj_2 < μ4 [t16_1, t17_1] h_18)
/- slots [16, 17] -/
  def f5.L4 (h_17 : Hp) (t7_1 : Value) (t14_1 : Value) (t117_1 : Value) (R : Value → Hp → Prop) (I3 : List Value → Hp → Prop) (μ3 : List Value → Hp → Nat) (h_14 : Hp) : Prop :=
  ∃ (I4 : List Value → Hp → Prop) (μ4 : List Value → Hp → Nat), I4 [(.int .i64 (-1)), (.int .i64 0)] h_17 ∧
  ∀ t118_1 t119_1 t120_1 t121_1 t124_1 t125_1 t126_1 t127_1 t128_1 t129_1 t130_1 t131_1 t16_1 t122_1 t123_1 t17_1 : Value, ∀ (h_18 : Hp), I4 [t16_1, t17_1] h_18 →
  bnd (lenE t7_1) fun t120_2 =>
  bnd (binE .lss t17_1 t120_2) fun t121_2 =>
  condT t121_2 (
  bnd (idxE 1 t7_1 t17_1) fun t126_2 =>
  bnd (ldS h_18 t126_2) fun t127_2 =>
  bnd (fldE 1 t14_1) fun t128_2 =>
  bnd (ldS h_18 t128_2) fun t129_2 =>
  bnd (binE .eql t127_2 t129_2) fun t130_2 =>
  condT t130_2 (
  (f5.J3 t17_1 I4 t17_1 h_18 μ4 t16_1 h_18)) (
  (f5.J3 t17_1 I4 t16_1 h_18 μ4 t16_1 h_18))) (
  bnd (unE .not t117_1) fun t133_1 =>
  bnd (bif isB t133_1 false then binE .lss (bif isB t133_1 false then t16_1 else undef) (.int .i64 0) else some undef) fun t136_1 =>
  bnd ((asB t133_1).map fun t => bif t then (.bool true) else t136_1) fun t137_1 =>
  condT t137_1 (
  R (.bool false) h_18) (
  bnd (sliceE 1 t7_1 none (some t16_1)) fun t141_1 =>
  efS Try.prog (Go.Builtin.append_ #[41, 41] 41 #[(.slice none 0 0), t141_1]) h_18 fun t142_1 h_19 =>
  bnd (binE .add t16_1 (.int .i64 1)) fun t146_1 =>
  bnd (sliceE 1 t7_1 (some t146_1) none) fun t147_1 =>
  efS Try.prog (Go.Builtin.append_ #[41, 41] 41 #[t142_1, t147_1]) h_19 fun t148_1 h_20 =>
  (I3 [t148_1] h_20 ∧ μ3 [t148_1] h_20 < μ3 [t7_1] h_14)))
/- slots [7] -/
  def f5.L3 (t7 : Value) (h_3 : Hp) (t23 : Value) (R : Value → Hp → Prop) : Prop :=
  ∃ (I3 : List Value → Hp → Prop) (μ3 : List Value → Hp → Nat), I3 [t7] h_3 ∧
  ∀ t110 t111 t112 t114 t115 t113 t116 t117 t14 t15 t118 t119 t120 t121 t124 t125 t126 t127 t128 t129 t130 t131 t16 t122 t123 t17 t132 t133 t134 t135 t136 t137 t4_1 t138 t139 t140 t141 t142 t18 t143 t144 t145 t146 t147 t148 t7_1 : Value, ∀ (h_14 : Hp), I3 [t7_1] h_14 →
  bnd (lenE t7_1) fun t111_1 =>
  bnd (binE .gtr t111_1 (.int .i64 0)) fun t112_1 =>
  condT t112_1 (
  CallsH Try.prog 10 #[t23] h_14 fun t115_1 h_15 =>
  bnd (extE 0 t115_1) fun t116_1 =>
  bnd (extE 1 t115_1) fun t117_1 =>
  nw h_15 #[(.int .i64 0), (.int .i64 0)] 26 ptr0 fun t14_1 h_16 =>
  bnd (stE 2 h_16 t14_1 t116_1) fun h_17 =>
  (f5.L4 h_17 t7_1 t14_1 t117_1 R I3 μ3 h_14)) (
  CallsH Try.prog 10 #[t23] h_14 fun t151 h_21 =>
  bnd (extE 0 t151) fun t152 =>
  bnd (extE 1 t151) fun t153 =>
  nw h_21 #[(.int .i64 0), (.int .i64 0)] 26 ptr0 fun t19 h_22 =>
  bnd (stE 2 h_22 t19 t152) fun h_23 =>
  bnd (unE .not t153) fun t155 =>
  R t155 h_23)
/- slots [7, 8] -/
  def f5.L1 (h_2 : Hp) (t1 : Value) (t23 : Value) (R : Value → Hp → Prop) : Prop :=
  ∃ (I1 : List Value → Hp → Prop) (μ1 : List Value → Hp → Nat), I1 [(.slice none 0 0), (.int .i64 0)] h_2 ∧
  ∀ t26 t27 t28 t29 t32 t33 t34 t35 t36 t37 t38 t39 t40 t41 t42 t43 t44 t45 t46 t47 t48 t49 t50 t52 t53 t51 t54 t55 t9 t10 t56 t57 t58 t59 t62 t63 t64 t65 t66 t67 t68 t69 t70 t71 t72 t73 t74 t75 t76 t77 t78 t79 t80 t11 t60 t61 t12 t81 t82 t83 t84 t85 t86 t87 t88 t89 t90 t91 t92 t93 t94 t95 t96 t97 t98 t13 t99 t100 t101 t102 t103 t104 t7 t105 t106 t107 t108 t109 t4 t30 t31 t8 : Value, ∀ (h_3 : Hp), I1 [t7, t8] h_3 →
  bnd (lenE t1) fun t28_1 =>
  bnd (binE .lss t8 t28_1) fun t29_1 =>
  condT t29_1 (
  bnd (idxE 3 t1 t8) fun t34_1 =>
  bnd (fldE 0 t34_1) fun t35_1 =>
  bnd (ldS h_3 t35_1) fun t36_1 =>
  bnd (unE .not t36_1) fun t37_1 =>
  condT t37_1 (
  bnd (idxE 3 t1 t8) fun t41_1 =>
  bnd (fldE 2 t41_1) fun t42_1 =>
  bnd (ldS h_3 t42_1) fun t43_1 =>
  bnd ((fillS [(0, 1), (1, 1)] #[(.int .i64 0), (.int .i64 0)] [(0, t43_1), (1, t8)]).map .agg) fun t45_1 =>
  CallsH Try.prog 9 #[t23, t45_1] h_3 fun t46_1 h_5 =>
  bnd (fillR 1 #[(.int .i64 0)] [(0, t8)]) fun c =>
  nw h_5 c 3 (fun b => .slice (some ⟨b, 0, none⟩) 1 1) fun t49_1 h_6 =>
  efS Try.prog (Go.Builtin.append_ #[41, 41] 41 #[t7, t49_1]) h_6 fun t50_1 h_7 =>
  (f5.J1 t23 h_7 t50_1 R t8 I1 μ1 t7 h_3)) (
  CallsH Try.prog 10 #[t23] h_3 fun t53_1 h_8 =>
  bnd (extE 0 t53_1) fun t54_1 =>
  bnd (extE 1 t53_1) fun t55_1 =>
  nw h_8 #[(.int .i64 0), (.int .i64 0)] 26 ptr0 fun t9_1 h_9 =>
  bnd (stE 2 h_9 t9_1 t54_1) fun h_10 =>
  (f5.L2 h_10 t7 t9_1 t1 t55_1 R t23 t8 I1 μ1 h_3))) (
  (f5.L3 t7 h_3 t23 R))
def f5.T (t0 t1 : Value) (h : Hp) (R : Value → Hp → Prop) : Prop :=
  nw h (Value.cells t0) 39 ptr0 fun t2 h_1 =>
  CallsH Try.prog 6 #[(.func (.func 14) #[] #[t2])] h_1 fun t23 h_2 =>
  bnd (nilBin .p .eql t23 (.pointer none)) fun t25 =>
  condT t25 (
  R (.bool false) h_2) (
  (f5.L1 h_2 t1 t23 R))
theorem f5.eq (t0 t1 : Value) (h : Hp) (R : Value → Hp → Prop) : evC Try.prog (fun i => bif Nat.beq i 7 then [7, 8] else bif Nat.beq i 15 then [11, 12] else bif Nat.beq i 27 then [7] else bif Nat.beq i 31 then [16, 17] else []) (fun _ => []) (Try.f5.body.getD .skip) (env0 [t0, t1]) h (bodyQ Try.prog Try.f5.results.toList R) = f5.T t0 t1 h R := by kernel_rfl
theorem f5.ok {t0 t1 : Value} {h : Hp} {R : Value → Hp → Prop} (k : f5.T t0 t1 h R) : CallsH Try.prog 5 #[t0, t1] h R :=
    calls_of_evC (args := [t0, t1]) (c := Try.f5.body.getD .skip) (fun i => bif Nat.beq i 7 then [7, 8] else bif Nat.beq i 15 then [11, 12] else bif Nat.beq i 27 then [7] else bif Nat.beq i 31 then [16, 17] else []) (fun _ => []) follows_mixed Try.func5 (by kernel_rfl) (by kernel_rfl) (by kernel_rfl)
      (Eq.mpr (f5.eq t0 t1 h R) k)
/- 6 trellis/paths.NewHeap[trellis/trellislaw9.Entry] -/
def f6.T (t0 : Value) (h : Hp) (R : Value → Hp → Prop) : Prop :=
  bnd (nilBin .f .eql t0 .nilFunc) fun t4 =>
  condT t4 (
  R (.pointer none) h) (
  bnd ((fillS [(0, 1), (1, 1), (2, 1)] #[.nilFunc, (.slice none 0 0), (.int .i64 0)] [(0, t0)]).map .agg) fun t6 =>
  nw h (Value.cells t6) 45 ptr0 fun t7 h_1 =>
  R t7 h_1)
theorem f6.eq (t0 : Value) (h : Hp) (R : Value → Hp → Prop) : evC Try.prog (fun _ => []) (fun _ => []) (Try.f6.body.getD .skip) (env0 [t0]) h (bodyQ Try.prog Try.f6.results.toList R) = f6.T t0 h R := by kernel_rfl
theorem f6.ok {t0 : Value} {h : Hp} {R : Value → Hp → Prop} (k : f6.T t0 h R) : CallsH Try.prog 6 #[t0] h R :=
    calls_of_evC (args := [t0]) (c := Try.f6.body.getD .skip) (fun _ => []) (fun _ => []) follows_mixed Try.func6 (by kernel_rfl) (by kernel_rfl) (by kernel_rfl)
      (Eq.mpr (f6.eq t0 h R) k)
/- 7 trellis/trellislaw9.PathsHeap$1 -/
def f7.T (t0 t1 : Value) (h : Hp) (R : Value → Hp → Prop) : Prop :=
  nw h (Value.cells t0) 26 ptr0 fun t2 h_1 =>
  nw h_1 (Value.cells t1) 26 ptr0 fun t3 h_2 =>
  bnd (fldE 0 t2) fun t5 =>
  bnd (ldS h_2 t5) fun t6 =>
  bnd (fldE 0 t3) fun t7 =>
  bnd (ldS h_2 t7) fun t8 =>
  bnd (binE .lss t6 t8) fun t9 =>
  R t9 h_2
theorem f7.eq (t0 t1 : Value) (h : Hp) (R : Value → Hp → Prop) : evC Try.prog (fun _ => []) (fun _ => []) (Try.f7.body.getD .skip) (env0 [t0, t1]) h (bodyQ Try.prog Try.f7.results.toList R) = f7.T t0 t1 h R := by kernel_rfl
theorem f7.ok {t0 t1 : Value} {h : Hp} {R : Value → Hp → Prop} (k : f7.T t0 t1 h R) : CallsH Try.prog 7 #[t0, t1] h R :=
    calls_of_evC (args := [t0, t1]) (c := Try.f7.body.getD .skip) (fun _ => []) (fun _ => []) follows_mixed Try.func7 (by kernel_rfl) (by kernel_rfl) (by kernel_rfl)
      (Eq.mpr (f7.eq t0 t1 h R) k)
/- 8 trellis/trellislaw9.PathsHeap$2 -/
def f8.T (t0 t1 : Value) (h : Hp) (R : Value → Hp → Prop) : Prop :=
  nw h (Value.cells t0) 26 ptr0 fun t2 h_1 =>
  nw h_1 (Value.cells t1) 26 ptr0 fun t3 h_2 =>
  bnd (fldE 0 t2) fun t5 =>
  bnd (ldS h_2 t5) fun t6 =>
  bnd (fldE 0 t3) fun t7 =>
  bnd (ldS h_2 t7) fun t8 =>
  bnd (binE .gtr t6 t8) fun t9 =>
  R t9 h_2
theorem f8.eq (t0 t1 : Value) (h : Hp) (R : Value → Hp → Prop) : evC Try.prog (fun _ => []) (fun _ => []) (Try.f8.body.getD .skip) (env0 [t0, t1]) h (bodyQ Try.prog Try.f8.results.toList R) = f8.T t0 t1 h R := by kernel_rfl
theorem f8.ok {t0 t1 : Value} {h : Hp} {R : Value → Hp → Prop} (k : f8.T t0 t1 h R) : CallsH Try.prog 8 #[t0, t1] h R :=
    calls_of_evC (args := [t0, t1]) (c := Try.f8.body.getD .skip) (fun _ => []) (fun _ => []) follows_mixed Try.func8 (by kernel_rfl) (by kernel_rfl) (by kernel_rfl)
      (Eq.mpr (f8.eq t0 t1 h R) k)
/- 9 (*trellis/paths.Heap[trellis/trellislaw9.Entry]).Push -/
/- slots [4] -/
  def f9.L1 (t34 : Value) (h_5 : Hp) (t0 : Value) (R : Value → Hp → Prop) : Prop :=
  ∃ (I1 : List Value → Hp → Prop) (μ1 : List Value → Hp → Nat), I1 [t34] h_5 ∧
  ∀ t35 t36 t37 t38 t39 t40 t41 t42 t43 t44 t48 t49 t50 t51 t52 t53 t45 t46 t47 t4 : Value, ∀ (h_6 : Hp), I1 [t4] h_6 →
  bnd (binE .gtr t4 (.int .i64 0)) fun t36_1 =>
  bnd (bif isB t36_1 true then binE .sub (bif isB t36_1 true then t4 else undef) (.int .i64 1) else some undef) fun t41_1 =>
  bnd (bif isB t36_1 true then binE .quo t41_1 (.int .i64 2) else some undef) fun t42_1 =>
  guardT (isB t36_1 true) (fun K => CallsH Try.prog 15 #[(bif isB t36_1 true then t0 else undef), (bif isB t36_1 true then t4 else undef), t42_1] h_6 K) h_6 fun t43_1 h_7 =>
  bnd ((asB t36_1).map fun t => bif t then t43_1 else (.bool false)) fun t44_1 =>
  condT t44_1 (
  bnd (binE .sub t4 (.int .i64 1)) fun t51_1 =>
  bnd (binE .quo t51_1 (.int .i64 2)) fun t52_1 =>
  CallsH Try.prog 16 #[t0, t4, t52_1] h_7 fun t53_1 h_8 =>
  bnd (binE .sub t4 (.int .i64 1)) fun t46_1 =>
  bnd (binE .quo t46_1 (.int .i64 2)) fun t47_1 =>
  (I1 [t47_1] h_8 ∧ μ1 [t47_1] h_8 < μ1 [t4] h_6)) (
  R (.tuple #[]) h_7)
def f9.T (t0 t1 : Value) (h : Hp) (R : Value → Hp → Prop) : Prop :=
  nw h (Value.cells t1) 26 ptr0 fun t3 h_1 =>
  bnd (nilBin .p .eql t0 (.pointer none)) fun t6 =>
  condT t6 (
  R (.tuple #[]) h_1) (
  bnd (nilE t0) fun t9 =>
  bnd (fldE 1 t9) fun t10 =>
  bnd (ldS h_1 t10) fun t11 =>
  bnd (ldA 2 h_1 t3) fun t12 =>
  bnd (nilE t0) fun t14 =>
  bnd (fldE 2 t14) fun t15 =>
  bnd (ldS h_1 t15) fun t16 =>
  bnd ((fillS [(0, 2), (2, 1)] #[(.int .i64 0), (.int .i64 0), (.int .i64 0)] [(0, t12), (1, t16)]).map .agg) fun t17 =>
  bnd (fillR 3 #[(.int .i64 0), (.int .i64 0), (.int .i64 0)] [(0, t17)]) fun c =>
  nw h_1 c 47 (fun b => .slice (some ⟨b, 0, none⟩) 1 1) fun t18 h_2 =>
  efS Try.prog (Go.Builtin.append_ #[43, 43] 43 #[t11, t18]) h_2 fun t19 h_3 =>
  bnd (nilE t0) fun t20 =>
  bnd (fldE 1 t20) fun t21 =>
  bnd (stE 1 h_3 t21 t19) fun h_4 =>
  bnd (nilE t0) fun t23 =>
  bnd (fldE 2 t23) fun t24 =>
  bnd (ldS h_4 t24) fun t25 =>
  bnd (binE .add t25 (.int .i64 1)) fun t26 =>
  bnd (nilE t0) fun t27 =>
  bnd (fldE 2 t27) fun t28 =>
  bnd (stE 1 h_4 t28 t26) fun h_5 =>
  bnd (nilE t0) fun t30 =>
  bnd (fldE 1 t30) fun t31 =>
  bnd (ldS h_5 t31) fun t32 =>
  bnd (lenE t32) fun t33 =>
  bnd (binE .sub t33 (.int .i64 1)) fun t34 =>
  (f9.L1 t34 h_5 t0 R))
theorem f9.eq (t0 t1 : Value) (h : Hp) (R : Value → Hp → Prop) : evC Try.prog (fun i => bif Nat.beq i 5 then [4] else []) (fun _ => []) (Try.f9.body.getD .skip) (env0 [t0, t1]) h (bodyQ Try.prog Try.f9.results.toList R) = f9.T t0 t1 h R := by kernel_rfl
theorem f9.ok {t0 t1 : Value} {h : Hp} {R : Value → Hp → Prop} (k : f9.T t0 t1 h R) : CallsH Try.prog 9 #[t0, t1] h R :=
    calls_of_evC (args := [t0, t1]) (c := Try.f9.body.getD .skip) (fun i => bif Nat.beq i 5 then [4] else []) (fun _ => []) follows_mixed Try.func9 (by kernel_rfl) (by kernel_rfl) (by kernel_rfl)
      (Eq.mpr (f9.eq t0 t1 h R) k)
/- 10 (*trellis/paths.Heap[trellis/trellislaw9.Entry]).Pop -/
def f10.J1 (t55_1 : Value) (I2 : List Value → Hp → Prop) (j8 : Value) (hj : Hp) (μ2 : List Value → Hp → Nat) (t8_1 : Value) (h_11 : Hp) : Prop :=
  bnd (binE .add t55_1 (.int .i64 1)) fun t68_2 =>
  (I2 [j8, t68_2] hj ∧ μ2 [j8, t68_2] hj < μ2 [t8_1, t55_1] h_11)
/- slots [8, 55] -/
  def f10.L2 (t7 : Value) (h_10 : Hp) (t54_1 : Value) (t20 : Value) (t0 : Value) (t6 : Value) (t2 : Value) (R : Value → Hp → Prop) (I1 : List Value → Hp → Prop) (μ1 : List Value → Hp → Nat) : Prop :=
  ∃ (I2 : List Value → Hp → Prop) (μ2 : List Value → Hp → Nat), I2 [t7, (.int .i64 0)] h_10 ∧
  ∀ t56_1 t57_1 t10_1 t58_1 t59_1 t60_1 t61_1 t62_1 t63_1 t64_1 t65_1 t66_1 t67_1 t8_1 t68_1 t55_1 : Value, ∀ (h_11 : Hp), I2 [t8_1, t55_1] h_11 →
  bnd (binE .lss t55_1 (.int .i64 2)) fun t56_2 =>
  condT t56_2 (
  bnd (idxV none 2 1 t54_1 t55_1) fun t57_2 =>
  bnd (binE .lss t57_2 t20) fun t60_2 =>
  guardT (isB t60_2 true) (fun K => CallsH Try.prog 15 #[(bif isB t60_2 true then t0 else undef), (bif isB t60_2 true then t57_2 else undef), (bif isB t60_2 true then t8_1 else undef)] h_11 K) h_11 fun t65_2 h_12 =>
  bnd ((asB t60_2).map fun t => bif t then t65_2 else (.bool false)) fun t66_2 =>
  condT t66_2 (
  (f10.J1 t55_1 I2 t57_2 h_12 μ2 t8_1 h_11)) (
  (f10.J1 t55_1 I2 t8_1 h_12 μ2 t8_1 h_11))) (
  bnd (binE .eql t8_1 t7) fun t71_1 =>
  condT t71_1 (
  bnd (ldA 2 h_11 t6) fun t72_1 =>
  bnd (stE 2 h_11 t2 t72_1) fun h_13 =>
  bnd (ldA 2 h_13 t2) fun r2_1 =>
  R (.tuple #[r2_1, (.bool true)]) h_13) (
  CallsH Try.prog 16 #[t0, t7, t8_1] h_11 fun t76_1 h_14 =>
  (I1 [t8_1] h_14 ∧ μ1 [t8_1] h_14 < μ1 [t7] h_10)))
/- slots [7] -/
  def f10.L1 (h_9 : Hp) (t20 : Value) (t0 : Value) (t6 : Value) (t2 : Value) (R : Value → Hp → Prop) : Prop :=
  ∃ (I1 : List Value → Hp → Prop) (μ1 : List Value → Hp → Nat), I1 [(.int .i64 0)] h_9 ∧
  ∀ t47 t48 t49 t50 t51 t52 t53 t54 t56 t57 t10 t58 t59 t60 t61 t62 t63 t64 t65 t66 t67 t8 t68 t55 t69 t70 t71 t72 t3 t73 t74 t75 t76 t77 t7 : Value, ∀ (h_10 : Hp), I1 [t7] h_10 →
  bnd (binE .mul (.int .i64 2) t7) fun t49_1 =>
  bnd (binE .add t49_1 (.int .i64 1)) fun t50_1 =>
  bnd (binE .mul (.int .i64 2) t7) fun t52_1 =>
  bnd (binE .add t52_1 (.int .i64 2)) fun t53_1 =>
  bnd ((fillR 1 #[(.int .i64 0), (.int .i64 0)] [(0, t50_1), (1, t53_1)]).map .agg) fun t54_1 =>
  (f10.L2 t7 h_10 t54_1 t20 t0 t6 t2 R I1 μ1)
def f10.T (t0 : Value) (h : Hp) (R : Value → Hp → Prop) : Prop :=
  nw h #[(.int .i64 0), (.int .i64 0)] 26 ptr0 fun t2 h_1 =>
  nw h_1 #[(.int .i64 0), (.int .i64 0)] 26 ptr0 fun t4 h_2 =>
  CallsH Try.prog 12 #[t0] h_2 fun t12 h_3 =>
  bnd (binE .eql t12 (.int .i64 0)) fun t13 =>
  condT t13 (
  bnd (ldA 2 h_3 t4) fun t14 =>
  bnd (stE 2 h_3 t2 t14) fun h_4 =>
  bnd (ldA 2 h_4 t2) fun r2 =>
  R (.tuple #[r2, (.bool false)]) h_4) (
  bnd (nilE t0) fun t16 =>
  bnd (fldE 1 t16) fun t17 =>
  bnd (ldS h_3 t17) fun t18 =>
  bnd (lenE t18) fun t19 =>
  bnd (binE .sub t19 (.int .i64 1)) fun t20 =>
  bnd (nilE t0) fun t22 =>
  bnd (fldE 1 t22) fun t23 =>
  bnd (ldS h_3 t23) fun t24 =>
  bnd (idxE 3 t24 (.int .i64 0)) fun t25 =>
  bnd (fldE 0 t25) fun t26 =>
  bnd (ldA 2 h_3 t26) fun t27 =>
  nw h_3 #[(.int .i64 0), (.int .i64 0)] 26 ptr0 fun t6 h_5 =>
  bnd (stE 2 h_5 t6 t27) fun h_6 =>
  CallsH Try.prog 16 #[t0, (.int .i64 0), t20] h_6 fun t30 h_7 =>
  bnd (nilE t0) fun t32 =>
  bnd (fldE 1 t32) fun t33 =>
  bnd (ldS h_7 t33) fun t34 =>
  bnd ((fillS [(0, 2), (2, 1)] #[(.int .i64 0), (.int .i64 0), (.int .i64 0)] []).map .agg) fun t36 =>
  bnd (idxE 3 t34 t20) fun t37 =>
  bnd (stE 3 h_7 t37 t36) fun h_8 =>
  bnd (nilE t0) fun t40 =>
  bnd (fldE 1 t40) fun t41 =>
  bnd (ldS h_8 t41) fun t42 =>
  bnd (sliceE 3 t42 none (some t20)) fun t44 =>
  bnd (nilE t0) fun t45 =>
  bnd (fldE 1 t45) fun t46 =>
  bnd (stE 1 h_8 t46 t44) fun h_9 =>
  (f10.L1 h_9 t20 t0 t6 t2 R))
theorem f10.eq (t0 : Value) (h : Hp) (R : Value → Hp → Prop) : evC Try.prog (fun i => bif Nat.beq i 10 then [7] else bif Nat.beq i 12 then [8, 55] else []) (fun _ => []) (Try.f10.body.getD .skip) (env0 [t0]) h (bodyQ Try.prog Try.f10.results.toList R) = f10.T t0 h R := by kernel_rfl
theorem f10.ok {t0 : Value} {h : Hp} {R : Value → Hp → Prop} (k : f10.T t0 h R) : CallsH Try.prog 10 #[t0] h R :=
    calls_of_evC (args := [t0]) (c := Try.f10.body.getD .skip) (fun i => bif Nat.beq i 10 then [7] else bif Nat.beq i 12 then [8, 55] else []) (fun _ => []) follows_mixed Try.func10 (by kernel_rfl) (by kernel_rfl) (by kernel_rfl)
      (Eq.mpr (f10.eq t0 h R) k)
/- 11 trellis/trellislaw9.pathsFirst -/
def f11.J1 (t6 : Value) (I1 : List Value → Hp → Prop) (j5 : Value) (hj : Hp) (μ1 : List Value → Hp → Nat) (t5 : Value) (h_1 : Hp) : Prop :=
  bnd (binE .add t6 (.int .i64 1)) fun t12_1 =>
  (I1 [j5, t12_1] hj ∧ μ1 [j5, t12_1] hj < μ1 [t5, t6] h_1)
/- slots [5, 6] -/
  def f11.L1 (h : Hp) (t0 : Value) (t1 : Value) (R : Value → Hp → Prop) : Prop :=
  ∃ (I1 : List Value → Hp → Prop) (μ1 : List Value → Hp → Nat), I1 [(.int .i64 (-1)), (.int .i64 0)] h ∧
  ∀ t7 t8 t9 t10 t13 t14 t15 t16 t17 t18 t19 t20 t21 t22 t23 t24 t25 t26 t27 t28 t29 t30 t31 t32 t33 t34 t35 t36 t37 t38 t39 t40 t41 t42 t43 t44 t45 t46 t47 t48 t5 t11 t12 t6 : Value, ∀ (h_1 : Hp), I1 [t5, t6] h_1 →
  bnd (lenE t0) fun t9_1 =>
  bnd (binE .lss t6 t9_1) fun t10_1 =>
  condT t10_1 (
  bnd (binE .lss t5 (.int .i64 0)) fun t14_1 =>
  bnd (bif isB t14_1 false then unE .not (bif isB t14_1 false then t1 else undef) else some undef) fun t17_1 =>
  bnd (bif isB (bif isB t14_1 false then t17_1 else undef) true then idxE 2 (bif isB (bif isB t14_1 false then t17_1 else undef) true then t0 else undef) (bif isB (bif isB t14_1 false then t17_1 else undef) true then t6 else undef) else some undef) fun t21_1 =>
  bnd (bif isB (bif isB t14_1 false then t17_1 else undef) true then fldE 0 t21_1 else some undef) fun t22_1 =>
  bnd (bif isB (bif isB t14_1 false then t17_1 else undef) true then ldS h_1 t22_1 else some undef) fun t23_1 =>
  bnd (bif isB (bif isB t14_1 false then t17_1 else undef) true then idxE 2 (bif isB (bif isB t14_1 false then t17_1 else undef) true then t0 else undef) (bif isB (bif isB t14_1 false then t17_1 else undef) true then t5 else undef) else some undef) fun t26_1 =>
  bnd (bif isB (bif isB t14_1 false then t17_1 else undef) true then fldE 0 t26_1 else some undef) fun t27_1 =>
  bnd (bif isB (bif isB t14_1 false then t17_1 else undef) true then ldS h_1 t27_1 else some undef) fun t28_1 =>
  bnd (bif isB (bif isB t14_1 false then t17_1 else undef) true then binE .lss t23_1 t28_1 else some undef) fun t29_1 =>
  bnd (bif isB t14_1 false then ((asB (bif isB t14_1 false then t17_1 else undef)).map fun t => bif t then t29_1 else (.bool false)) else some undef) fun t30_1 =>
  bnd ((asB t14_1).map fun t => bif t then (.bool true) else t30_1) fun t31_1 =>
  bnd (bif isB (bif isB t31_1 false then (bif isB t31_1 false then t1 else undef) else undef) true then idxE 2 (bif isB (bif isB t31_1 false then (bif isB t31_1 false then t1 else undef) else undef) true then t0 else undef) (bif isB (bif isB t31_1 false then (bif isB t31_1 false then t1 else undef) else undef) true then t6 else undef) else some undef) fun t37_1 =>
  bnd (bif isB (bif isB t31_1 false then (bif isB t31_1 false then t1 else undef) else undef) true then fldE 0 t37_1 else some undef) fun t38_1 =>
  bnd (bif isB (bif isB t31_1 false then (bif isB t31_1 false then t1 else undef) else undef) true then ldS h_1 t38_1 else some undef) fun t39_1 =>
  bnd (bif isB (bif isB t31_1 false then (bif isB t31_1 false then t1 else undef) else undef) true then idxE 2 (bif isB (bif isB t31_1 false then (bif isB t31_1 false then t1 else undef) else undef) true then t0 else undef) (bif isB (bif isB t31_1 false then (bif isB t31_1 false then t1 else undef) else undef) true then t5 else undef) else some undef) fun t42_1 =>
  bnd (bif isB (bif isB t31_1 false then (bif isB t31_1 false then t1 else undef) else undef) true then fldE 0 t42_1 else some undef) fun t43_1 =>
  bnd (bif isB (bif isB t31_1 false then (bif isB t31_1 false then t1 else undef) else undef) true then ldS h_1 t43_1 else some undef) fun t44_1 =>
  bnd (bif isB (bif isB t31_1 false then (bif isB t31_1 false then t1 else undef) else undef) true then binE .gtr t39_1 t44_1 else some undef) fun t45_1 =>
  bnd (bif isB t31_1 false then ((asB (bif isB t31_1 false then (bif isB t31_1 false then t1 else undef) else undef)).map fun t => bif t then t45_1 else (.bool false)) else some undef) fun t46_1 =>
  bnd ((asB t31_1).map fun t => bif t then (.bool true) else t46_1) fun t47_1 =>
  condT t47_1 (
  (f11.J1 t6 I1 t6 h_1 μ1 t5 h_1)) (
  (f11.J1 t6 I1 t5 h_1 μ1 t5 h_1))) (
  R t5 h_1)
def f11.T (t0 t1 : Value) (h : Hp) (R : Value → Hp → Prop) : Prop :=
  (f11.L1 h t0 t1 R)
theorem f11.eq (t0 t1 : Value) (h : Hp) (R : Value → Hp → Prop) : evC Try.prog (fun i => bif Nat.beq i 3 then [5, 6] else []) (fun _ => []) (Try.f11.body.getD .skip) (env0 [t0, t1]) h (bodyQ Try.prog Try.f11.results.toList R) = f11.T t0 t1 h R := by kernel_rfl
theorem f11.ok {t0 t1 : Value} {h : Hp} {R : Value → Hp → Prop} (k : f11.T t0 t1 h R) : CallsH Try.prog 11 #[t0, t1] h R :=
    calls_of_evC (args := [t0, t1]) (c := Try.f11.body.getD .skip) (fun i => bif Nat.beq i 3 then [5, 6] else []) (fun _ => []) follows_mixed Try.func11 (by kernel_rfl) (by kernel_rfl) (by kernel_rfl)
      (Eq.mpr (f11.eq t0 t1 h R) k)
/- 12 (*trellis/paths.Heap[trellis/trellislaw9.Entry]).Len -/
def f12.T (t0 : Value) (h : Hp) (R : Value → Hp → Prop) : Prop :=
  bnd (nilBin .p .eql t0 (.pointer none)) fun t4 =>
  condT t4 (
  R (.int .i64 0) h) (
  bnd (nilE t0) fun t6 =>
  bnd (fldE 1 t6) fun t7 =>
  bnd (ldS h t7) fun t8 =>
  bnd (lenE t8) fun t9 =>
  R t9 h)
theorem f12.eq (t0 : Value) (h : Hp) (R : Value → Hp → Prop) : evC Try.prog (fun _ => []) (fun _ => []) (Try.f12.body.getD .skip) (env0 [t0]) h (bodyQ Try.prog Try.f12.results.toList R) = f12.T t0 h R := by kernel_rfl
theorem f12.ok {t0 : Value} {h : Hp} {R : Value → Hp → Prop} (k : f12.T t0 h R) : CallsH Try.prog 12 #[t0] h R :=
    calls_of_evC (args := [t0]) (c := Try.f12.body.getD .skip) (fun _ => []) (fun _ => []) follows_mixed Try.func12 (by kernel_rfl) (by kernel_rfl) (by kernel_rfl)
      (Eq.mpr (f12.eq t0 h R) k)
/- 13 trellis/trellislaw9.PathsSorted$1 -/
def f13.T (t0 t1 : Value) (h : Hp) (R : Value → Hp → Prop) : Prop :=
  nw h (Value.cells t0) 26 ptr0 fun t2 h_1 =>
  nw h_1 (Value.cells t1) 26 ptr0 fun t3 h_2 =>
  bnd (fldE 0 t2) fun t5 =>
  bnd (ldS h_2 t5) fun t6 =>
  bnd (fldE 0 t3) fun t7 =>
  bnd (ldS h_2 t7) fun t8 =>
  bnd (binE .lss t6 t8) fun t9 =>
  R t9 h_2
theorem f13.eq (t0 t1 : Value) (h : Hp) (R : Value → Hp → Prop) : evC Try.prog (fun _ => []) (fun _ => []) (Try.f13.body.getD .skip) (env0 [t0, t1]) h (bodyQ Try.prog Try.f13.results.toList R) = f13.T t0 t1 h R := by kernel_rfl
theorem f13.ok {t0 t1 : Value} {h : Hp} {R : Value → Hp → Prop} (k : f13.T t0 t1 h R) : CallsH Try.prog 13 #[t0, t1] h R :=
    calls_of_evC (args := [t0, t1]) (c := Try.f13.body.getD .skip) (fun _ => []) (fun _ => []) follows_mixed Try.func13 (by kernel_rfl) (by kernel_rfl) (by kernel_rfl)
      (Eq.mpr (f13.eq t0 t1 h R) k)
/- 14 trellis/trellislaw9.PathsOnce$1 -/
def f14.T (t0 t1 t2 : Value) (h : Hp) (R : Value → Hp → Prop) : Prop :=
  nw h (Value.cells t0) 26 ptr0 fun t3 h_1 =>
  nw h_1 (Value.cells t1) 26 ptr0 fun t4 h_2 =>
  bnd (ldS h_2 t2) fun t6 =>
  bnd (lenE t6) fun t7 =>
  bnd (binE .eql t7 (.int .i64 0)) fun t8 =>
  condT t8 (
  R (.bool false) h_2) (
  bnd (ldS h_2 t2) fun t9 =>
  bnd (fldE 0 t3) fun t10 =>
  bnd (ldS h_2 t10) fun t11 =>
  bnd (binE .and t11 (.int .i64 7)) fun t12 =>
  bnd (binE .mul t12 (.int .i64 8)) fun t13 =>
  bnd (fldE 0 t4) fun t14 =>
  bnd (ldS h_2 t14) fun t15 =>
  bnd (binE .and t15 (.int .i64 7)) fun t16 =>
  bnd (binE .add t13 t16) fun t17 =>
  bnd (ldS h_2 t2) fun t18 =>
  bnd (lenE t18) fun t19 =>
  bnd (binE .rem t17 t19) fun t20 =>
  bnd (idxE 1 t9 t20) fun t21 =>
  bnd (ldS h_2 t21) fun t22 =>
  R t22 h_2)
theorem f14.eq (t0 t1 t2 : Value) (h : Hp) (R : Value → Hp → Prop) : evC Try.prog (fun _ => []) (fun _ => []) (Try.f14.body.getD .skip) (env0 [t0, t1, t2]) h (bodyQ Try.prog Try.f14.results.toList R) = f14.T t0 t1 t2 h R := by kernel_rfl
theorem f14.ok {t0 t1 t2 : Value} {h : Hp} {R : Value → Hp → Prop} (k : f14.T t0 t1 t2 h R) : CallsH Try.prog 14 #[t0, t1, t2] h R :=
    calls_of_evC (args := [t0, t1, t2]) (c := Try.f14.body.getD .skip) (fun _ => []) (fun _ => []) follows_mixed Try.func14 (by kernel_rfl) (by kernel_rfl) (by kernel_rfl)
      (Eq.mpr (f14.eq t0 t1 t2 h R) k)
/- 15 (*trellis/paths.Heap[trellis/trellislaw9.Entry]).ahead -/
def f15.J1 (t0 : Value) (hj : Hp) (j7 : Value) (j8 : Value) (R : Value → Hp → Prop) : Prop :=
  bnd (nilE t0) fun t24 =>
  bnd (fldE 0 t24) fun t25 =>
  bnd (ldS hj t25) fun t26 =>
  bnd (fldE 0 j7) fun t27 =>
  bnd (ldA 2 hj t27) fun t28 =>
  bnd (fldE 0 j8) fun t29 =>
  bnd (ldA 2 hj t29) fun t30 =>
  callV Try.prog t26 #[t28, t30] hj fun t31 h_1 =>
  condT t31 (
  R (.bool true) h_1) (
  bnd (fldE 2 j7) fun t32 =>
  bnd (ldS h_1 t32) fun t33 =>
  bnd (fldE 2 j8) fun t34 =>
  bnd (ldS h_1 t34) fun t35 =>
  bnd (binE .lss t33 t35) fun t36 =>
  bnd (bif isB t36 true then nilE (bif isB t36 true then t0 else undef) else some undef) fun t39 =>
  bnd (bif isB t36 true then fldE 0 t39 else some undef) fun t40 =>
  bnd (bif isB t36 true then ldS h_1 t40 else some undef) fun t41 =>
  bnd (bif isB t36 true then fldE 0 j8 else some undef) fun t42 =>
  bnd (bif isB t36 true then ldA 2 h_1 t42 else some undef) fun t43 =>
  bnd (bif isB t36 true then fldE 0 j7 else some undef) fun t44 =>
  bnd (bif isB t36 true then ldA 2 h_1 t44 else some undef) fun t45 =>
  guardT (isB t36 true) (fun K => callV Try.prog t41 #[t43, t45] h_1 K) h_1 fun t46 h_2 =>
  bnd (bif isB t36 true then unE .not t46 else some undef) fun t47 =>
  bnd ((asB t36).map fun t => bif t then t47 else (.bool false)) fun t48 =>
  R t48 h_2)
def f15.T (t0 t1 t2 : Value) (h : Hp) (R : Value → Hp → Prop) : Prop :=
  (bnd (nilE t0) fun t10 =>
  bnd (fldE 1 t10) fun t11 =>
  bnd (ldS h t11) fun t12 =>
  bnd (idxE 3 t12 t1) fun t14 =>
  bnd (ldA 3 h t14) fun t15 =>
  bnd (nilE t0) fun t17 =>
  bnd (fldE 1 t17) fun t18 =>
  bnd (ldS h t18) fun t19 =>
  bnd (idxE 3 t19 t2) fun t21 =>
  bnd (ldA 3 h t21) fun t22 =>
  nw h #[(.int .i64 0), (.int .i64 0), (.int .i64 0)] 47 ptr0 fun t7 h_3 =>
  nw h_3 #[(.int .i64 0), (.int .i64 0), (.int .i64 0)] 47 ptr0 fun t8 h_4 =>
  bnd (stE 3 h_4 t7 t15) fun h_5 =>
  bnd (stE 3 h_5 t8 t22) fun h_6 =>
  (f15.J1 t0 h_6 t7 t8 R)) ∧
  (bnd (nilE t0) fun t10_1 =>
  bnd (fldE 1 t10_1) fun t11_1 =>
  bnd (ldS h t11_1) fun t12_1 =>
  bnd (idxE 3 t12_1 t1) fun t14_1 =>
  bnd (ldA 3 h t14_1) fun t15_1 =>
  bnd (nilE t0) fun t17_1 =>
  bnd (fldE 1 t17_1) fun t18_1 =>
  bnd (ldS h t18_1) fun t19_1 =>
  bnd (idxE 3 t19_1 t2) fun t21_1 =>
  bnd (ldA 3 h t21_1) fun t22_1 =>
  nw h #[(.int .i64 0), (.int .i64 0), (.int .i64 0)] 47 ptr0 fun t8_1 h_7 =>
  nw h_7 #[(.int .i64 0), (.int .i64 0), (.int .i64 0)] 47 ptr0 fun t7_1 h_8 =>
  bnd (stE 3 h_8 t7_1 t15_1) fun h_9 =>
  bnd (stE 3 h_9 t8_1 t22_1) fun h_10 =>
  (f15.J1 t0 h_10 t7_1 t8_1 R)) ∧
  (bnd (nilE t0) fun t10_2 =>
  bnd (fldE 1 t10_2) fun t11_2 =>
  bnd (ldS h t11_2) fun t12_2 =>
  bnd (idxE 3 t12_2 t1) fun t14_2 =>
  bnd (ldA 3 h t14_2) fun t15_2 =>
  bnd (nilE t0) fun t17_2 =>
  bnd (fldE 1 t17_2) fun t18_2 =>
  bnd (ldS h t18_2) fun t19_2 =>
  bnd (idxE 3 t19_2 t2) fun t21_2 =>
  nw h #[(.int .i64 0), (.int .i64 0), (.int .i64 0)] 47 ptr0 fun t7_2 h_11 =>
  nw h_11 #[(.int .i64 0), (.int .i64 0), (.int .i64 0)] 47 ptr0 fun t8_2 h_12 =>
  bnd (stE 3 h_12 t7_2 t15_2) fun h_13 =>
  bnd (ldA 3 h_13 t21_2) fun t22_2 =>
  bnd (stE 3 h_13 t8_2 t22_2) fun h_14 =>
  (f15.J1 t0 h_14 t7_2 t8_2 R)) ∧
  (bnd (nilE t0) fun t10_3 =>
  bnd (fldE 1 t10_3) fun t11_3 =>
  bnd (ldS h t11_3) fun t12_3 =>
  bnd (idxE 3 t12_3 t1) fun t14_3 =>
  bnd (ldA 3 h t14_3) fun t15_3 =>
  bnd (nilE t0) fun t17_3 =>
  bnd (fldE 1 t17_3) fun t18_3 =>
  bnd (ldS h t18_3) fun t19_3 =>
  bnd (idxE 3 t19_3 t2) fun t21_3 =>
  nw h #[(.int .i64 0), (.int .i64 0), (.int .i64 0)] 47 ptr0 fun t8_3 h_15 =>
  nw h_15 #[(.int .i64 0), (.int .i64 0), (.int .i64 0)] 47 ptr0 fun t7_3 h_16 =>
  bnd (stE 3 h_16 t7_3 t15_3) fun h_17 =>
  bnd (ldA 3 h_17 t21_3) fun t22_3 =>
  bnd (stE 3 h_17 t8_3 t22_3) fun h_18 =>
  (f15.J1 t0 h_18 t7_3 t8_3 R)) ∧
  (bnd (nilE t0) fun t10_4 =>
  bnd (fldE 1 t10_4) fun t11_4 =>
  bnd (ldS h t11_4) fun t12_4 =>
  bnd (idxE 3 t12_4 t1) fun t14_4 =>
  bnd (ldA 3 h t14_4) fun t15_4 =>
  bnd (nilE t0) fun t17_4 =>
  bnd (fldE 1 t17_4) fun t18_4 =>
  nw h #[(.int .i64 0), (.int .i64 0), (.int .i64 0)] 47 ptr0 fun t7_4 h_19 =>
  nw h_19 #[(.int .i64 0), (.int .i64 0), (.int .i64 0)] 47 ptr0 fun t8_4 h_20 =>
  bnd (stE 3 h_20 t7_4 t15_4) fun h_21 =>
  bnd (ldS h_21 t18_4) fun t19_4 =>
  bnd (idxE 3 t19_4 t2) fun t21_4 =>
  bnd (ldA 3 h_21 t21_4) fun t22_4 =>
  bnd (stE 3 h_21 t8_4 t22_4) fun h_22 =>
  (f15.J1 t0 h_22 t7_4 t8_4 R)) ∧
  (bnd (nilE t0) fun t10_5 =>
  bnd (fldE 1 t10_5) fun t11_5 =>
  bnd (ldS h t11_5) fun t12_5 =>
  bnd (idxE 3 t12_5 t1) fun t14_5 =>
  bnd (ldA 3 h t14_5) fun t15_5 =>
  bnd (nilE t0) fun t17_5 =>
  bnd (fldE 1 t17_5) fun t18_5 =>
  nw h #[(.int .i64 0), (.int .i64 0), (.int .i64 0)] 47 ptr0 fun t8_5 h_23 =>
  nw h_23 #[(.int .i64 0), (.int .i64 0), (.int .i64 0)] 47 ptr0 fun t7_5 h_24 =>
  bnd (stE 3 h_24 t7_5 t15_5) fun h_25 =>
  bnd (ldS h_25 t18_5) fun t19_5 =>
  bnd (idxE 3 t19_5 t2) fun t21_5 =>
  bnd (ldA 3 h_25 t21_5) fun t22_5 =>
  bnd (stE 3 h_25 t8_5 t22_5) fun h_26 =>
  (f15.J1 t0 h_26 t7_5 t8_5 R))
theorem f15.eq (t0 t1 t2 : Value) (h : Hp) (R : Value → Hp → Prop) : evC Try.prog (fun _ => []) (fun i => bif Nat.beq i 1 then [[0, 1, 2, 3, 4, 5, 6, 7, 8, 9, 10, 11, 12, 13, 14, 15, 16, 17], [0, 1, 2, 3, 4, 5, 6, 7, 8, 9, 10, 11, 12, 13, 15, 14, 16, 17], [0, 1, 2, 3, 4, 5, 6, 7, 8, 9, 10, 11, 12, 14, 15, 16, 13, 17], [0, 1, 2, 3, 4, 5, 6, 7, 8, 9, 10, 11, 12, 15, 14, 16, 13, 17], [0, 1, 2, 3, 4, 5, 6, 7, 8, 9, 11, 14, 15, 16, 10, 12, 13, 17], [0, 1, 2, 3, 4, 5, 6, 7, 8, 9, 11, 15, 14, 16, 10, 12, 13, 17]] else []) (Try.f15.body.getD .skip) (env0 [t0, t1, t2]) h (bodyQ Try.prog Try.f15.results.toList R) = f15.T t0 t1 t2 h R := by kernel_rfl
theorem f15.ok {t0 t1 t2 : Value} {h : Hp} {R : Value → Hp → Prop} (k : f15.T t0 t1 t2 h R) : CallsH Try.prog 15 #[t0, t1, t2] h R :=
    calls_of_evC (args := [t0, t1, t2]) (c := Try.f15.body.getD .skip) (fun _ => []) (fun i => bif Nat.beq i 1 then [[0, 1, 2, 3, 4, 5, 6, 7, 8, 9, 10, 11, 12, 13, 14, 15, 16, 17], [0, 1, 2, 3, 4, 5, 6, 7, 8, 9, 10, 11, 12, 13, 15, 14, 16, 17], [0, 1, 2, 3, 4, 5, 6, 7, 8, 9, 10, 11, 12, 14, 15, 16, 13, 17], [0, 1, 2, 3, 4, 5, 6, 7, 8, 9, 10, 11, 12, 15, 14, 16, 13, 17], [0, 1, 2, 3, 4, 5, 6, 7, 8, 9, 11, 14, 15, 16, 10, 12, 13, 17], [0, 1, 2, 3, 4, 5, 6, 7, 8, 9, 11, 15, 14, 16, 10, 12, 13, 17]] else []) follows_mixed Try.func15 (by kernel_rfl) (by kernel_rfl) (by kernel_rfl)
      (Eq.mpr (f15.eq t0 t1 t2 h R) k)
/- 16 (*trellis/paths.Heap[trellis/trellislaw9.Entry]).swap -/
def f16.T (t0 t1 t2 : Value) (h : Hp) (R : Value → Hp → Prop) : Prop :=
  bnd (nilE t0) fun t7 =>
  bnd (fldE 1 t7) fun t8 =>
  bnd (ldS h t8) fun t9 =>
  bnd (nilE t0) fun t12 =>
  bnd (fldE 1 t12) fun t13 =>
  bnd (ldS h t13) fun t14 =>
  bnd (nilE t0) fun t17 =>
  bnd (fldE 1 t17) fun t18 =>
  bnd (ldS h t18) fun t19 =>
  bnd (idxE 3 t19 t2) fun t21 =>
  bnd (ldA 3 h t21) fun t22 =>
  bnd (nilE t0) fun t24 =>
  bnd (fldE 1 t24) fun t25 =>
  bnd (ldS h t25) fun t26 =>
  bnd (idxE 3 t26 t1) fun t28 =>
  bnd (ldA 3 h t28) fun t29 =>
  bnd (idxE 3 t9 t1) fun t30 =>
  bnd (stE 3 h t30 t22) fun h_1 =>
  bnd (idxE 3 t14 t2) fun t31 =>
  bnd (stE 3 h_1 t31 t29) fun h_2 =>
  R (.tuple #[]) h_2
theorem f16.eq (t0 t1 t2 : Value) (h : Hp) (R : Value → Hp → Prop) : evC Try.prog (fun _ => []) (fun _ => []) (Try.f16.body.getD .skip) (env0 [t0, t1, t2]) h (bodyQ Try.prog Try.f16.results.toList R) = f16.T t0 t1 t2 h R := by kernel_rfl
theorem f16.ok {t0 t1 t2 : Value} {h : Hp} {R : Value → Hp → Prop} (k : f16.T t0 t1 t2 h R) : CallsH Try.prog 16 #[t0, t1, t2] h R :=
    calls_of_evC (args := [t0, t1, t2]) (c := Try.f16.body.getD .skip) (fun _ => []) (fun _ => []) follows_mixed Try.func16 (by kernel_rfl) (by kernel_rfl) (by kernel_rfl)
      (Eq.mpr (f16.eq t0 t1 t2 h R) k)
end Go.Proofs.Ytkiakofohkecaaa
