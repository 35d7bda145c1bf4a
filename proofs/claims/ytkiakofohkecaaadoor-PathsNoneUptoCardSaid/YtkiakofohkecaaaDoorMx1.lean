/- Each Go function as a formula over the heap, printed by a program of this claim, and that a call does what the formula says. No condition. -/
import Derived.Test.YtkiakofohkecaaaDoorE1
set_option linter.unusedVariables false
set_option maxRecDepth 100000
namespace Go.Proofs.YtkiakofohkecaaaDoor
open Go Go.Fw
/- 6 trellis/trellislaw9.PathsNear -/
/- slots [21, 22] -/
  def f6.L3 (h_10 : Hp) (t46 : Value) (t29 : Value) (t17 : Value) (t135_1 : Value) (t134_1 : Value) (t133_1 : Value) (t2 : Value) (R : Value → Hp → Prop) (I2 : List Value → Hp → Prop) (μ2 : List Value → Hp → Nat) (h_9 : Hp) : Prop :=
  ∃ (I3 : List Value → Hp → Prop) (μ3 : List Value → Hp → Nat), I3 [(.bool false), (.int .i64 0)] h_10 ∧
  ∀ t136_1 t137_1 t138_1 t139_1 t142_1 t143_1 t144_1 t145_1 t146_1 t147_1 t148_1 t149_1 t150_1 t151_1 t152_1 t153_1 t21_1 t140_1 t141_1 t22_1 : Value, ∀ (h_11 : Hp), I3 [t21_1, t22_1] h_11 →
  bnd (lenE t46) fun t138_2 =>
  bnd (binE .lss t22_1 t138_2) fun t139_2 =>
  condT t139_2 (
  bnd (bif isB t21_1 false then idxE 1 (bif isB t21_1 false then t46 else undef) (bif isB t21_1 false then t22_1 else undef) else some undef) fun t146_2 =>
  bnd (bif isB t21_1 false then ldS h_11 t146_2 else some undef) fun t147_2 =>
  bnd (bif isB t21_1 false then idxE 1 (bif isB t21_1 false then t29 else undef) (bif isB t21_1 false then t17 else undef) else some undef) fun t150_2 =>
  bnd (bif isB t21_1 false then ldS h_11 t150_2 else some undef) fun t151_2 =>
  bnd (bif isB t21_1 false then binE .eql t147_2 t151_2 else some undef) fun t152_2 =>
  bnd ((asB t21_1).map fun t => bif t then (.bool true) else t152_2) fun t153_2 =>
  bnd (binE .add t22_1 (.int .i64 1)) fun t141_2 =>
  (I3 [t153_2, t141_2] h_11 ∧ μ3 [t153_2, t141_2] h_11 < μ3 [t21_1, t22_1] h_11)) (
  bnd (binE .neq t135_1 (.int .i64 0)) fun t155_1 =>
  bnd (bif isB (bif isB t155_1 false then (bif isB t155_1 false then t134_1 else undef) else undef) true then binE .leq (bif isB (bif isB t155_1 false then (bif isB t155_1 false then t134_1 else undef) else undef) true then t133_1 else undef) (bif isB (bif isB t155_1 false then (bif isB t155_1 false then t134_1 else undef) else undef) true then t2 else undef) else some undef) fun t162_1 =>
  bnd (bif isB t155_1 false then ((asB (bif isB t155_1 false then (bif isB t155_1 false then t134_1 else undef) else undef)).map fun t => bif t then t162_1 else (.bool false)) else some undef) fun t163_1 =>
  bnd (bif isB t155_1 false then binB .neq (bif isB t155_1 false then t21_1 else undef) t163_1 else some undef) fun t164_1 =>
  bnd ((asB t155_1).map fun t => bif t then (.bool true) else t164_1) fun t165_1 =>
  condT t165_1 (
  R (.bool false) h_11) (
  bnd (binE .add t17 (.int .i64 1)) fun t123_1 =>
  (I2 [t123_1] h_11 ∧ μ2 [t123_1] h_11 < μ2 [t17] h_9)))
/- slots [17] -/
  def f6.L2 (h_7 : Hp) (t29 : Value) (t39 : Value) (t1 : Value) (t46 : Value) (t2 : Value) (R : Value → Hp → Prop) : Prop :=
  ∃ (I2 : List Value → Hp → Prop) (μ2 : List Value → Hp → Nat), I2 [(.int .i64 0)] h_7 ∧
  ∀ t118 t119 t120 t121 t125 t126 t127 t128 t129 t130 t131 t132 t124 t133 t134 t135 t18 t19 t20 t136 t137 t138 t139 t142 t143 t144 t145 t146 t147 t148 t149 t150 t151 t152 t153 t21 t140 t141 t22 t154 t155 t156 t157 t158 t159 t160 t161 t162 t163 t164 t165 t6_1 t122 t123 t17 : Value, ∀ (h_9 : Hp), I2 [t17] h_9 →
  bnd (lenE t29) fun t120_1 =>
  bnd (binE .lss t17 t120_1) fun t121_1 =>
  condT t121_1 (
  bnd (idxE 1 t29 t17) fun t130_1 =>
  bnd (ldS h_9 t130_1) fun t131_1 =>
  CallsH Tryd.prog 18 #[(.func (.func 19) #[t39] #[]), t1, t131_1] h_9 fun t132_1 h_10 =>
  bnd (extE 0 t132_1) fun t133_1 =>
  bnd (extE 1 t132_1) fun t134_1 =>
  bnd (extE 2 t132_1) fun t135_1 =>
  (f6.L3 h_10 t46 t29 t17 t135_1 t134_1 t133_1 t2 R I2 μ2 h_9)) (
  R (.bool true) h_9)
/- slots [12, 13] -/
  def f6.L1 (h_6 : Hp) (t46 : Value) (t39 : Value) (t1 : Value) (t2 : Value) (R : Value → Hp → Prop) (t29 : Value) : Prop :=
  ∃ (I1 : List Value → Hp → Prop) (μ1 : List Value → Hp → Nat), I1 [(.int .i64 0), (.int .i64 0)] h_6 ∧
  ∀ t62 t63 t64 t65 t69 t70 t71 t72 t73 t74 t75 t76 t68 t77 t78 t79 t14 t15 t16 t80 t81 t82 t83 t84 t85 t86 t87 t88 t89 t90 t91 t92 t93 t94 t95 t96 t97 t98 t99 t100 t101 t102 t103 t104 t105 t106 t107 t108 t109 t110 t111 t112 t113 t114 t115 t116 t6 t117 t12 t66 t67 t13 : Value, ∀ (h_7 : Hp), I1 [t12, t13] h_7 →
  bnd (lenE t46) fun t64_1 =>
  bnd (binE .lss t13 t64_1) fun t65_1 =>
  condT t65_1 (
  bnd (idxE 1 t46 t13) fun t74_1 =>
  bnd (ldS h_7 t74_1) fun t75_1 =>
  CallsH Tryd.prog 18 #[(.func (.func 19) #[t39] #[]), t1, t75_1] h_7 fun t76_1 h_8 =>
  bnd (extE 0 t76_1) fun t77_1 =>
  bnd (extE 1 t76_1) fun t78_1 =>
  bnd (extE 2 t76_1) fun t79_1 =>
  bnd (binE .neq t79_1 (.int .i64 0)) fun t81_1 =>
  bnd (bif isB t81_1 false then unE .not (bif isB t81_1 false then t78_1 else undef) else some undef) fun t84_1 =>
  bnd ((asB t81_1).map fun t => bif t then (.bool true) else t84_1) fun t85_1 =>
  bnd (bif isB t85_1 false then binE .gtr (bif isB t85_1 false then t77_1 else undef) (bif isB t85_1 false then t2 else undef) else some undef) fun t89_1 =>
  bnd ((asB t85_1).map fun t => bif t then (.bool true) else t89_1) fun t90_1 =>
  bnd (bif isB t90_1 false then binE .lss (bif isB t90_1 false then t77_1 else undef) (bif isB t90_1 false then t12 else undef) else some undef) fun t94_1 =>
  bnd ((asB t90_1).map fun t => bif t then (.bool true) else t94_1) fun t95_1 =>
  bnd (bif isB t95_1 false then binE .gtr (bif isB t95_1 false then t13 else undef) (.int .i64 0) else some undef) fun t98_1 =>
  bnd (bif isB (bif isB t95_1 false then t98_1 else undef) true then binE .eql (bif isB (bif isB t95_1 false then t98_1 else undef) true then t77_1 else undef) (bif isB (bif isB t95_1 false then t98_1 else undef) true then t12 else undef) else some undef) fun t102_1 =>
  bnd (bif isB t95_1 false then ((asB (bif isB t95_1 false then t98_1 else undef)).map fun t => bif t then t102_1 else (.bool false)) else some undef) fun t103_1 =>
  bnd (bif isB (bif isB t95_1 false then t103_1 else undef) true then binE .sub (bif isB (bif isB t95_1 false then t103_1 else undef) true then t13 else undef) (.int .i64 1) else some undef) fun t107_1 =>
  bnd (bif isB (bif isB t95_1 false then t103_1 else undef) true then idxE 1 (bif isB (bif isB t95_1 false then t103_1 else undef) true then t46 else undef) t107_1 else some undef) fun t108_1 =>
  bnd (bif isB (bif isB t95_1 false then t103_1 else undef) true then ldS h_8 t108_1 else some undef) fun t109_1 =>
  bnd (bif isB (bif isB t95_1 false then t103_1 else undef) true then idxE 1 (bif isB (bif isB t95_1 false then t103_1 else undef) true then t46 else undef) (bif isB (bif isB t95_1 false then t103_1 else undef) true then t13 else undef) else some undef) fun t112_1 =>
  bnd (bif isB (bif isB t95_1 false then t103_1 else undef) true then ldS h_8 t112_1 else some undef) fun t113_1 =>
  bnd (bif isB (bif isB t95_1 false then t103_1 else undef) true then binE .geq t109_1 t113_1 else some undef) fun t114_1 =>
  bnd (bif isB t95_1 false then ((asB (bif isB t95_1 false then t103_1 else undef)).map fun t => bif t then t114_1 else (.bool false)) else some undef) fun t115_1 =>
  bnd ((asB t95_1).map fun t => bif t then (.bool true) else t115_1) fun t116_1 =>
  condT t116_1 (
  R (.bool false) h_8) (
  bnd (binE .add t13 (.int .i64 1)) fun t67_1 =>
  (I1 [t77_1, t67_1] h_8 ∧ μ1 [t77_1, t67_1] h_8 < μ1 [t12, t13] h_7))) (
  (f6.L2 h_7 t29 t39 t1 t46 t2 R))
def f6.T (t0 t1 t2 : Value) (h : Hp) (R : Value → Hp → Prop) : Prop :=
  CallsH Tryd.prog 26 #[t0] h fun t24 h_1 =>
  bnd ((fillS [(0, 1), (1, 1)] #[(.slice none 0 0), (.bool false)] [(0, t24)]).map .agg) fun t25 =>
  nw h_1 #[(.slice none 0 0), (.bool false)] 26 ptr0 fun t7 h_2 =>
  bnd (stE 2 h_2 t7 t25) fun h_3 =>
  bnd (fldE 0 t7) fun t26 =>
  bnd (ldS h_3 t26) fun t27 =>
  CallsH Tryd.prog 27 #[t27, t1] h_3 fun t29 h_4 =>
  bnd (lenE t29) fun t31 =>
  bnd (binE .gtr t31 (.int .i64 1000)) fun t32 =>
  bnd (bif isB t32 false then binE .lss (bif isB t32 false then t2 else undef) (.int .i64 0) else some undef) fun t35 =>
  bnd ((asB t32).map fun t => bif t then (.bool true) else t35) fun t36 =>
  condT t36 (
  R (.bool true) h_4) (
  bnd (ldA 2 h_4 t7) fun t37 =>
  bnd ((fillS [(0, 2), (2, 1), (3, 1)] #[(.slice none 0 0), (.bool false), (.slice none 0 0), (.slice none 0 0)] [(0, t37)]).map .agg) fun t38 =>
  nw h_4 (Value.cells t38) 31 ptr0 fun t39 h_5 =>
  CallsH Tryd.prog 22 #[(.func (.func 19) #[t39] #[]), t1, t2] h_5 fun t45 h_6 =>
  bnd (extE 0 t45) fun t46 =>
  bnd (extE 1 t45) fun t47 =>
  bnd (binE .neq t47 (.int .i64 0)) fun t49 =>
  bnd (bif isB t49 false then lenE (bif isB t49 false then t46 else undef) else some undef) fun t52 =>
  bnd (bif isB t49 false then binE .lss t52 (.int .i64 1) else some undef) fun t53 =>
  bnd ((asB t49).map fun t => bif t then (.bool true) else t53) fun t54 =>
  bnd (bif isB t54 false then idxE 1 (bif isB t54 false then t46 else undef) (.int .i64 0) else some undef) fun t57 =>
  bnd (bif isB t54 false then ldS h_6 t57 else some undef) fun t58 =>
  bnd (bif isB t54 false then binE .neq t58 (bif isB t54 false then t1 else undef) else some undef) fun t60 =>
  bnd ((asB t54).map fun t => bif t then (.bool true) else t60) fun t61 =>
  condT t61 (
  R (.bool false) h_6) (
  (f6.L1 h_6 t46 t39 t1 t2 R t29)))
theorem f6.eq (t0 t1 t2 : Value) (h : Hp) (R : Value → Hp → Prop) : evC Tryd.prog (fun i => bif Nat.beq i 11 then [12, 13] else bif Nat.beq i 18 then [17] else bif Nat.beq i 23 then [21, 22] else []) (fun _ => []) (Tryd.f6.body.getD .skip) (env0 [t0, t1, t2]) h (bodyQ Tryd.prog Tryd.f6.results.toList R) = f6.T t0 t1 t2 h R := by kernel_rfl
theorem f6.ok {t0 t1 t2 : Value} {h : Hp} {R : Value → Hp → Prop} (k : f6.T t0 t1 t2 h R) : CallsH Tryd.prog 6 #[t0, t1, t2] h R :=
    calls_of_evC (args := [t0, t1, t2]) (c := Tryd.f6.body.getD .skip) (fun i => bif Nat.beq i 11 then [12, 13] else bif Nat.beq i 18 then [17] else bif Nat.beq i 23 then [21, 22] else []) (fun _ => []) follows_mixed Tryd.func6 (by kernel_rfl) (by kernel_rfl) (by kernel_rfl)
      (Eq.mpr (f6.eq t0 t1 t2 h R) k)
/- 26 trellis/trellislaw9.pathsMild -/
/- slots [6] -/
  def f26.L2 (h_3 : Hp) (t0 : Value) (t4 : Value) (t5_1 : Value) (t3 : Value) (I1 : List Value → Hp → Prop) (μ1 : List Value → Hp → Nat) (h_1 : Hp) : Prop :=
  ∃ (I2 : List Value → Hp → Prop) (μ2 : List Value → Hp → Nat), I2 [(.int .i64 0)] h_3 ∧
  ∀ t20_1 t21_1 t22_1 t23_1 t24_1 t25_1 t26_1 t27_1 t30_1 t31_1 t32_1 t33_1 t34_1 t35_1 t36_1 t37_1 t7_1 t38_1 t39_1 t40_1 t41_1 t42_1 t43_1 t44_1 t45_1 t46_1 t47_1 t28_1 t29_1 t6_1 : Value, ∀ (h_4 : Hp), I2 [t6_1] h_4 →
  bnd (idxE 3 t0 t4) fun t23_2 =>
  bnd (fldE 1 t23_2) fun t24_2 =>
  bnd (ldS h_4 t24_2) fun t25_2 =>
  bnd (lenE t25_2) fun t26_2 =>
  bnd (binE .lss t6_1 t26_2) fun t27_2 =>
  condT t27_2 (
  bnd (idxE 3 t0 t4) fun t32_2 =>
  bnd (fldE 1 t32_2) fun t33_2 =>
  bnd (ldS h_4 t33_2) fun t34_2 =>
  bnd (idxE 3 t34_2 t6_1) fun t36_2 =>
  bnd (ldA 3 h_4 t36_2) fun t37_2 =>
  nw h_4 #[(.int .i64 0), (.int .i64 0), (.int .i64 0)] 62 ptr0 fun t7_2 h_5 =>
  bnd (stE 3 h_5 t7_2 t37_2) fun h_6 =>
  bnd (fldE 2 t7_2) fun t38_2 =>
  bnd (ldS h_6 t38_2) fun t39_2 =>
  bnd (binE .and t39_2 (.int .i64 1048575)) fun t40_2 =>
  bnd (fldE 2 t7_2) fun t41_2 =>
  bnd (stE 1 h_6 t41_2 t40_2) fun h_7 =>
  bnd (fldE 1 t5_1) fun t42_2 =>
  bnd (ldS h_7 t42_2) fun t43_2 =>
  bnd (ldA 3 h_7 t7_2) fun t44_2 =>
  bnd (fillR 3 #[(.int .i64 0), (.int .i64 0), (.int .i64 0)] [(0, t44_2)]) fun c =>
  nw h_7 c 62 (fun b => .slice (some ⟨b, 0, none⟩) 1 1) fun t45_2 h_8 =>
  efS Tryd.prog (Go.Builtin.append_ #[59, 59] 59 #[t43_2, t45_2]) h_8 fun t46_2 h_9 =>
  bnd (fldE 1 t5_1) fun t47_2 =>
  bnd (stE 1 h_9 t47_2 t46_2) fun h_10 =>
  bnd (binE .add t6_1 (.int .i64 1)) fun t29_2 =>
  (I2 [t29_2] h_10 ∧ μ2 [t29_2] h_10 < μ2 [t6_1] h_4)) (
  bnd (ldA 3 h_4 t5_1) fun t49_1 =>
  bnd (fillR 3 #[(.int .i64 0), (.slice none 0 0), (.int .i64 0)] [(0, t49_1)]) fun c_1 =>
  nw h_4 c_1 74 (fun b => .slice (some ⟨b, 0, none⟩) 1 1) fun t50_1 h_11 =>
  efS Tryd.prog (Go.Builtin.append_ #[24, 24] 24 #[t3, t50_1]) h_11 fun t51_1 h_12 =>
  bnd (binE .add t4 (.int .i64 1)) fun t13_1 =>
  (I1 [t51_1, t13_1] h_12 ∧ μ1 [t51_1, t13_1] h_12 < μ1 [t3, t4] h_1))
/- slots [3, 4] -/
  def f26.L1 (h : Hp) (t0 : Value) (R : Value → Hp → Prop) : Prop :=
  ∃ (I1 : List Value → Hp → Prop) (μ1 : List Value → Hp → Nat), I1 [(.slice none 0 0), (.int .i64 0)] h ∧
  ∀ t8 t9 t10 t11 t14 t15 t16 t17 t18 t19 t5 t20 t21 t22 t23 t24 t25 t26 t27 t30 t31 t32 t33 t34 t35 t36 t37 t7 t38 t39 t40 t41 t42 t43 t44 t45 t46 t47 t28 t29 t6 t48 t49 t50 t51 t3 t12 t13 t4 : Value, ∀ (h_1 : Hp), I1 [t3, t4] h_1 →
  bnd (lenE t0) fun t10_1 =>
  bnd (binE .lss t4 t10_1) fun t11_1 =>
  condT t11_1 (
  bnd (idxE 3 t0 t4) fun t16_1 =>
  bnd (fldE 0 t16_1) fun t17_1 =>
  bnd (ldS h_1 t17_1) fun t18_1 =>
  bnd ((fillS [(0, 1), (1, 1), (2, 1)] #[(.int .i64 0), (.slice none 0 0), (.int .i64 0)] [(0, t18_1)]).map .agg) fun t19_1 =>
  nw h_1 #[(.int .i64 0), (.slice none 0 0), (.int .i64 0)] 74 ptr0 fun t5_1 h_2 =>
  bnd (stE 3 h_2 t5_1 t19_1) fun h_3 =>
  (f26.L2 h_3 t0 t4 t5_1 t3 I1 μ1 h_1)) (
  R t3 h_1)
def f26.T (t0 : Value) (h : Hp) (R : Value → Hp → Prop) : Prop :=
  (f26.L1 h t0 R)
theorem f26.eq (t0 : Value) (h : Hp) (R : Value → Hp → Prop) : evC Tryd.prog (fun i => bif Nat.beq i 3 then [3, 4] else bif Nat.beq i 7 then [6] else []) (fun _ => []) (Tryd.f26.body.getD .skip) (env0 [t0]) h (bodyQ Tryd.prog Tryd.f26.results.toList R) = f26.T t0 h R := by kernel_rfl
theorem f26.ok {t0 : Value} {h : Hp} {R : Value → Hp → Prop} (k : f26.T t0 h R) : CallsH Tryd.prog 26 #[t0] h R :=
    calls_of_evC (args := [t0]) (c := Tryd.f26.body.getD .skip) (fun i => bif Nat.beq i 3 then [3, 4] else bif Nat.beq i 7 then [6] else []) (fun _ => []) follows_mixed Tryd.func26 (by kernel_rfl) (by kernel_rfl) (by kernel_rfl)
      (Eq.mpr (f26.eq t0 h R) k)
/- 27 trellis/trellislaw9.pathsEnds -/
/- slots [5, 7] -/
  def f27.L2 (t23_1 : Value) (h_4 : Hp) (t0 : Value) (t6 : Value) (I1 : List Value → Hp → Prop) (μ1 : List Value → Hp → Nat) (t5 : Value) (h_2 : Hp) : Prop :=
  ∃ (I2 : List Value → Hp → Prop) (μ2 : List Value → Hp → Nat), I2 [t23_1, (.int .i64 0)] h_4 ∧
  ∀ t24_1 t25_1 t26_1 t27_1 t28_1 t29_1 t30_1 t31_1 t34_1 t35_1 t36_1 t37_1 t38_1 t39_1 t40_1 t41_1 t42_1 t43_1 t44_1 t45_1 t5_1 t32_1 t33_1 t7_1 : Value, ∀ (h_5 : Hp), I2 [t5_1, t7_1] h_5 →
  bnd (idxE 3 t0 t6) fun t27_2 =>
  bnd (fldE 1 t27_2) fun t28_2 =>
  bnd (ldS h_5 t28_2) fun t29_2 =>
  bnd (lenE t29_2) fun t30_2 =>
  bnd (binE .lss t7_1 t30_2) fun t31_2 =>
  condT t31_2 (
  bnd (idxE 3 t0 t6) fun t37_2 =>
  bnd (fldE 1 t37_2) fun t38_2 =>
  bnd (ldS h_5 t38_2) fun t39_2 =>
  bnd (idxE 3 t39_2 t7_1) fun t41_2 =>
  bnd (fldE 1 t41_2) fun t42_2 =>
  bnd (ldS h_5 t42_2) fun t43_2 =>
  bnd (fillR 1 #[(.int .i64 0)] [(0, t43_2)]) fun c_2 =>
  nw h_5 c_2 2 (fun b => .slice (some ⟨b, 0, none⟩) 1 1) fun t44_2 h_6 =>
  efS Tryd.prog (Go.Builtin.append_ #[28, 28] 28 #[t5_1, t44_2]) h_6 fun t45_2 h_7 =>
  bnd (binE .add t7_1 (.int .i64 1)) fun t33_2 =>
  (I2 [t45_2, t33_2] h_7 ∧ μ2 [t45_2, t33_2] h_7 < μ2 [t5_1, t7_1] h_5)) (
  bnd (binE .add t6 (.int .i64 1)) fun t15_1 =>
  (I1 [t5_1, t15_1] h_5 ∧ μ1 [t5_1, t15_1] h_5 < μ1 [t5, t6] h_2))
/- slots [5, 6] -/
  def f27.L1 (t9 : Value) (h_1 : Hp) (t0 : Value) (R : Value → Hp → Prop) : Prop :=
  ∃ (I1 : List Value → Hp → Prop) (μ1 : List Value → Hp → Nat), I1 [t9, (.int .i64 0)] h_1 ∧
  ∀ t10 t11 t12 t13 t16 t17 t18 t19 t20 t21 t22 t23 t24 t25 t26 t27 t28 t29 t30 t31 t34 t35 t36 t37 t38 t39 t40 t41 t42 t43 t44 t45 t5 t32 t33 t7 t14 t15 t6 : Value, ∀ (h_2 : Hp), I1 [t5, t6] h_2 →
  bnd (lenE t0) fun t12_1 =>
  bnd (binE .lss t6 t12_1) fun t13_1 =>
  condT t13_1 (
  bnd (idxE 3 t0 t6) fun t19_1 =>
  bnd (fldE 0 t19_1) fun t20_1 =>
  bnd (ldS h_2 t20_1) fun t21_1 =>
  bnd (fillR 1 #[(.int .i64 0)] [(0, t21_1)]) fun c_1 =>
  nw h_2 c_1 2 (fun b => .slice (some ⟨b, 0, none⟩) 1 1) fun t22_1 h_3 =>
  efS Tryd.prog (Go.Builtin.append_ #[28, 28] 28 #[t5, t22_1]) h_3 fun t23_1 h_4 =>
  (f27.L2 t23_1 h_4 t0 t6 I1 μ1 t5 h_2)) (
  R t5 h_2)
def f27.T (t0 t1 : Value) (h : Hp) (R : Value → Hp → Prop) : Prop :=
  bnd (fillR 1 #[(.int .i64 0)] [(0, t1)]) fun c =>
  nw h c 2 (fun b => .slice (some ⟨b, 0, none⟩) 1 1) fun t9 h_1 =>
  (f27.L1 t9 h_1 t0 R)
theorem f27.eq (t0 t1 : Value) (h : Hp) (R : Value → Hp → Prop) : evC Tryd.prog (fun i => bif Nat.beq i 3 then [5, 6] else bif Nat.beq i 7 then [5, 7] else []) (fun _ => []) (Tryd.f27.body.getD .skip) (env0 [t0, t1]) h (bodyQ Tryd.prog Tryd.f27.results.toList R) = f27.T t0 t1 h R := by kernel_rfl
theorem f27.ok {t0 t1 : Value} {h : Hp} {R : Value → Hp → Prop} (k : f27.T t0 t1 h R) : CallsH Tryd.prog 27 #[t0, t1] h R :=
    calls_of_evC (args := [t0, t1]) (c := Tryd.f27.body.getD .skip) (fun i => bif Nat.beq i 3 then [5, 6] else bif Nat.beq i 7 then [5, 7] else []) (fun _ => []) follows_mixed Tryd.func27 (by kernel_rfl) (by kernel_rfl) (by kernel_rfl)
      (Eq.mpr (f27.eq t0 t1 h R) k)
end Go.Proofs.YtkiakofohkecaaaDoor
