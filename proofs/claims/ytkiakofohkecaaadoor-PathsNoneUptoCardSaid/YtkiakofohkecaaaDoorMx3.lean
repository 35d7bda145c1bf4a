/- Each Go function as a formula over the heap, printed by a program of this claim, and that a call does what the formula says. No condition. -/
import Derived.Test.YtkiakofohkecaaaDoorE1
set_option linter.unusedVariables false
set_option maxRecDepth 100000
namespace Go.Proofs.YtkiakofohkecaaaDoor
open Go Go.Fw
/- 7 trellis/trellislaw9.PathsWays -/
def f7.T (t0 t1 t2 : Value) (h : Hp) (R : Value → Hp → Prop) : Prop :=
  nw h (Value.cells t0) 26 ptr0 fun t3 h_1 =>
  bnd (ldA 2 h_1 t3) fun t22 =>
  bnd ((fillS [(0, 2), (2, 1), (3, 1)] #[(.slice none 0 0), (.bool false), (.slice none 0 0), (.slice none 0 0)] [(0, t22)]).map .agg) fun t23 =>
  nw h_1 (Value.cells t23) 31 ptr0 fun t24 h_2 =>
  CallsH Tryd.prog 28 #[(.func (.func 19) #[t24] #[]), t1, t2] h_2 fun t30 h_3 =>
  bnd (extE 0 t30) fun t31 =>
  bnd (extE 1 t30) fun t32 =>
  bnd (extE 2 t30) fun t33 =>
  nw h_3 #[(.int .i64 0), (.slice none 0 0), (.slice none 0 0)] 52 ptr0 fun t8 h_4 =>
  bnd (stE 3 h_4 t8 t31) fun h_5 =>
  bnd (ldA 2 h_5 t3) fun t35 =>
  CallsH Tryd.prog 29 #[t35, t1, t2] h_5 fun t38 h_6 =>
  bnd (extE 0 t38) fun t39 =>
  bnd (extE 1 t38) fun t40 =>
  bnd (extE 2 t38) fun t41 =>
  bnd (extE 3 t38) fun t42 =>
  nw h_6 #[(.int .i64 0), (.slice none 0 0), (.slice none 0 0)] 52 ptr0 fun t11 h_7 =>
  bnd (stE 3 h_7 t11 t39) fun h_8 =>
  bnd (ldA 3 h_8 t8) fun t43 =>
  bnd (ldA 3 h_8 t11) fun t44 =>
  CallsH Tryd.prog 30 #[t43, t44] h_8 fun t45 h_9 =>
  bnd (unE .not t45) fun t46 =>
  bnd (bif isB t46 false then binB .neq (bif isB t46 false then t32 else undef) (bif isB t46 false then t40 else undef) else some undef) fun t50 =>
  bnd ((asB t46).map fun t => bif t then (.bool true) else t50) fun t51 =>
  bnd (bif isB t51 false then binE .neq (bif isB t51 false then t33 else undef) (bif isB t51 false then t41 else undef) else some undef) fun t55 =>
  bnd ((asB t51).map fun t => bif t then (.bool true) else t55) fun t56 =>
  guardT (isB t56 false) (fun K => CallsH Tryd.prog 21 #[(bif isB t56 false then t24 else undef), (bif isB t56 false then t42 else undef)] h_9 K) h_9 fun t60 h_10 =>
  bnd (bif isB t56 false then unE .not t60 else some undef) fun t61 =>
  bnd ((asB t56).map fun t => bif t then (.bool true) else t61) fun t62 =>
  condT t62 (
  R (.bool false) h_10) (
  bnd (ldA 2 h_10 t3) fun t63 =>
  bnd ((fillS [(0, 2), (2, 1), (3, 1)] #[(.slice none 0 0), (.bool false), (.slice none 0 0), (.slice none 0 0)] [(0, t63)]).map .agg) fun t64 =>
  nw h_10 (Value.cells t64) 31 ptr0 fun t65 h_11 =>
  CallsH Tryd.prog 28 #[(.func (.func 19) #[t65] #[]), t2, t1] h_11 fun t71 h_12 =>
  bnd (extE 0 t71) fun t72 =>
  bnd (extE 1 t71) fun t73 =>
  bnd (extE 2 t71) fun t74 =>
  nw h_12 #[(.int .i64 0), (.slice none 0 0), (.slice none 0 0)] 52 ptr0 fun t16 h_13 =>
  bnd (stE 3 h_13 t16 t72) fun h_14 =>
  CallsH Tryd.prog 28 #[(.func (.func 19) #[t65] #[]), t1, t2] h_14 fun t80 h_15 =>
  bnd (extE 0 t80) fun t81 =>
  bnd (extE 1 t80) fun t82 =>
  bnd (extE 2 t80) fun t83 =>
  nw h_15 #[(.int .i64 0), (.slice none 0 0), (.slice none 0 0)] 52 ptr0 fun t19 h_16 =>
  bnd (stE 3 h_16 t19 t81) fun h_17 =>
  bnd (ldA 3 h_17 t19) fun t84 =>
  bnd (ldA 3 h_17 t11) fun t85 =>
  CallsH Tryd.prog 30 #[t84, t85] h_17 fun t86 h_18 =>
  bnd (unE .not t86) fun t87 =>
  bnd (bif isB t87 false then ldA 3 h_18 t8 else some undef) fun t89 =>
  bnd (bif isB t87 false then ldA 3 h_18 t11 else some undef) fun t90 =>
  guardT (isB t87 false) (fun K => CallsH Tryd.prog 30 #[t89, t90] h_18 K) h_18 fun t91 h_19 =>
  bnd (bif isB t87 false then unE .not t91 else some undef) fun t92 =>
  bnd ((asB t87).map fun t => bif t then (.bool true) else t92) fun t93 =>
  condT t93 (
  R (.bool false) h_19) (
  bnd (fldE 1 t8) fun t94 =>
  bnd (ldS h_19 t94) fun t95 =>
  bnd (fldE 2 t8) fun t96 =>
  bnd (ldS h_19 t96) fun t97 =>
  bnd (fldE 1 t16) fun t98 =>
  bnd (ldS h_19 t98) fun t99 =>
  bnd (fldE 2 t16) fun t100 =>
  bnd (ldS h_19 t100) fun t101 =>
  bnd (fldE 1 t19) fun t102 =>
  bnd (ldS h_19 t102) fun t103 =>
  bnd (fldE 2 t19) fun t104 =>
  bnd (ldS h_19 t104) fun t105 =>
  bnd (fillR 1 #[(.slice none 0 0), (.slice none 0 0), (.slice none 0 0), (.slice none 0 0), (.slice none 0 0), (.slice none 0 0)] [(0, t95), (1, t97), (2, t99), (3, t101), (4, t103), (5, t105)]) fun c =>
  nw h_19 c 28 (fun b => .slice (some ⟨b, 0, none⟩) 6 6) fun t106 h_20 =>
  CallsH Tryd.prog 25 #[t106] h_20 fun t107 h_21 =>
  R t107 h_21))
theorem f7.eq (t0 t1 t2 : Value) (h : Hp) (R : Value → Hp → Prop) : evC Tryd.prog (fun _ => []) (fun _ => []) (Tryd.f7.body.getD .skip) (env0 [t0, t1, t2]) h (bodyQ Tryd.prog Tryd.f7.results.toList R) = f7.T t0 t1 t2 h R := by kernel_rfl
theorem f7.ok {t0 t1 t2 : Value} {h : Hp} {R : Value → Hp → Prop} (k : f7.T t0 t1 t2 h R) : CallsH Tryd.prog 7 #[t0, t1, t2] h R :=
    calls_of_evC (args := [t0, t1, t2]) (c := Tryd.f7.body.getD .skip) (fun _ => []) (fun _ => []) follows_mixed Tryd.func7 (by kernel_rfl) (by kernel_rfl) (by kernel_rfl)
      (Eq.mpr (f7.eq t0 t1 t2 h R) k)
/- 8 trellis/trellislaw9.PathsLeast -/
def f8.J1 (t10_1 : Value) (hj : Hp) (t8 : Value) (t9 : Value) (I1 : List Value → Hp → Prop) (μ1 : List Value → Hp → Nat) (h_6 : Hp) : Prop :=
  bnd (fldE 0 t10_1) fun t90_1 =>
  bnd (ldS hj t90_1) fun t91_1 =>
  bnd (fillR 1 #[(.int .i64 0)] [(0, t91_1)]) fun c =>
  nw hj c 2 (fun b => .slice (some ⟨b, 0, none⟩) 1 1) fun t92_1 h_11 =>
  efS Tryd.prog (Go.Builtin.append_ #[28, 28] 28 #[t8, t92_1]) h_11 fun t93_1 h_12 =>
  bnd (binE .add t9 (.int .i64 1)) fun t36_1 =>
  (I1 [t93_1, t36_1] h_12 ∧ μ1 [t93_1, t36_1] h_12 < μ1 [t8, t9] h_6)
/- slots [17] -/
  def f8.L4 (h_16 : Hp) (t24 : Value) (t107_1 : Value) (t16_1 : Value) (t8 : Value) (t13 : Value) (R : Value → Hp → Prop) (I3 : List Value → Hp → Prop) (μ3 : List Value → Hp → Nat) : Prop :=
  ∃ (I4 : List Value → Hp → Prop) (μ4 : List Value → Hp → Nat), I4 [(.int .i64 0)] h_16 ∧
  ∀ t122_2 t123_2 t124_2 t125_2 t126_2 t127_2 t128_2 t129_2 t130_2 t131_2 t132_2 t133_2 t17_2 : Value, ∀ (h_17 : Hp), I4 [t17_2] h_17 →
  bnd (idxE 1 t24 t17_2) fun t124_3 =>
  bnd (ldS h_17 t124_3) fun t125_3 =>
  bnd (idxE 3 t107_1 t16_1) fun t128_3 =>
  bnd (fldE 1 t128_3) fun t129_3 =>
  bnd (ldS h_17 t129_3) fun t130_3 =>
  bnd (binE .neq t125_3 t130_3) fun t131_3 =>
  condT t131_3 (
  bnd (binE .add t17_2 (.int .i64 1)) fun t133_3 =>
  (I4 [t133_3] h_17 ∧ μ4 [t133_3] h_17 < μ4 [t17_2] h_17)) (
  bnd (idxE 1 t8 t17_2) fun t136_2 =>
  bnd (ldS h_17 t136_2) fun t137_2 =>
  bnd (binE .lss t137_2 (.int .i64 0)) fun t138_2 =>
  bnd (bif isB t138_2 false then idxE 1 (bif isB t138_2 false then t8 else undef) (bif isB t138_2 false then t17_2 else undef) else some undef) fun t142_2 =>
  bnd (bif isB t138_2 false then ldS h_17 t142_2 else some undef) fun t143_2 =>
  bnd (bif isB t138_2 false then idxE 1 (bif isB t138_2 false then t8 else undef) (bif isB t138_2 false then t13 else undef) else some undef) fun t146_2 =>
  bnd (bif isB t138_2 false then ldS h_17 t146_2 else some undef) fun t147_2 =>
  bnd (bif isB t138_2 false then idxE 3 (bif isB t138_2 false then t107_1 else undef) (bif isB t138_2 false then t16_1 else undef) else some undef) fun t150_2 =>
  bnd (bif isB t138_2 false then fldE 2 t150_2 else some undef) fun t151_2 =>
  bnd (bif isB t138_2 false then ldS h_17 t151_2 else some undef) fun t152_2 =>
  bnd (bif isB t138_2 false then binE .add t147_2 t152_2 else some undef) fun t153_2 =>
  bnd (bif isB t138_2 false then binE .gtr t143_2 t153_2 else some undef) fun t154_2 =>
  bnd ((asB t138_2).map fun t => bif t then (.bool true) else t154_2) fun t155_2 =>
  condT t155_2 (
  R (.bool false) h_17) (
  bnd (binE .add t16_1 (.int .i64 1)) fun t121_2 =>
  (I3 [t121_2] h_17 ∧ μ3 [t121_2] h_17 < μ3 [t16_1] h_16)))
/- slots [16] -/
  def f8.L3 (h_15 : Hp) (t8 : Value) (t13 : Value) (t107_1 : Value) (t24 : Value) (R : Value → Hp → Prop) (I2 : List Value → Hp → Prop) (μ2 : List Value → Hp → Nat) (h_14 : Hp) : Prop :=
  ∃ (I3 : List Value → Hp → Prop) (μ3 : List Value → Hp → Nat), I3 [(.int .i64 0)] h_15 ∧
  ∀ t109_1 t110_1 t111_1 t112_1 t113_1 t114_1 t115_1 t116_1 t117_1 t118_1 t119_1 t122_1 t123_1 t124_1 t125_1 t126_1 t127_1 t128_1 t129_1 t130_1 t131_1 t132_1 t133_1 t17_1 t134_1 t135_1 t136_1 t137_1 t138_1 t139_1 t140_1 t141_1 t142_1 t143_1 t144_1 t145_1 t146_1 t147_1 t148_1 t149_1 t150_1 t151_1 t152_1 t153_1 t154_1 t155_1 t4_2 t120_1 t121_1 t16_1 : Value, ∀ (h_16 : Hp), I3 [t16_1] h_16 →
  bnd (idxE 1 t8 t13) fun t111_2 =>
  bnd (ldS h_16 t111_2) fun t112_2 =>
  bnd (binE .geq t112_2 (.int .i64 0)) fun t113_2 =>
  bnd (bif isB t113_2 true then lenE (bif isB t113_2 true then t107_1 else undef) else some undef) fun t117_2 =>
  bnd (bif isB t113_2 true then binE .lss (bif isB t113_2 true then t16_1 else undef) t117_2 else some undef) fun t118_2 =>
  bnd ((asB t113_2).map fun t => bif t then t118_2 else (.bool false)) fun t119_2 =>
  condT t119_2 (
  (f8.L4 h_16 t24 t107_1 t16_1 t8 t13 R I3 μ3)) (
  bnd (binE .add t13 (.int .i64 1)) fun t99_1 =>
  (I2 [t99_1] h_16 ∧ μ2 [t99_1] h_16 < μ2 [t13] h_14))
/- slots [13] -/
  def f8.L2 (h_6 : Hp) (t24 : Value) (t5 : Value) (t8 : Value) (R : Value → Hp → Prop) : Prop :=
  ∃ (I2 : List Value → Hp → Prop) (μ2 : List Value → Hp → Nat), I2 [(.int .i64 0)] h_6 ∧
  ∀ t94 t95 t96 t97 t101 t102 t103 t104 t105 t106 t100 t107 t108 t14 t15 t109 t110 t111 t112 t113 t114 t115 t116 t117 t118 t119 t122 t123 t124 t125 t126 t127 t128 t129 t130 t131 t132 t133 t17 t134 t135 t136 t137 t138 t139 t140 t141 t142 t143 t144 t145 t146 t147 t148 t149 t150 t151 t152 t153 t154 t155 t4_1 t120 t121 t16 t98 t99 t13 : Value, ∀ (h_14 : Hp), I2 [t13] h_14 →
  bnd (lenE t24) fun t96_1 =>
  bnd (binE .lss t13 t96_1) fun t97_1 =>
  condT t97_1 (
  bnd (ldA 2 h_14 t5) fun t101_1 =>
  bnd (idxE 1 t24 t13) fun t104_1 =>
  bnd (ldS h_14 t104_1) fun t105_1 =>
  CallsH Tryd.prog 32 #[t101_1, t105_1] h_14 fun t106_1 h_15 =>
  bnd (extE 0 t106_1) fun t107_1 =>
  bnd (extE 1 t106_1) fun t108_1 =>
  (f8.L3 h_15 t8 t13 t107_1 t24 R I2 μ2 h_14)) (
  R (.bool true) h_14)
/- slots [8, 9] -/
  def f8.L1 (h_5 : Hp) (t24 : Value) (t30 : Value) (t1 : Value) (R : Value → Hp → Prop) (t5 : Value) : Prop :=
  ∃ (I1 : List Value → Hp → Prop) (μ1 : List Value → Hp → Nat), I1 [(.slice none 0 0), (.int .i64 0)] h_5 ∧
  ∀ t31 t32 t33 t34 t38 t39 t40 t41 t42 t43 t44 t45 t37 t46 t47 t48 t10 t11 t12 t49 t50 t51 t52 t53 t54 t55 t56 t57 t58 t59 t60 t61 t62 t63 t64 t65 t66 t67 t68 t69 t70 t71 t72 t73 t74 t75 t76 t77 t78 t79 t80 t81 t82 t83 t84 t85 t4 t86 t87 t88 t89 t90 t91 t92 t93 t8 t35 t36 t9 : Value, ∀ (h_6 : Hp), I1 [t8, t9] h_6 →
  bnd (lenE t24) fun t33_1 =>
  bnd (binE .lss t9 t33_1) fun t34_1 =>
  condT t34_1 (
  bnd (idxE 1 t24 t9) fun t43_1 =>
  bnd (ldS h_6 t43_1) fun t44_1 =>
  CallsH Tryd.prog 28 #[(.func (.func 19) #[t30] #[]), t1, t44_1] h_6 fun t45_1 h_7 =>
  bnd (extE 0 t45_1) fun t46_1 =>
  bnd (extE 1 t45_1) fun t47_1 =>
  bnd (extE 2 t45_1) fun t48_1 =>
  nw h_7 #[(.int .i64 0), (.slice none 0 0), (.slice none 0 0)] 52 ptr0 fun t10_1 h_8 =>
  bnd (stE 3 h_8 t10_1 t46_1) fun h_9 =>
  bnd (binE .neq t48_1 (.int .i64 0)) fun t50_1 =>
  bnd (bif isB t50_1 false then idxE 1 (bif isB t50_1 false then t24 else undef) (bif isB t50_1 false then t9 else undef) else some undef) fun t54_1 =>
  bnd (bif isB t50_1 false then ldS h_9 t54_1 else some undef) fun t55_1 =>
  bnd (bif isB t50_1 false then binE .eql t55_1 (bif isB t50_1 false then t1 else undef) else some undef) fun t57_1 =>
  bnd (bif isB (bif isB t50_1 false then t57_1 else undef) true then unE .not (bif isB (bif isB t50_1 false then t57_1 else undef) true then t47_1 else undef) else some undef) fun t60_1 =>
  bnd (bif isB (bif isB (bif isB t50_1 false then t57_1 else undef) true then t60_1 else undef) false then fldE 0 t10_1 else some undef) fun t62_1 =>
  bnd (bif isB (bif isB (bif isB t50_1 false then t57_1 else undef) true then t60_1 else undef) false then ldS h_9 t62_1 else some undef) fun t63_1 =>
  bnd (bif isB (bif isB (bif isB t50_1 false then t57_1 else undef) true then t60_1 else undef) false then binE .neq t63_1 (.int .i64 0) else some undef) fun t64_1 =>
  bnd (bif isB (bif isB t50_1 false then t57_1 else undef) true then ((asB (bif isB (bif isB t50_1 false then t57_1 else undef) true then t60_1 else undef)).map fun t => bif t then (.bool true) else t64_1) else some undef) fun t65_1 =>
  bnd (bif isB (bif isB (bif isB t50_1 false then t57_1 else undef) true then t65_1 else undef) false then fldE 2 t10_1 else some undef) fun t67_1 =>
  bnd (bif isB (bif isB (bif isB t50_1 false then t57_1 else undef) true then t65_1 else undef) false then ldS h_9 t67_1 else some undef) fun t68_1 =>
  bnd (bif isB (bif isB (bif isB t50_1 false then t57_1 else undef) true then t65_1 else undef) false then lenE t68_1 else some undef) fun t69_1 =>
  bnd (bif isB (bif isB (bif isB t50_1 false then t57_1 else undef) true then t65_1 else undef) false then binE .neq t69_1 (.int .i64 0) else some undef) fun t70_1 =>
  bnd (bif isB (bif isB t50_1 false then t57_1 else undef) true then ((asB (bif isB (bif isB t50_1 false then t57_1 else undef) true then t65_1 else undef)).map fun t => bif t then (.bool true) else t70_1) else some undef) fun t71_1 =>
  bnd (bif isB t50_1 false then ((asB (bif isB t50_1 false then t57_1 else undef)).map fun t => bif t then t71_1 else (.bool false)) else some undef) fun t72_1 =>
  bnd ((asB t50_1).map fun t => bif t then (.bool true) else t72_1) fun t73_1 =>
  condT t73_1 (
  R (.bool false) h_9) (
  bnd (bif isB t47_1 true then ldA 2 h_9 t5 else some undef) fun t76_1 =>
  bnd (bif isB t47_1 true then ldA 3 h_9 t10_1 else some undef) fun t77_1 =>
  bnd (bif isB t47_1 true then idxE 1 (bif isB t47_1 true then t24 else undef) (bif isB t47_1 true then t9 else undef) else some undef) fun t81_1 =>
  bnd (bif isB t47_1 true then ldS h_9 t81_1 else some undef) fun t82_1 =>
  guardT (isB t47_1 true) (fun K => CallsH Tryd.prog 31 #[t76_1, t77_1, (bif isB t47_1 true then t1 else undef), t82_1] h_9 K) h_9 fun t83_1 h_10 =>
  bnd (bif isB t47_1 true then unE .not t83_1 else some undef) fun t84_1 =>
  bnd ((asB t47_1).map fun t => bif t then t84_1 else (.bool false)) fun t85_1 =>
  condT t85_1 (
  R (.bool false) h_10) (
  bnd (unE .not t47_1) fun t87_1 =>
  condT t87_1 (
  bnd (fldE 0 t10_1) fun t88_1 =>
  bnd (stE 1 h_10 t88_1 (.int .i64 (-1))) fun h_13 =>
  (f8.J1 t10_1 h_13 t8 t9 I1 μ1 h_6)) (
  (f8.J1 t10_1 h_10 t8 t9 I1 μ1 h_6))))) (
  (f8.L2 h_6 t24 t5 t8 R))
def f8.T (t0 t1 : Value) (h : Hp) (R : Value → Hp → Prop) : Prop :=
  CallsH Tryd.prog 26 #[t0] h fun t19 h_1 =>
  bnd ((fillS [(0, 1), (1, 1)] #[(.slice none 0 0), (.bool false)] [(0, t19)]).map .agg) fun t20 =>
  nw h_1 #[(.slice none 0 0), (.bool false)] 26 ptr0 fun t5 h_2 =>
  bnd (stE 2 h_2 t5 t20) fun h_3 =>
  bnd (fldE 0 t5) fun t21 =>
  bnd (ldS h_3 t21) fun t22 =>
  CallsH Tryd.prog 27 #[t22, t1] h_3 fun t24 h_4 =>
  bnd (lenE t24) fun t26 =>
  bnd (binE .gtr t26 (.int .i64 1000)) fun t27 =>
  condT t27 (
  R (.bool true) h_4) (
  bnd (ldA 2 h_4 t5) fun t28 =>
  bnd ((fillS [(0, 2), (2, 1), (3, 1)] #[(.slice none 0 0), (.bool false), (.slice none 0 0), (.slice none 0 0)] [(0, t28)]).map .agg) fun t29 =>
  nw h_4 (Value.cells t29) 31 ptr0 fun t30 h_5 =>
  (f8.L1 h_5 t24 t30 t1 R t5))
theorem f8.eq (t0 t1 : Value) (h : Hp) (R : Value → Hp → Prop) : evC Tryd.prog (fun i => bif Nat.beq i 8 then [8, 9] else bif Nat.beq i 19 then [13] else bif Nat.beq i 23 then [16] else bif Nat.beq i 26 then [17] else []) (fun _ => []) (Tryd.f8.body.getD .skip) (env0 [t0, t1]) h (bodyQ Tryd.prog Tryd.f8.results.toList R) = f8.T t0 t1 h R := by kernel_rfl
theorem f8.ok {t0 t1 : Value} {h : Hp} {R : Value → Hp → Prop} (k : f8.T t0 t1 h R) : CallsH Tryd.prog 8 #[t0, t1] h R :=
    calls_of_evC (args := [t0, t1]) (c := Tryd.f8.body.getD .skip) (fun i => bif Nat.beq i 8 then [8, 9] else bif Nat.beq i 19 then [13] else bif Nat.beq i 23 then [16] else bif Nat.beq i 26 then [17] else []) (fun _ => []) follows_mixed Tryd.func8 (by kernel_rfl) (by kernel_rfl) (by kernel_rfl)
      (Eq.mpr (f8.eq t0 t1 h R) k)
/- 28 trellis/paths.Least -/
/- slots [13] -/
  def f28.L1 (t45 : Value) (hj : Hp) (t1 : Value) (t19 : Value) (j12 : Value) (t6 : Value) (R : Value → Hp → Prop) : Prop :=
  ∃ (I1 : List Value → Hp → Prop) (μ1 : List Value → Hp → Nat), I1 [t45] hj ∧
  ∀ t46 t47 t48 t49 t50 t51 t52 t53 t54 t14 t55 t56 t57 t58 t59 t60 t61 t62 t63 t64 t65 t66 t67 t68 t69 t70 t13 : Value, ∀ (h_7 : Hp), I1 [t13] h_7 →
  bnd (binE .neq t13 t1) fun t48_1 =>
  condT t48_1 (
  bnd (nilE t19) fun t50_1 =>
  bnd (fldE 2 t50_1) fun t51_1 =>
  bnd (ldS h_7 t51_1) fun t52_1 =>
  rdS Tryd.prog (Go.Instr.lookup 94 t52_1 t13 false) h_7 fun t54_1 =>
  nw h_7 #[(.int .i64 0), (.int .i64 0), (.int .i64 0), (.bool false)] 93 ptr0 fun t14_1 h_8 =>
  bnd (stE 4 h_8 t14_1 t54_1) fun h_9 =>
  bnd (fldE 1 j12) fun t55_1 =>
  bnd (ldS h_9 t55_1) fun t56_1 =>
  bnd (fldE 1 t14_1) fun t57_1 =>
  bnd (ldS h_9 t57_1) fun t58_1 =>
  bnd (fillR 1 #[(.int .i64 0)] [(0, t58_1)]) fun c =>
  nw h_9 c 2 (fun b => .slice (some ⟨b, 0, none⟩) 1 1) fun t59_1 h_10 =>
  efS Tryd.prog (Go.Builtin.append_ #[28, 28] 28 #[t56_1, t59_1]) h_10 fun t60_1 h_11 =>
  bnd (fldE 1 j12) fun t61_1 =>
  bnd (stE 1 h_11 t61_1 t60_1) fun h_12 =>
  bnd (fldE 2 j12) fun t62_1 =>
  bnd (ldS h_12 t62_1) fun t63_1 =>
  bnd (fldE 2 t14_1) fun t64_1 =>
  bnd (ldS h_12 t64_1) fun t65_1 =>
  bnd (fillR 1 #[(.int .i64 0)] [(0, t65_1)]) fun c_1 =>
  nw h_12 c_1 2 (fun b => .slice (some ⟨b, 0, none⟩) 1 1) fun t66_1 h_13 =>
  efS Tryd.prog (Go.Builtin.append_ #[28, 28] 28 #[t63_1, t66_1]) h_13 fun t67_1 h_14 =>
  bnd (fldE 2 j12) fun t68_1 =>
  bnd (stE 1 h_14 t68_1 t67_1) fun h_15 =>
  bnd (fldE 1 t14_1) fun t69_1 =>
  bnd (ldS h_15 t69_1) fun t70_1 =>
  (I1 [t70_1] h_15 ∧ μ1 [t70_1] h_15 < μ1 [t13] h_7)) (
  bnd (fldE 1 j12) fun t71 =>
  bnd (ldS h_7 t71) fun t72 =>
  CallsH Tryd.prog 56 #[t72] h_7 fun t73 h_16 =>
  bnd (fldE 2 j12) fun t74 =>
  bnd (ldS h_16 t74) fun t75 =>
  CallsH Tryd.prog 56 #[t75] h_16 fun t76 h_17 =>
  bnd (ldA 3 h_17 j12) fun t77 =>
  bnd (stE 3 h_17 t6 t77) fun h_18 =>
  bnd (ldA 3 h_18 t6) fun r6_2 =>
  R (.tuple #[r6_2, (.bool true), (.int .i64 0)]) h_18)
def f28.J1 (hj : Hp) (t5 : Value) (t1 : Value) (t19 : Value) (j12 : Value) (t6 : Value) (R : Value → Hp → Prop) : Prop :=
  bnd (ldS hj t5) fun t45 =>
  (f28.L1 t45 hj t1 t19 j12 t6 R)
def f28.T (t0 t1 t2 : Value) (h : Hp) (R : Value → Hp → Prop) : Prop :=
  nw h (Value.cells t2) 2 ptr0 fun t5 h_1 =>
  nw h_1 #[(.int .i64 0), (.slice none 0 0), (.slice none 0 0)] 52 ptr0 fun t6 h_2 =>
  bnd (nilBin .f .eql t0 .nilFunc) fun t16 =>
  condT t16 (
  bnd ((fillS [(0, 1), (1, 1), (2, 1)] #[(.int .i64 0), (.slice none 0 0), (.slice none 0 0)] []).map .agg) fun t17 =>
  bnd (stE 3 h_2 t6 t17) fun h_3 =>
  bnd (ldA 3 h_3 t6) fun r6 =>
  R (.tuple #[r6, (.bool false), (.int .i64 1)]) h_3) (
  CallsH Tryd.prog 48 #[t0, (.bool false)] h_2 fun t19 h_4 =>
  CallsH Tryd.prog 49 #[t19, t1, (.func (.func 55) #[] #[t5]), (.func (.func 51) #[] #[])] h_4 fun t24 h_5 =>
  bnd (extE 0 t24) fun t25 =>
  bnd (extE 1 t24) fun t26 =>
  bnd (binE .neq t26 (.int .i64 0)) fun t28 =>
  bnd (bif isB t28 false then unE .not (bif isB t28 false then t25 else undef) else some undef) fun t31 =>
  bnd ((asB t28).map fun t => bif t then (.bool true) else t31) fun t32 =>
  condT t32 (
  bnd ((fillS [(0, 1), (1, 1), (2, 1)] #[(.int .i64 0), (.slice none 0 0), (.slice none 0 0)] []).map .agg) fun t33 =>
  bnd (stE 3 h_5 t6 t33) fun h_6 =>
  bnd (ldA 3 h_6 t6) fun r6_1 =>
  R (.tuple #[r6_1, (.bool false), t26]) h_6) (
  (bnd (nilE t19) fun t36 =>
  bnd (fldE 2 t36) fun t37 =>
  bnd (ldS h_5 t37) fun t38 =>
  bnd (ldS h_5 t5) fun t39 =>
  rdS Tryd.prog (Go.Instr.lookup 94 t38 t39 false) h_5 fun t40 =>
  bnd (fieldE none 0 t40) fun t41 =>
  bnd (ldS h_5 t5) fun t42 =>
  bnd (fillR 1 #[(.int .i64 0)] [(0, t42)]) fun c_2 =>
  nw h_5 c_2 2 (fun b => .slice (some ⟨b, 0, none⟩) 1 1) fun t43 h_19 =>
  bnd ((fillS [(0, 1), (1, 1), (2, 1)] #[(.int .i64 0), (.slice none 0 0), (.slice none 0 0)] [(0, t41), (1, t43)]).map .agg) fun t44 =>
  nw h_19 #[(.int .i64 0), (.slice none 0 0), (.slice none 0 0)] 52 ptr0 fun t12 h_20 =>
  bnd (stE 3 h_20 t12 t44) fun h_21 =>
  (f28.J1 h_21 t5 t1 t19 t12 t6 R)) ∧
  (bnd (nilE t19) fun t36_1 =>
  bnd (fldE 2 t36_1) fun t37_1 =>
  bnd (ldS h_5 t37_1) fun t38_1 =>
  bnd (ldS h_5 t5) fun t39_1 =>
  bnd (ldS h_5 t5) fun t42_1 =>
  bnd (fillR 1 #[(.int .i64 0)] [(0, t42_1)]) fun c_3 =>
  nw h_5 c_3 2 (fun b => .slice (some ⟨b, 0, none⟩) 1 1) fun t43_1 h_22 =>
  rdS Tryd.prog (Go.Instr.lookup 94 t38_1 t39_1 false) h_22 fun t40_1 =>
  bnd (fieldE none 0 t40_1) fun t41_1 =>
  bnd ((fillS [(0, 1), (1, 1), (2, 1)] #[(.int .i64 0), (.slice none 0 0), (.slice none 0 0)] [(0, t41_1), (1, t43_1)]).map .agg) fun t44_1 =>
  nw h_22 #[(.int .i64 0), (.slice none 0 0), (.slice none 0 0)] 52 ptr0 fun t12_1 h_23 =>
  bnd (stE 3 h_23 t12_1 t44_1) fun h_24 =>
  (f28.J1 h_24 t5 t1 t19 t12_1 t6 R)) ∧
  (bnd (nilE t19) fun t36_2 =>
  bnd (fldE 2 t36_2) fun t37_2 =>
  bnd (ldS h_5 t37_2) fun t38_2 =>
  bnd (ldS h_5 t5) fun t39_2 =>
  bnd (ldS h_5 t5) fun t42_2 =>
  bnd (fillR 1 #[(.int .i64 0)] [(0, t42_2)]) fun c_4 =>
  nw h_5 c_4 2 (fun b => .slice (some ⟨b, 0, none⟩) 1 1) fun t43_2 h_25 =>
  nw h_25 #[(.int .i64 0), (.slice none 0 0), (.slice none 0 0)] 52 ptr0 fun t12_2 h_26 =>
  rdS Tryd.prog (Go.Instr.lookup 94 t38_2 t39_2 false) h_26 fun t40_2 =>
  bnd (fieldE none 0 t40_2) fun t41_2 =>
  bnd ((fillS [(0, 1), (1, 1), (2, 1)] #[(.int .i64 0), (.slice none 0 0), (.slice none 0 0)] [(0, t41_2), (1, t43_2)]).map .agg) fun t44_2 =>
  bnd (stE 3 h_26 t12_2 t44_2) fun h_27 =>
  (f28.J1 h_27 t5 t1 t19 t12_2 t6 R)) ∧
  (bnd (nilE t19) fun t36_3 =>
  bnd (fldE 2 t36_3) fun t37_3 =>
  bnd (ldS h_5 t37_3) fun t38_3 =>
  bnd (ldS h_5 t5) fun t39_3 =>
  rdS Tryd.prog (Go.Instr.lookup 94 t38_3 t39_3 false) h_5 fun t40_3 =>
  bnd (fieldE none 0 t40_3) fun t41_3 =>
  bnd (ldS h_5 t5) fun t42_3 =>
  nw h_5 #[(.int .i64 0), (.slice none 0 0), (.slice none 0 0)] 52 ptr0 fun t12_3 h_28 =>
  bnd (fillR 1 #[(.int .i64 0)] [(0, t42_3)]) fun c_5 =>
  nw h_28 c_5 2 (fun b => .slice (some ⟨b, 0, none⟩) 1 1) fun t43_3 h_29 =>
  bnd ((fillS [(0, 1), (1, 1), (2, 1)] #[(.int .i64 0), (.slice none 0 0), (.slice none 0 0)] [(0, t41_3), (1, t43_3)]).map .agg) fun t44_3 =>
  bnd (stE 3 h_29 t12_3 t44_3) fun h_30 =>
  (f28.J1 h_30 t5 t1 t19 t12_3 t6 R)) ∧
  (bnd (nilE t19) fun t36_4 =>
  bnd (fldE 2 t36_4) fun t37_4 =>
  bnd (ldS h_5 t37_4) fun t38_4 =>
  bnd (ldS h_5 t5) fun t39_4 =>
  bnd (ldS h_5 t5) fun t42_4 =>
  nw h_5 #[(.int .i64 0), (.slice none 0 0), (.slice none 0 0)] 52 ptr0 fun t12_4 h_31 =>
  rdS Tryd.prog (Go.Instr.lookup 94 t38_4 t39_4 false) h_31 fun t40_4 =>
  bnd (fieldE none 0 t40_4) fun t41_4 =>
  bnd (fillR 1 #[(.int .i64 0)] [(0, t42_4)]) fun c_6 =>
  nw h_31 c_6 2 (fun b => .slice (some ⟨b, 0, none⟩) 1 1) fun t43_4 h_32 =>
  bnd ((fillS [(0, 1), (1, 1), (2, 1)] #[(.int .i64 0), (.slice none 0 0), (.slice none 0 0)] [(0, t41_4), (1, t43_4)]).map .agg) fun t44_4 =>
  bnd (stE 3 h_32 t12_4 t44_4) fun h_33 =>
  (f28.J1 h_33 t5 t1 t19 t12_4 t6 R)) ∧
  (bnd (nilE t19) fun t36_5 =>
  bnd (fldE 2 t36_5) fun t37_5 =>
  bnd (ldS h_5 t37_5) fun t38_5 =>
  bnd (ldS h_5 t5) fun t39_5 =>
  bnd (ldS h_5 t5) fun t42_5 =>
  nw h_5 #[(.int .i64 0), (.slice none 0 0), (.slice none 0 0)] 52 ptr0 fun t12_5 h_34 =>
  bnd (fillR 1 #[(.int .i64 0)] [(0, t42_5)]) fun c_7 =>
  nw h_34 c_7 2 (fun b => .slice (some ⟨b, 0, none⟩) 1 1) fun t43_5 h_35 =>
  rdS Tryd.prog (Go.Instr.lookup 94 t38_5 t39_5 false) h_35 fun t40_5 =>
  bnd (fieldE none 0 t40_5) fun t41_5 =>
  bnd ((fillS [(0, 1), (1, 1), (2, 1)] #[(.int .i64 0), (.slice none 0 0), (.slice none 0 0)] [(0, t41_5), (1, t43_5)]).map .agg) fun t44_5 =>
  bnd (stE 3 h_35 t12_5 t44_5) fun h_36 =>
  (f28.J1 h_36 t5 t1 t19 t12_5 t6 R))))
theorem f28.eq (t0 t1 t2 : Value) (h : Hp) (R : Value → Hp → Prop) : evC Tryd.prog (fun i => bif Nat.beq i 9 then [13] else []) (fun i => bif Nat.beq i 7 then [[0, 1, 2, 3, 4, 5, 6, 7, 8, 9, 10, 11], [0, 1, 2, 3, 4, 7, 8, 5, 6, 9, 10, 11], [0, 1, 2, 3, 4, 7, 8, 10, 5, 6, 9, 11], [0, 1, 2, 3, 4, 5, 6, 7, 10, 8, 9, 11], [0, 1, 2, 3, 4, 7, 10, 5, 6, 8, 9, 11], [0, 1, 2, 3, 4, 7, 10, 8, 5, 6, 9, 11]] else []) (Tryd.f28.body.getD .skip) (env0 [t0, t1, t2]) h (bodyQ Tryd.prog Tryd.f28.results.toList R) = f28.T t0 t1 t2 h R := by kernel_rfl
theorem f28.ok {t0 t1 t2 : Value} {h : Hp} {R : Value → Hp → Prop} (k : f28.T t0 t1 t2 h R) : CallsH Tryd.prog 28 #[t0, t1, t2] h R :=
    calls_of_evC (args := [t0, t1, t2]) (c := Tryd.f28.body.getD .skip) (fun i => bif Nat.beq i 9 then [13] else []) (fun i => bif Nat.beq i 7 then [[0, 1, 2, 3, 4, 5, 6, 7, 8, 9, 10, 11], [0, 1, 2, 3, 4, 7, 8, 5, 6, 9, 10, 11], [0, 1, 2, 3, 4, 7, 8, 10, 5, 6, 9, 11], [0, 1, 2, 3, 4, 5, 6, 7, 10, 8, 9, 11], [0, 1, 2, 3, 4, 7, 10, 5, 6, 8, 9, 11], [0, 1, 2, 3, 4, 7, 10, 8, 5, 6, 9, 11]] else []) follows_mixed Tryd.func28 (by kernel_rfl) (by kernel_rfl) (by kernel_rfl)
      (Eq.mpr (f28.eq t0 t1 t2 h R) k)
/- 29 trellis/trellisref9.Least -/
def f29.J1 (hj : Hp) (t12 : Value) (t10 : Value) (t6 : Value) (R : Value → Hp → Prop) : Prop :=
  (bnd (ldA 3 hj t12) fun t76 =>
  bnd (fldE 1 t10) fun t77 =>
  bnd (ldS hj t77) fun t78 =>
  bnd (stE 3 hj t6 t76) fun h_13 =>
  bnd (ldA 3 h_13 t6) fun r6_4 =>
  R (.tuple #[r6_4, (.bool true), (.int .i64 0), t78]) h_13) ∧
  (bnd (ldA 3 hj t12) fun t76_1 =>
  bnd (fldE 1 t10) fun t77_1 =>
  bnd (stE 3 hj t6 t76_1) fun h_14 =>
  bnd (ldS h_14 t77_1) fun t78_1 =>
  bnd (ldA 3 h_14 t6) fun r6_5 =>
  R (.tuple #[r6_5, (.bool true), (.int .i64 0), t78_1]) h_14)
def f29.J2 (t14_1 : Value) (hj_1 : Hp) (t12 : Value) (I1 : List Value → Hp → Prop) (t53_1 : Value) (μ1 : List Value → Hp → Nat) (t11 : Value) (h_15 : Hp) : Prop :=
  bnd (fldE 0 t14_1) fun t68_1 =>
  bnd (ldS hj_1 t68_1) fun t69_1 =>
  bnd (fillR 1 #[(.int .i64 0)] [(0, t69_1)]) fun c_1 =>
  nw hj_1 c_1 2 (fun b => .slice (some ⟨b, 0, none⟩) 1 1) fun t70_1 h_19 =>
  bnd (fldE 2 t12) fun t71_1 =>
  bnd (ldS h_19 t71_1) fun t72_1 =>
  efS Tryd.prog (Go.Builtin.append_ #[28, 28] 28 #[t70_1, t72_1]) h_19 fun t73_1 h_20 =>
  bnd (fldE 2 t12) fun t74_1 =>
  bnd (stE 1 h_20 t74_1 t73_1) fun h_21 =>
  (I1 [t53_1] h_21 ∧ μ1 [t53_1] h_21 < μ1 [t11] h_15)
/- slots [11] -/
  def f29.L1 (t36 : Value) (h_12 : Hp) (t3 : Value) (t10 : Value) (t12 : Value) (t6 : Value) (R : Value → Hp → Prop) : Prop :=
  ∃ (I1 : List Value → Hp → Prop) (μ1 : List Value → Hp → Nat), I1 [t36] h_12 ∧
  ∀ t46 t47 t49 t50 t51 t52 t48 t53 t54 t14 t13 t55 t56 t57 t58 t59 t60 t61 t62 t63 t64 t65 t66 t67 t68 t69 t70 t71 t72 t73 t74 t75 t11 : Value, ∀ (h_15 : Hp), I1 [t11] h_15 →
  bnd (binE .gtr t11 (.int .i64 0)) fun t47_1 =>
  condT t47_1 (
  bnd (ldA 2 h_15 t3) fun t49_1 =>
  bnd (ldA 4 h_15 t10) fun t50_1 =>
  CallsH Tryd.prog 57 #[t49_1, t50_1, t11] h_15 fun t52_1 h_16 =>
  bnd (extE 0 t52_1) fun t53_1 =>
  bnd (extE 1 t52_1) fun t54_1 =>
  nw h_16 #[(.int .i64 0), (.int .i64 0), (.int .i64 0)] 62 ptr0 fun t14_1 h_17 =>
  bnd (stE 3 h_17 t14_1 t54_1) fun h_18 =>
  bnd (binE .lss t53_1 (.int .i64 0)) fun t56_1 =>
  condT t56_1 (
  (f29.J1 h_18 t12 t10 t6 R)) (
  (bnd (fldE 0 t10) fun t57_1 =>
  bnd (ldS h_18 t57_1) fun t58_1 =>
  bnd (idxE 2 t58_1 t53_1) fun t60_1 =>
  bnd (fldE 0 t60_1) fun t61_1 =>
  bnd (ldS h_18 t61_1) fun t62_1 =>
  bnd (fillR 1 #[(.int .i64 0)] [(0, t62_1)]) fun c_2 =>
  nw h_18 c_2 2 (fun b => .slice (some ⟨b, 0, none⟩) 1 1) fun t63_1 h_22 =>
  bnd (fldE 1 t12) fun t64_1 =>
  bnd (ldS h_22 t64_1) fun t65_1 =>
  efS Tryd.prog (Go.Builtin.append_ #[28, 28] 28 #[t63_1, t65_1]) h_22 fun t66_1 h_23 =>
  bnd (fldE 1 t12) fun t67_1 =>
  bnd (stE 1 h_23 t67_1 t66_1) fun h_24 =>
  (f29.J2 t14_1 h_24 t12 I1 t53_1 μ1 t11 h_15)) ∧
  (bnd (fldE 0 t10) fun t57_2 =>
  bnd (ldS h_18 t57_2) fun t58_2 =>
  bnd (idxE 2 t58_2 t53_1) fun t60_2 =>
  bnd (fldE 0 t60_2) fun t61_2 =>
  bnd (ldS h_18 t61_2) fun t62_2 =>
  bnd (fldE 1 t12) fun t64_2 =>
  bnd (ldS h_18 t64_2) fun t65_2 =>
  bnd (fillR 1 #[(.int .i64 0)] [(0, t62_2)]) fun c_3 =>
  nw h_18 c_3 2 (fun b => .slice (some ⟨b, 0, none⟩) 1 1) fun t63_2 h_25 =>
  efS Tryd.prog (Go.Builtin.append_ #[28, 28] 28 #[t63_2, t65_2]) h_25 fun t66_2 h_26 =>
  bnd (fldE 1 t12) fun t67_2 =>
  bnd (stE 1 h_26 t67_2 t66_2) fun h_27 =>
  (f29.J2 t14_1 h_27 t12 I1 t53_1 μ1 t11 h_15)))) (
  (f29.J1 h_15 t12 t10 t6 R))
def f29.T (t0 t1 t2 : Value) (h : Hp) (R : Value → Hp → Prop) : Prop :=
  nw h (Value.cells t0) 26 ptr0 fun t3 h_1 =>
  nw h_1 #[(.int .i64 0), (.slice none 0 0), (.slice none 0 0)] 52 ptr0 fun t6 h_2 =>
  bnd (ldA 2 h_2 t3) fun t15 =>
  bnd ((fillS [(0, 1), (1, 1), (2, 1), (3, 1)] #[(.bool false), (.int .i64 0), (.int .i64 0), (.bool false)] [(0, (.bool true)), (1, t2), (2, (.int .i64 (-1)))]).map .agg) fun t18 =>
  CallsH Tryd.prog 52 #[t15, t1, t18] h_2 fun t19 h_3 =>
  nw h_3 #[(.slice none 0 0), (.slice none 0 0), (.int .i64 0), (.bool false)] 100 ptr0 fun t10 h_4 =>
  bnd (stE 4 h_4 t10 t19) fun h_5 =>
  bnd (fldE 2 t10) fun t20 =>
  bnd (ldS h_5 t20) fun t21 =>
  bnd (binE .neq t21 (.int .i64 0)) fun t22 =>
  bnd (bif isB t22 false then fldE 3 t10 else some undef) fun t24 =>
  bnd (bif isB t22 false then ldS h_5 t24 else some undef) fun t25 =>
  bnd (bif isB t22 false then unE .not t25 else some undef) fun t26 =>
  bnd ((asB t22).map fun t => bif t then (.bool true) else t26) fun t27 =>
  condT t27 (
  (bnd ((fillS [(0, 1), (1, 1), (2, 1)] #[(.int .i64 0), (.slice none 0 0), (.slice none 0 0)] []).map .agg) fun t28 =>
  bnd (fldE 2 t10) fun t29 =>
  bnd (ldS h_5 t29) fun t30 =>
  bnd (fldE 1 t10) fun t31 =>
  bnd (ldS h_5 t31) fun t32 =>
  bnd (stE 3 h_5 t6 t28) fun h_6 =>
  bnd (ldA 3 h_6 t6) fun r6 =>
  R (.tuple #[r6, (.bool false), t30, t32]) h_6) ∧
  (bnd ((fillS [(0, 1), (1, 1), (2, 1)] #[(.int .i64 0), (.slice none 0 0), (.slice none 0 0)] []).map .agg) fun t28_1 =>
  bnd (fldE 2 t10) fun t29_1 =>
  bnd (fldE 1 t10) fun t31_1 =>
  bnd (ldS h_5 t31_1) fun t32_1 =>
  bnd (stE 3 h_5 t6 t28_1) fun h_7 =>
  bnd (ldS h_7 t29_1) fun t30_1 =>
  bnd (ldA 3 h_7 t6) fun r6_1 =>
  R (.tuple #[r6_1, (.bool false), t30_1, t32_1]) h_7) ∧
  (bnd ((fillS [(0, 1), (1, 1), (2, 1)] #[(.int .i64 0), (.slice none 0 0), (.slice none 0 0)] []).map .agg) fun t28_2 =>
  bnd (fldE 2 t10) fun t29_2 =>
  bnd (ldS h_5 t29_2) fun t30_2 =>
  bnd (fldE 1 t10) fun t31_2 =>
  bnd (stE 3 h_5 t6 t28_2) fun h_8 =>
  bnd (ldS h_8 t31_2) fun t32_2 =>
  bnd (ldA 3 h_8 t6) fun r6_2 =>
  R (.tuple #[r6_2, (.bool false), t30_2, t32_2]) h_8) ∧
  (bnd ((fillS [(0, 1), (1, 1), (2, 1)] #[(.int .i64 0), (.slice none 0 0), (.slice none 0 0)] []).map .agg) fun t28_3 =>
  bnd (fldE 2 t10) fun t29_3 =>
  bnd (fldE 1 t10) fun t31_3 =>
  bnd (stE 3 h_5 t6 t28_3) fun h_9 =>
  bnd (ldS h_9 t29_3) fun t30_3 =>
  bnd (ldS h_9 t31_3) fun t32_3 =>
  bnd (ldA 3 h_9 t6) fun r6_3 =>
  R (.tuple #[r6_3, (.bool false), t30_3, t32_3]) h_9)) (
  bnd (fldE 0 t10) fun t33 =>
  bnd (ldS h_5 t33) fun t34 =>
  bnd (lenE t34) fun t35 =>
  bnd (binE .sub t35 (.int .i64 1)) fun t36 =>
  bnd (fldE 0 t10) fun t37 =>
  bnd (ldS h_5 t37) fun t38 =>
  bnd (idxE 2 t38 t36) fun t40 =>
  bnd (fldE 1 t40) fun t41 =>
  bnd (ldS h_5 t41) fun t42 =>
  bnd (fillR 1 #[(.int .i64 0)] [(0, t2)]) fun c =>
  nw h_5 c 2 (fun b => .slice (some ⟨b, 0, none⟩) 1 1) fun t44 h_10 =>
  bnd ((fillS [(0, 1), (1, 1), (2, 1)] #[(.int .i64 0), (.slice none 0 0), (.slice none 0 0)] [(0, t42), (1, t44)]).map .agg) fun t45 =>
  nw h_10 #[(.int .i64 0), (.slice none 0 0), (.slice none 0 0)] 52 ptr0 fun t12 h_11 =>
  bnd (stE 3 h_11 t12 t45) fun h_12 =>
  (f29.L1 t36 h_12 t3 t10 t12 t6 R))
theorem f29.eq (t0 t1 t2 : Value) (h : Hp) (R : Value → Hp → Prop) : evC Tryd.prog (fun i => bif Nat.beq i 6 then [11] else []) (fun i => bif Nat.beq i 3 then [[0, 1, 2, 3, 4, 5, 6, 7, 8], [0, 1, 3, 4, 5, 2, 6, 7, 8], [0, 1, 2, 3, 5, 4, 6, 7, 8], [0, 1, 3, 5, 2, 4, 6, 7, 8]] else bif Nat.beq i 9 then [[0, 1, 2, 3, 4, 5, 6, 7, 8, 9, 10, 11], [0, 1, 2, 3, 4, 5, 7, 8, 6, 9, 10, 11]] else bif Nat.beq i 12 then [[0, 1, 2, 3, 4, 5, 6], [0, 1, 3, 2, 4, 5, 6]] else []) (Tryd.f29.body.getD .skip) (env0 [t0, t1, t2]) h (bodyQ Tryd.prog Tryd.f29.results.toList R) = f29.T t0 t1 t2 h R := by kernel_rfl
theorem f29.ok {t0 t1 t2 : Value} {h : Hp} {R : Value → Hp → Prop} (k : f29.T t0 t1 t2 h R) : CallsH Tryd.prog 29 #[t0, t1, t2] h R :=
    calls_of_evC (args := [t0, t1, t2]) (c := Tryd.f29.body.getD .skip) (fun i => bif Nat.beq i 6 then [11] else []) (fun i => bif Nat.beq i 3 then [[0, 1, 2, 3, 4, 5, 6, 7, 8], [0, 1, 3, 4, 5, 2, 6, 7, 8], [0, 1, 2, 3, 5, 4, 6, 7, 8], [0, 1, 3, 5, 2, 4, 6, 7, 8]] else bif Nat.beq i 9 then [[0, 1, 2, 3, 4, 5, 6, 7, 8, 9, 10, 11], [0, 1, 2, 3, 4, 5, 7, 8, 6, 9, 10, 11]] else bif Nat.beq i 12 then [[0, 1, 2, 3, 4, 5, 6], [0, 1, 3, 2, 4, 5, 6]] else []) follows_mixed Tryd.func29 (by kernel_rfl) (by kernel_rfl) (by kernel_rfl)
      (Eq.mpr (f29.eq t0 t1 t2 h R) k)
/- 30 trellis/trellislaw9.pathsWay -/
def f30.T (t0 t1 : Value) (h : Hp) (R : Value → Hp → Prop) : Prop :=
  nw h (Value.cells t0) 52 ptr0 fun t2 h_1 =>
  nw h_1 (Value.cells t1) 52 ptr0 fun t3 h_2 =>
  bnd (fldE 0 t2) fun t5 =>
  bnd (ldS h_2 t5) fun t6 =>
  bnd (fldE 0 t3) fun t7 =>
  bnd (ldS h_2 t7) fun t8 =>
  bnd (binE .eql t6 t8) fun t9 =>
  bnd (bif isB t9 true then fldE 1 t2 else some undef) fun t11 =>
  bnd (bif isB t9 true then ldS h_2 t11 else some undef) fun t12 =>
  bnd (bif isB t9 true then fldE 1 t3 else some undef) fun t13 =>
  bnd (bif isB t9 true then ldS h_2 t13 else some undef) fun t14 =>
  guardT (isB t9 true) (fun K => CallsH Tryd.prog 24 #[t12, t14] h_2 K) h_2 fun t15 h_3 =>
  bnd ((asB t9).map fun t => bif t then t15 else (.bool false)) fun t16 =>
  bnd (bif isB t16 true then fldE 2 t2 else some undef) fun t18 =>
  bnd (bif isB t16 true then ldS h_3 t18 else some undef) fun t19 =>
  bnd (bif isB t16 true then fldE 2 t3 else some undef) fun t20 =>
  bnd (bif isB t16 true then ldS h_3 t20 else some undef) fun t21 =>
  guardT (isB t16 true) (fun K => CallsH Tryd.prog 24 #[t19, t21] h_3 K) h_3 fun t22 h_4 =>
  bnd ((asB t16).map fun t => bif t then t22 else (.bool false)) fun t23 =>
  R t23 h_4
theorem f30.eq (t0 t1 : Value) (h : Hp) (R : Value → Hp → Prop) : evC Tryd.prog (fun _ => []) (fun _ => []) (Tryd.f30.body.getD .skip) (env0 [t0, t1]) h (bodyQ Tryd.prog Tryd.f30.results.toList R) = f30.T t0 t1 h R := by kernel_rfl
theorem f30.ok {t0 t1 : Value} {h : Hp} {R : Value → Hp → Prop} (k : f30.T t0 t1 h R) : CallsH Tryd.prog 30 #[t0, t1] h R :=
    calls_of_evC (args := [t0, t1]) (c := Tryd.f30.body.getD .skip) (fun _ => []) (fun _ => []) follows_mixed Tryd.func30 (by kernel_rfl) (by kernel_rfl) (by kernel_rfl)
      (Eq.mpr (f30.eq t0 t1 h R) k)
/- 31 trellis/trellislaw9.pathsIsWay -/
/- slots [9, 10] -/
  def f31.L1 (h_2 : Hp) (t5 : Value) (t4 : Value) (R : Value → Hp → Prop) : Prop :=
  ∃ (I1 : List Value → Hp → Prop) (μ1 : List Value → Hp → Nat), I1 [(.int .i64 0), (.int .i64 0)] h_2 ∧
  ∀ t41 t42 t43 t44 t45 t49 t50 t51 t52 t53 t54 t55 t56 t57 t58 t59 t60 t61 t62 t63 t64 t65 t66 t48 t67 t68 t11 t12 t69 t70 t8 t71 t72 t73 t9 t46 t47 t10 : Value, ∀ (h_3 : Hp), I1 [t9, t10] h_3 →
  bnd (fldE 2 t5) fun t42_1 =>
  bnd (ldS h_3 t42_1) fun t43_1 =>
  bnd (lenE t43_1) fun t44_1 =>
  bnd (binE .lss t10 t44_1) fun t45_1 =>
  condT t45_1 (
  bnd (ldA 2 h_3 t4) fun t49_1 =>
  bnd (fldE 1 t5) fun t50_1 =>
  bnd (ldS h_3 t50_1) fun t51_1 =>
  bnd (idxE 1 t51_1 t10) fun t53_1 =>
  bnd (ldS h_3 t53_1) fun t54_1 =>
  bnd (fldE 1 t5) fun t55_1 =>
  bnd (ldS h_3 t55_1) fun t56_1 =>
  bnd (binE .add t10 (.int .i64 1)) fun t58_1 =>
  bnd (idxE 1 t56_1 t58_1) fun t59_1 =>
  bnd (ldS h_3 t59_1) fun t60_1 =>
  bnd (fldE 2 t5) fun t61_1 =>
  bnd (ldS h_3 t61_1) fun t62_1 =>
  bnd (idxE 1 t62_1 t10) fun t64_1 =>
  bnd (ldS h_3 t64_1) fun t65_1 =>
  CallsH Tryd.prog 58 #[t49_1, t54_1, t60_1, t65_1] h_3 fun t66_1 h_4 =>
  bnd (extE 0 t66_1) fun t67_1 =>
  bnd (extE 1 t66_1) fun t68_1 =>
  bnd (unE .not t68_1) fun t70_1 =>
  condT t70_1 (
  R (.bool false) h_4) (
  bnd (binE .add t9 t67_1) fun t73_1 =>
  bnd (binE .add t10 (.int .i64 1)) fun t47_1 =>
  (I1 [t73_1, t47_1] h_4 ∧ μ1 [t73_1, t47_1] h_4 < μ1 [t9, t10] h_3))) (
  bnd (fldE 0 t5) fun t75 =>
  bnd (ldS h_3 t75) fun t76 =>
  bnd (binE .eql t9 t76) fun t77 =>
  R t77 h_3)
def f31.T (t0 t1 t2 t3 : Value) (h : Hp) (R : Value → Hp → Prop) : Prop :=
  nw h (Value.cells t0) 26 ptr0 fun t4 h_1 =>
  nw h_1 (Value.cells t1) 52 ptr0 fun t5 h_2 =>
  bnd (fldE 1 t5) fun t13 =>
  bnd (ldS h_2 t13) fun t14 =>
  bnd (lenE t14) fun t15 =>
  bnd (fldE 2 t5) fun t16 =>
  bnd (ldS h_2 t16) fun t17 =>
  bnd (lenE t17) fun t18 =>
  bnd (binE .add t18 (.int .i64 1)) fun t19 =>
  bnd (binE .neq t15 t19) fun t20 =>
  bnd (bif isB t20 false then fldE 1 t5 else some undef) fun t22 =>
  bnd (bif isB t20 false then ldS h_2 t22 else some undef) fun t23 =>
  bnd (bif isB t20 false then idxE 1 t23 (.int .i64 0) else some undef) fun t24 =>
  bnd (bif isB t20 false then ldS h_2 t24 else some undef) fun t25 =>
  bnd (bif isB t20 false then binE .neq t25 (bif isB t20 false then t2 else undef) else some undef) fun t27 =>
  bnd ((asB t20).map fun t => bif t then (.bool true) else t27) fun t28 =>
  bnd (bif isB t28 false then fldE 1 t5 else some undef) fun t30 =>
  bnd (bif isB t28 false then ldS h_2 t30 else some undef) fun t31 =>
  bnd (bif isB t28 false then fldE 1 t5 else some undef) fun t32 =>
  bnd (bif isB t28 false then ldS h_2 t32 else some undef) fun t33 =>
  bnd (bif isB t28 false then lenE t33 else some undef) fun t34 =>
  bnd (bif isB t28 false then binE .sub t34 (.int .i64 1) else some undef) fun t35 =>
  bnd (bif isB t28 false then idxE 1 t31 t35 else some undef) fun t36 =>
  bnd (bif isB t28 false then ldS h_2 t36 else some undef) fun t37 =>
  bnd (bif isB t28 false then binE .neq t37 (bif isB t28 false then t3 else undef) else some undef) fun t39 =>
  bnd ((asB t28).map fun t => bif t then (.bool true) else t39) fun t40 =>
  condT t40 (
  R (.bool false) h_2) (
  (f31.L1 h_2 t5 t4 R))
theorem f31.eq (t0 t1 t2 t3 : Value) (h : Hp) (R : Value → Hp → Prop) : evC Tryd.prog (fun i => bif Nat.beq i 5 then [9, 10] else []) (fun _ => []) (Tryd.f31.body.getD .skip) (env0 [t0, t1, t2, t3]) h (bodyQ Tryd.prog Tryd.f31.results.toList R) = f31.T t0 t1 t2 t3 h R := by kernel_rfl
theorem f31.ok {t0 t1 t2 t3 : Value} {h : Hp} {R : Value → Hp → Prop} (k : f31.T t0 t1 t2 t3 h R) : CallsH Tryd.prog 31 #[t0, t1, t2, t3] h R :=
    calls_of_evC (args := [t0, t1, t2, t3]) (c := Tryd.f31.body.getD .skip) (fun i => bif Nat.beq i 5 then [9, 10] else []) (fun _ => []) follows_mixed Tryd.func31 (by kernel_rfl) (by kernel_rfl) (by kernel_rfl)
      (Eq.mpr (f31.eq t0 t1 t2 t3 h R) k)
/- 55 trellis/paths.Least$1 -/
def f55.T (t0 t1 : Value) (h : Hp) (R : Value → Hp → Prop) : Prop :=
  bnd (ldS h t1) fun t5 =>
  bnd (binE .eql t0 t5) fun t6 =>
  R t6 h
theorem f55.eq (t0 t1 : Value) (h : Hp) (R : Value → Hp → Prop) : evC Tryd.prog (fun _ => []) (fun _ => []) (Tryd.f55.body.getD .skip) (env0 [t0, t1]) h (bodyQ Tryd.prog Tryd.f55.results.toList R) = f55.T t0 t1 h R := by kernel_rfl
theorem f55.ok {t0 t1 : Value} {h : Hp} {R : Value → Hp → Prop} (k : f55.T t0 t1 h R) : CallsH Tryd.prog 55 #[t0, t1] h R :=
    calls_of_evC (args := [t0, t1]) (c := Tryd.f55.body.getD .skip) (fun _ => []) (fun _ => []) follows_mixed Tryd.func55 (by kernel_rfl) (by kernel_rfl) (by kernel_rfl)
      (Eq.mpr (f55.eq t0 t1 h R) k)
/- 56 slices.Reverse[[]int64,int64] -/
/- slots [2, 3] -/
  def f56.L1 (t6 : Value) (h : Hp) (t0 : Value) (R : Value → Hp → Prop) : Prop :=
  ∃ (I1 : List Value → Hp → Prop) (μ1 : List Value → Hp → Nat), I1 [(.int .i64 0), t6] h ∧
  ∀ t7 t8 t9 t14 t15 t16 t17 t18 t19 t20 t21 t22 t23 t24 t25 t26 t27 t10 t11 t12 t13 t2 t3 : Value, ∀ (h_1 : Hp), I1 [t2, t3] h_1 →
  bnd (binE .lss t2 t3) fun t9_1 =>
  condT t9_1 (
  bnd (idxE 1 t0 t3) fun t20_1 =>
  bnd (ldS h_1 t20_1) fun t21_1 =>
  bnd (idxE 1 t0 t2) fun t24_1 =>
  bnd (ldS h_1 t24_1) fun t25_1 =>
  bnd (idxE 1 t0 t2) fun t26_1 =>
  bnd (stE 1 h_1 t26_1 t21_1) fun h_2 =>
  bnd (idxE 1 t0 t3) fun t27_1 =>
  bnd (stE 1 h_2 t27_1 t25_1) fun h_3 =>
  bnd (binE .add t2 (.int .i64 1)) fun t11_1 =>
  bnd (binE .sub t3 (.int .i64 1)) fun t13_1 =>
  (I1 [t11_1, t13_1] h_3 ∧ μ1 [t11_1, t13_1] h_3 < μ1 [t2, t3] h_1)) (
  R (.tuple #[]) h_1)
def f56.T (t0 : Value) (h : Hp) (R : Value → Hp → Prop) : Prop :=
  bnd (lenE t0) fun t5 =>
  bnd (binE .sub t5 (.int .i64 1)) fun t6 =>
  (f56.L1 t6 h t0 R)
theorem f56.eq (t0 : Value) (h : Hp) (R : Value → Hp → Prop) : evC Tryd.prog (fun i => bif Nat.beq i 1 then [2, 3] else []) (fun _ => []) (Tryd.f56.body.getD .skip) (env0 [t0]) h (bodyQ Tryd.prog Tryd.f56.results.toList R) = f56.T t0 h R := by kernel_rfl
theorem f56.ok {t0 : Value} {h : Hp} {R : Value → Hp → Prop} (k : f56.T t0 h R) : CallsH Tryd.prog 56 #[t0] h R :=
    calls_of_evC (args := [t0]) (c := Tryd.f56.body.getD .skip) (fun i => bif Nat.beq i 1 then [2, 3] else []) (fun _ => []) follows_mixed Tryd.func56 (by kernel_rfl) (by kernel_rfl) (by kernel_rfl)
      (Eq.mpr (f56.eq t0 h R) k)
/- 57 trellis/trellisref9.arcTo -/
/- slots [11] -/
  def f57.L2 (h_5 : Hp) (t27_1 : Value) (t26_1 : Value) (t4 : Value) (t2 : Value) (t8 : Value) (t7 : Value) (R : Value → Hp → Prop) (I1 : List Value → Hp → Prop) (μ1 : List Value → Hp → Nat) (h_4 : Hp) : Prop :=
  ∃ (I2 : List Value → Hp → Prop) (μ2 : List Value → Hp → Nat), I2 [(.int .i64 0)] h_5 ∧
  ∀ t28_1 t29_1 t30_1 t31_1 t32_1 t33_1 t34_1 t35_1 t38_1 t39_1 t40_1 t41_1 t42_1 t43_1 t44_1 t45_1 t46_1 t47_1 t48_1 t49_1 t50_1 t51_1 t52_1 t53_1 t54_1 t55_1 t56_1 t57_1 t58_1 t59_1 t60_1 t61_1 t62_1 t63_1 t64_1 t65_1 t66_1 t67_1 t68_1 t69_1 t70_1 t71_1 t72_1 t73_1 t74_1 t75_1 t6_1 t36_1 t37_1 t11_1 : Value, ∀ (h_6 : Hp), I2 [t11_1] h_6 →
  bnd (binE .eql t27_1 (.int .i64 0)) fun t29_2 =>
  bnd (bif isB t29_2 true then lenE (bif isB t29_2 true then t26_1 else undef) else some undef) fun t33_2 =>
  bnd (bif isB t29_2 true then binE .lss (bif isB t29_2 true then t11_1 else undef) t33_2 else some undef) fun t34_2 =>
  bnd ((asB t29_2).map fun t => bif t then t34_2 else (.bool false)) fun t35_2 =>
  condT t35_2 (
  bnd (idxE 3 t26_1 t11_1) fun t40_2 =>
  bnd (fldE 1 t40_2) fun t41_2 =>
  bnd (ldS h_6 t41_2) fun t42_2 =>
  bnd (fldE 0 t4) fun t43_2 =>
  bnd (ldS h_6 t43_2) fun t44_2 =>
  bnd (idxE 2 t44_2 t2) fun t46_2 =>
  bnd (fldE 0 t46_2) fun t47_2 =>
  bnd (ldS h_6 t47_2) fun t48_2 =>
  bnd (binE .eql t42_2 t48_2) fun t49_2 =>
  bnd (bif isB t49_2 true then fldE 0 t4 else some undef) fun t51_2 =>
  bnd (bif isB t49_2 true then ldS h_6 t51_2 else some undef) fun t52_2 =>
  bnd (bif isB t49_2 true then idxE 2 t52_2 (bif isB t49_2 true then t8 else undef) else some undef) fun t54_2 =>
  bnd (bif isB t49_2 true then fldE 1 t54_2 else some undef) fun t55_2 =>
  bnd (bif isB t49_2 true then ldS h_6 t55_2 else some undef) fun t56_2 =>
  bnd (bif isB t49_2 true then idxE 3 (bif isB t49_2 true then t26_1 else undef) (bif isB t49_2 true then t11_1 else undef) else some undef) fun t59_2 =>
  bnd (bif isB t49_2 true then fldE 2 t59_2 else some undef) fun t60_2 =>
  bnd (bif isB t49_2 true then ldS h_6 t60_2 else some undef) fun t61_2 =>
  bnd (bif isB t49_2 true then binE .add t56_2 t61_2 else some undef) fun t62_2 =>
  bnd (bif isB t49_2 true then fldE 0 t4 else some undef) fun t63_2 =>
  bnd (bif isB t49_2 true then ldS h_6 t63_2 else some undef) fun t64_2 =>
  bnd (bif isB t49_2 true then idxE 2 t64_2 (bif isB t49_2 true then t2 else undef) else some undef) fun t66_2 =>
  bnd (bif isB t49_2 true then fldE 1 t66_2 else some undef) fun t67_2 =>
  bnd (bif isB t49_2 true then ldS h_6 t67_2 else some undef) fun t68_2 =>
  bnd (bif isB t49_2 true then binE .eql t62_2 t68_2 else some undef) fun t69_2 =>
  bnd ((asB t49_2).map fun t => bif t then t69_2 else (.bool false)) fun t70_2 =>
  condT t70_2 (
  bnd (idxE 3 t26_1 t11_1) fun t74_2 =>
  bnd (ldA 3 h_6 t74_2) fun t75_2 =>
  bnd (stE 3 h_6 t7 t75_2) fun h_7 =>
  bnd (ldA 3 h_7 t7) fun r7 =>
  R (.tuple #[t8, r7]) h_7) (
  bnd (binE .add t11_1 (.int .i64 1)) fun t37_2 =>
  (I2 [t37_2] h_6 ∧ μ2 [t37_2] h_6 < μ2 [t11_1] h_6))) (
  bnd (binE .add t8 (.int .i64 1)) fun t16_1 =>
  (I1 [t16_1] h_6 ∧ μ1 [t16_1] h_6 < μ1 [t8] h_4))
/- slots [8] -/
  def f57.L1 (h_3 : Hp) (t2 : Value) (t3 : Value) (t4 : Value) (t7 : Value) (R : Value → Hp → Prop) : Prop :=
  ∃ (I1 : List Value → Hp → Prop) (μ1 : List Value → Hp → Nat), I1 [(.int .i64 0)] h_3 ∧
  ∀ t12 t13 t14 t18 t19 t20 t21 t22 t23 t24 t25 t17 t26 t27 t9 t10 t28 t29 t30 t31 t32 t33 t34 t35 t38 t39 t40 t41 t42 t43 t44 t45 t46 t47 t48 t49 t50 t51 t52 t53 t54 t55 t56 t57 t58 t59 t60 t61 t62 t63 t64 t65 t66 t67 t68 t69 t70 t71 t72 t73 t74 t75 t6 t36 t37 t11 t15 t16 t8 : Value, ∀ (h_4 : Hp), I1 [t8] h_4 →
  bnd (binE .lss t8 t2) fun t14_1 =>
  condT t14_1 (
  bnd (ldA 2 h_4 t3) fun t18_1 =>
  bnd (fldE 0 t4) fun t19_1 =>
  bnd (ldS h_4 t19_1) fun t20_1 =>
  bnd (idxE 2 t20_1 t8) fun t22_1 =>
  bnd (fldE 0 t22_1) fun t23_1 =>
  bnd (ldS h_4 t23_1) fun t24_1 =>
  CallsH Tryd.prog 32 #[t18_1, t24_1] h_4 fun t25_1 h_5 =>
  bnd (extE 0 t25_1) fun t26_1 =>
  bnd (extE 1 t25_1) fun t27_1 =>
  (f57.L2 h_5 t27_1 t26_1 t4 t2 t8 t7 R I1 μ1 h_4)) (
  bnd ((fillS [(0, 1), (1, 1), (2, 1)] #[(.int .i64 0), (.int .i64 0), (.int .i64 0)] []).map .agg) fun t76 =>
  bnd (stE 3 h_4 t7 t76) fun h_8 =>
  bnd (ldA 3 h_8 t7) fun r7_1 =>
  R (.tuple #[(.int .i64 (-1)), r7_1]) h_8)
def f57.T (t0 t1 t2 : Value) (h : Hp) (R : Value → Hp → Prop) : Prop :=
  nw h (Value.cells t0) 26 ptr0 fun t3 h_1 =>
  nw h_1 (Value.cells t1) 100 ptr0 fun t4 h_2 =>
  nw h_2 #[(.int .i64 0), (.int .i64 0), (.int .i64 0)] 62 ptr0 fun t7 h_3 =>
  (f57.L1 h_3 t2 t3 t4 t7 R)
theorem f57.eq (t0 t1 t2 : Value) (h : Hp) (R : Value → Hp → Prop) : evC Tryd.prog (fun i => bif Nat.beq i 2 then [8] else bif Nat.beq i 6 then [11] else []) (fun _ => []) (Tryd.f57.body.getD .skip) (env0 [t0, t1, t2]) h (bodyQ Tryd.prog Tryd.f57.results.toList R) = f57.T t0 t1 t2 h R := by kernel_rfl
theorem f57.ok {t0 t1 t2 : Value} {h : Hp} {R : Value → Hp → Prop} (k : f57.T t0 t1 t2 h R) : CallsH Tryd.prog 57 #[t0, t1, t2] h R :=
    calls_of_evC (args := [t0, t1, t2]) (c := Tryd.f57.body.getD .skip) (fun i => bif Nat.beq i 2 then [8] else bif Nat.beq i 6 then [11] else []) (fun _ => []) follows_mixed Tryd.func57 (by kernel_rfl) (by kernel_rfl) (by kernel_rfl)
      (Eq.mpr (f57.eq t0 t1 t2 h R) k)
/- 58 trellis/trellislaw9.pathsArc -/
def f58.J1 (t14 : Value) (I1 : List Value → Hp → Prop) (j12 : Value) (j13 : Value) (hj : Hp) (μ1 : List Value → Hp → Nat) (t12 : Value) (t13 : Value) (h_3 : Hp) : Prop :=
  bnd (binE .add t14 (.int .i64 1)) fun t26_1 =>
  (I1 [j12, j13, t26_1] hj ∧ μ1 [j12, j13, t26_1] hj < μ1 [t12, t13, t14] h_3)
/- slots [12, 13, 14] -/
  def f58.L1 (h_2 : Hp) (t19 : Value) (t2 : Value) (t3 : Value) (R : Value → Hp → Prop) : Prop :=
  ∃ (I1 : List Value → Hp → Prop) (μ1 : List Value → Hp → Nat), I1 [(.int .i64 0), (.bool false), (.int .i64 0)] h_2 ∧
  ∀ t21 t22 t23 t24 t27 t28 t29 t30 t31 t32 t33 t34 t35 t36 t37 t38 t39 t40 t41 t42 t43 t44 t45 t46 t47 t48 t49 t50 t51 t52 t53 t54 t55 t56 t57 t58 t59 t60 t12 t13 t25 t26 t14 : Value, ∀ (h_3 : Hp), I1 [t12, t13, t14] h_3 →
  bnd (lenE t19) fun t23_1 =>
  bnd (binE .lss t14 t23_1) fun t24_1 =>
  condT t24_1 (
  bnd (idxE 3 t19 t14) fun t29_1 =>
  bnd (fldE 1 t29_1) fun t30_1 =>
  bnd (ldS h_3 t30_1) fun t31_1 =>
  bnd (binE .eql t31_1 t2) fun t33_1 =>
  bnd (bif isB t33_1 true then idxE 3 (bif isB t33_1 true then t19 else undef) (bif isB t33_1 true then t14 else undef) else some undef) fun t37_1 =>
  bnd (bif isB t33_1 true then fldE 0 t37_1 else some undef) fun t38_1 =>
  bnd (bif isB t33_1 true then ldS h_3 t38_1 else some undef) fun t39_1 =>
  bnd (bif isB t33_1 true then binE .eql t39_1 (bif isB t33_1 true then t3 else undef) else some undef) fun t41_1 =>
  bnd ((asB t33_1).map fun t => bif t then t41_1 else (.bool false)) fun t42_1 =>
  bnd (bif isB t42_1 true then unE .not (bif isB t42_1 true then t13 else undef) else some undef) fun t45_1 =>
  bnd (bif isB (bif isB t42_1 true then t45_1 else undef) false then idxE 3 (bif isB (bif isB t42_1 true then t45_1 else undef) false then t19 else undef) (bif isB (bif isB t42_1 true then t45_1 else undef) false then t14 else undef) else some undef) fun t49_1 =>
  bnd (bif isB (bif isB t42_1 true then t45_1 else undef) false then fldE 2 t49_1 else some undef) fun t50_1 =>
  bnd (bif isB (bif isB t42_1 true then t45_1 else undef) false then ldS h_3 t50_1 else some undef) fun t51_1 =>
  bnd (bif isB (bif isB t42_1 true then t45_1 else undef) false then binE .lss t51_1 (bif isB (bif isB t42_1 true then t45_1 else undef) false then t12 else undef) else some undef) fun t53_1 =>
  bnd (bif isB t42_1 true then ((asB (bif isB t42_1 true then t45_1 else undef)).map fun t => bif t then (.bool true) else t53_1) else some undef) fun t54_1 =>
  bnd ((asB t42_1).map fun t => bif t then t54_1 else (.bool false)) fun t55_1 =>
  condT t55_1 (
  bnd (idxE 3 t19 t14) fun t58_1 =>
  bnd (fldE 2 t58_1) fun t59_1 =>
  bnd (ldS h_3 t59_1) fun t60_1 =>
  (f58.J1 t14 I1 t60_1 (.bool true) h_3 μ1 t12 t13 h_3)) (
  (f58.J1 t14 I1 t12 t13 h_3 μ1 t12 t13 h_3))) (
  R (.tuple #[t12, t13]) h_3)
def f58.T (t0 t1 t2 t3 : Value) (h : Hp) (R : Value → Hp → Prop) : Prop :=
  nw h (Value.cells t0) 26 ptr0 fun t4 h_1 =>
  bnd (ldA 2 h_1 t4) fun t16 =>
  CallsH Tryd.prog 32 #[t16, t1] h_1 fun t18 h_2 =>
  bnd (extE 0 t18) fun t19 =>
  bnd (extE 1 t18) fun t20 =>
  (f58.L1 h_2 t19 t2 t3 R)
theorem f58.eq (t0 t1 t2 t3 : Value) (h : Hp) (R : Value → Hp → Prop) : evC Tryd.prog (fun i => bif Nat.beq i 5 then [12, 13, 14] else []) (fun _ => []) (Tryd.f58.body.getD .skip) (env0 [t0, t1, t2, t3]) h (bodyQ Tryd.prog Tryd.f58.results.toList R) = f58.T t0 t1 t2 t3 h R := by kernel_rfl
theorem f58.ok {t0 t1 t2 t3 : Value} {h : Hp} {R : Value → Hp → Prop} (k : f58.T t0 t1 t2 t3 h R) : CallsH Tryd.prog 58 #[t0, t1, t2, t3] h R :=
    calls_of_evC (args := [t0, t1, t2, t3]) (c := Tryd.f58.body.getD .skip) (fun i => bif Nat.beq i 5 then [12, 13, 14] else []) (fun _ => []) follows_mixed Tryd.func58 (by kernel_rfl) (by kernel_rfl) (by kernel_rfl)
      (Eq.mpr (f58.eq t0 t1 t2 t3 h R) k)
end Go.Proofs.YtkiakofohkecaaaDoor
