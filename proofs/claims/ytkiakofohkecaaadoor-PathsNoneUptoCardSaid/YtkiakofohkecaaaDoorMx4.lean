/- Each Go function as a formula over the heap, printed by a program of this claim, and that a call does what the formula says. No condition. -/
import Derived.Test.YtkiakofohkecaaaDoorE1
set_option linter.unusedVariables false
set_option maxRecDepth 100000
namespace Go.Proofs.YtkiakofohkecaaaDoor
open Go Go.Fw
/- 13 trellis/trellislaw9.PathsNone -/
def f13.T (t0 t1 t2 t3 : Value) (h : Hp) (R : Value → Hp → Prop) : Prop :=
  bnd ((fillS [(0, 2), (2, 1), (3, 1)] #[(.slice none 0 0), (.bool false), (.slice none 0 0), (.slice none 0 0)] []).map .agg) fun t30 =>
  nw h (Value.cells t30) 31 ptr0 fun t31 h_1 =>
  CallsH Tryd.prog 28 #[(.func (.func 19) #[t31] #[]), t0, t0] h_1 fun t37 h_2 =>
  bnd (extE 0 t37) fun t38 =>
  bnd (extE 1 t37) fun t39 =>
  bnd (extE 2 t37) fun t40 =>
  nw h_2 #[(.int .i64 0), (.slice none 0 0), (.slice none 0 0)] 52 ptr0 fun t10 h_3 =>
  bnd (stE 3 h_3 t10 t38) fun h_4 =>
  bnd (unE .not t39) fun t42 =>
  bnd (bif isB t42 false then binE .neq (bif isB t42 false then t40 else undef) (.int .i64 0) else some undef) fun t45 =>
  bnd ((asB t42).map fun t => bif t then (.bool true) else t45) fun t46 =>
  bnd (bif isB t46 false then ldA 3 h_4 t10 else some undef) fun t48 =>
  guardT (isB t46 false) (fun K => bnd (fillR 1 #[(.int .i64 0)] [(0, (bif isB t46 false then t0 else undef))]) fun c => nw h_4 c 2 (fun b => .slice (some ⟨b, 0, none⟩) 1 1) K) h_4 fun t50 h_5 =>
  bnd (bif isB t46 false then (fillS [(0, 1), (1, 1), (2, 1)] #[(.int .i64 0), (.slice none 0 0), (.slice none 0 0)] [(1, t50)]).map .agg else some undef) fun t51 =>
  guardT (isB t46 false) (fun K => CallsH Tryd.prog 30 #[t48, t51] h_5 K) h_5 fun t52 h_6 =>
  bnd (bif isB t46 false then unE .not t52 else some undef) fun t53 =>
  bnd ((asB t46).map fun t => bif t then (.bool true) else t53) fun t54 =>
  bnd (bif isB t54 false then nilE (bif isB t54 false then t31 else undef) else some undef) fun t57 =>
  bnd (bif isB t54 false then fldE 2 t57 else some undef) fun t58 =>
  bnd (bif isB t54 false then ldS h_6 t58 else some undef) fun t59 =>
  bnd (bif isB t54 false then lenE t59 else some undef) fun t60 =>
  bnd (bif isB t54 false then binE .neq t60 (.int .i64 0) else some undef) fun t61 =>
  bnd ((asB t54).map fun t => bif t then (.bool true) else t61) fun t62 =>
  condT t62 (
  R (.bool false) h_6) (
  CallsH Tryd.prog 28 #[.nilFunc, t0, t1] h_6 fun t66 h_7 =>
  bnd (extE 0 t66) fun t67 =>
  bnd (extE 1 t66) fun t68 =>
  bnd (extE 2 t66) fun t69 =>
  nw h_7 #[(.int .i64 0), (.slice none 0 0), (.slice none 0 0)] 52 ptr0 fun t13 h_8 =>
  bnd (stE 3 h_8 t13 t67) fun h_9 =>
  bnd (ldA 3 h_9 t13) fun t70 =>
  bnd ((fillS [(0, 1), (1, 1), (2, 1)] #[(.int .i64 0), (.slice none 0 0), (.slice none 0 0)] []).map .agg) fun t71 =>
  CallsH Tryd.prog 30 #[t70, t71] h_9 fun t72 h_10 =>
  bnd (unE .not t72) fun t73 =>
  bnd ((asB t73).map fun t => bif t then (.bool true) else (bif isB t73 false then t68 else undef)) fun t76 =>
  bnd (bif isB t76 false then binE .neq (bif isB t76 false then t69 else undef) (.int .i64 1) else some undef) fun t79 =>
  bnd ((asB t76).map fun t => bif t then (.bool true) else t79) fun t80 =>
  condT t80 (
  R (.bool false) h_10) (
  CallsH Tryd.prog 18 #[.nilFunc, t0, t1] h_10 fun t84 h_11 =>
  bnd (extE 0 t84) fun t85 =>
  bnd (extE 1 t84) fun t86 =>
  bnd (extE 2 t84) fun t87 =>
  bnd (binE .neq t85 (.int .i64 0)) fun t89 =>
  bnd ((asB t89).map fun t => bif t then (.bool true) else (bif isB t89 false then t86 else undef)) fun t92 =>
  bnd (bif isB t92 false then binE .neq (bif isB t92 false then t87 else undef) (.int .i64 1) else some undef) fun t95 =>
  bnd ((asB t92).map fun t => bif t then (.bool true) else t95) fun t96 =>
  condT t96 (
  R (.bool false) h_11) (
  CallsH Tryd.prog 22 #[.nilFunc, t0, t2] h_11 fun t100 h_12 =>
  bnd (extE 0 t100) fun t101 =>
  bnd (extE 1 t100) fun t102 =>
  CallsH Tryd.prog 37 #[t3] h_12 fun t105 h_13 =>
  CallsH Tryd.prog 38 #[t105, .nilFunc] h_13 fun t106 h_14 =>
  bnd (extE 0 t106) fun t107 =>
  bnd (extE 1 t106) fun t108 =>
  bnd (extE 2 t106) fun t109 =>
  CallsH Tryd.prog 37 #[t3] h_14 fun t112 h_15 =>
  CallsH Tryd.prog 34 #[t112, .nilFunc] h_15 fun t113 h_16 =>
  bnd (extE 0 t113) fun t114 =>
  bnd (extE 1 t113) fun t115 =>
  bnd (lenE t101) fun t117 =>
  bnd (binE .neq t117 (.int .i64 0)) fun t118 =>
  bnd (bif isB t118 false then lenE (bif isB t118 false then t107 else undef) else some undef) fun t121 =>
  bnd (bif isB t118 false then binE .neq t121 (.int .i64 0) else some undef) fun t122 =>
  bnd ((asB t118).map fun t => bif t then (.bool true) else t122) fun t123 =>
  bnd (bif isB t123 false then lenE (bif isB t123 false then t114 else undef) else some undef) fun t126 =>
  bnd (bif isB t123 false then binE .neq t126 (.int .i64 0) else some undef) fun t127 =>
  bnd ((asB t123).map fun t => bif t then (.bool true) else t127) fun t128 =>
  bnd ((asB t128).map fun t => bif t then (.bool true) else (bif isB t128 false then t108 else undef)) fun t131 =>
  bnd (bif isB t131 false then binE .neq (bif isB t131 false then t102 else undef) (.int .i64 1) else some undef) fun t134 =>
  bnd ((asB t131).map fun t => bif t then (.bool true) else t134) fun t135 =>
  bnd (bif isB t135 false then binE .neq (bif isB t135 false then t109 else undef) (.int .i64 1) else some undef) fun t138 =>
  bnd ((asB t135).map fun t => bif t then (.bool true) else t138) fun t139 =>
  bnd (bif isB t139 false then binE .neq (bif isB t139 false then t115 else undef) (.int .i64 1) else some undef) fun t142 =>
  bnd ((asB t139).map fun t => bif t then (.bool true) else t142) fun t143 =>
  condT t143 (
  R (.bool false) h_16) (
  CallsH Tryd.prog 41 #[.nilFunc] h_16 fun t145 h_17 =>
  bnd (nilBin .p .neq t145 (.pointer none)) fun t147 =>
  guardT (isB t147 false) (fun K => CallsH Tryd.prog 42 #[(bif isB t147 false then t145 else undef)] h_17 K) h_17 fun t150 h_18 =>
  bnd (bif isB t147 false then binE .neq t150 (.int .i64 0) else some undef) fun t151 =>
  bnd ((asB t147).map fun t => bif t then (.bool true) else t151) fun t152 =>
  condT t152 (
  R (.bool false) h_18) (
  CallsH Tryd.prog 43 #[t145, t0] h_18 fun t155 h_19 =>
  CallsH Tryd.prog 44 #[t145] h_19 fun t158 h_20 =>
  bnd (extE 0 t158) fun t159 =>
  bnd (extE 1 t158) fun t160 =>
  bnd (binE .eql t159 (.int .i64 0)) fun t162 =>
  bnd (bif isB t162 true then unE .not (bif isB t162 true then t160 else undef) else some undef) fun t165 =>
  bnd ((asB t162).map fun t => bif t then t165 else (.bool false)) fun t166 =>
  guardT (isB t166 true) (fun K => CallsH Tryd.prog 42 #[(bif isB t166 true then t145 else undef)] h_20 K) h_20 fun t169 h_21 =>
  bnd (bif isB t166 true then binE .eql t169 (.int .i64 0) else some undef) fun t170 =>
  bnd ((asB t166).map fun t => bif t then t170 else (.bool false)) fun t171 =>
  R t171 h_21)))))
theorem f13.eq (t0 t1 t2 t3 : Value) (h : Hp) (R : Value → Hp → Prop) : evC Tryd.prog (fun _ => []) (fun _ => []) (Tryd.f13.body.getD .skip) (env0 [t0, t1, t2, t3]) h (bodyQ Tryd.prog Tryd.f13.results.toList R) = f13.T t0 t1 t2 t3 h R := by kernel_rfl
theorem f13.ok {t0 t1 t2 t3 : Value} {h : Hp} {R : Value → Hp → Prop} (k : f13.T t0 t1 t2 t3 h R) : CallsH Tryd.prog 13 #[t0, t1, t2, t3] h R :=
    calls_of_evC (args := [t0, t1, t2, t3]) (c := Tryd.f13.body.getD .skip) (fun _ => []) (fun _ => []) follows_mixed Tryd.func13 (by kernel_rfl) (by kernel_rfl) (by kernel_rfl)
      (Eq.mpr (f13.eq t0 t1 t2 t3 h R) k)
/- 34 trellis/paths.Parts -/
/- slots [55] -/
  def f34.L3 (h_9 : Hp) (t54_1 : Value) (t53_1 : Value) (t8 : Value) (t49_1 : Value) (t46 : Value) (I2 : List Value → Hp → Prop) (μ2 : List Value → Hp → Nat) : Prop :=
  ∃ (I3 : List Value → Hp → Prop) (μ3 : List Value → Hp → Nat), I3 [(.int .i64 0)] h_9 ∧
  ∀ t56_1 t57_1 t58_1 t15_1 t59_1 t60_1 t61_1 t62_1 t63_1 t64_1 t16_1 t17_1 t65_1 t66_1 t67_1 t68_1 t69_1 t70_1 t71_1 t72_1 t55_1 : Value, ∀ (h_10 : Hp), I3 [t55_1] h_10 →
  bnd (binE .lss t55_1 t54_1) fun t56_2 =>
  condT t56_2 (
  bnd (idxE 1 t53_1 t55_1) fun t57_2 =>
  bnd (ldS h_10 t57_2) fun t58_2 =>
  callV Tryd.prog (.func (.func 60) #[] #[t8]) #[t49_1] h_10 fun t61_2 h_11 =>
  callV Tryd.prog (.func (.func 60) #[] #[t8]) #[t58_2] h_11 fun t64_2 h_12 =>
  bnd (ldS h_12 t8) fun t65_2 =>
  prS Tryd.prog (Go.Builtin.max_ #[2, 2] 2 #[t61_2, t64_2]) fun t68_2 =>
  prS Tryd.prog (Go.Builtin.min_ #[2, 2] 2 #[t61_2, t64_2]) fun t71_2 =>
  efS Tryd.prog (Go.Instr.mapUpdate 115 t65_2 t68_2 t71_2) h_12 fun _ h_13 =>
  bnd (binE .add t55_1 (.int .i64 1)) fun t72_2 =>
  (I3 [t72_2] h_13 ∧ μ3 [t72_2] h_13 < μ3 [t55_1] h_10)) (
  bnd (binE .add t46 (.int .i64 1)) fun t73_1 =>
  (I2 [t73_1] h_10 ∧ μ2 [t73_1] h_10 < μ2 [t46] h_9))
/- slots [18, 76] -/
  def f34.L4 (h_9 : Hp) (t75 : Value) (t0 : Value) (t8 : Value) (R : Value → Hp → Prop) : Prop :=
  ∃ (I4 : List Value → Hp → Prop) (μ4 : List Value → Hp → Nat), I4 [(.slice none 0 0), (.int .i64 0)] h_9 ∧
  ∀ t77 t78 t79 t20 t80 t81 t82 t83 t84 t85 t18 t86 t76 : Value, ∀ (h_14 : Hp), I4 [t18, t76] h_14 →
  bnd (binE .lss t76 t75) fun t77_1 =>
  condT t77_1 (
  bnd (idxE 1 t0 t76) fun t78_1 =>
  bnd (ldS h_14 t78_1) fun t79_1 =>
  callV Tryd.prog (.func (.func 60) #[] #[t8]) #[t79_1] h_14 fun t83_1 h_15 =>
  bnd (fillR 1 #[(.int .i64 0)] [(0, t83_1)]) fun c =>
  nw h_15 c 2 (fun b => .slice (some ⟨b, 0, none⟩) 1 1) fun t84_1 h_16 =>
  efS Tryd.prog (Go.Builtin.append_ #[28, 28] 28 #[t18, t84_1]) h_16 fun t85_1 h_17 =>
  bnd (binE .add t76 (.int .i64 1)) fun t86_1 =>
  (I4 [t85_1, t86_1] h_17 ∧ μ4 [t85_1, t86_1] h_17 < μ4 [t18, t76] h_14)) (
  R (.tuple #[t18, (.int .i64 0)]) h_14)
/- slots [46] -/
  def f34.L2 (h_7 : Hp) (t45 : Value) (t44 : Value) (t6 : Value) (t8 : Value) (t0 : Value) (R : Value → Hp → Prop) : Prop :=
  ∃ (I2 : List Value → Hp → Prop) (μ2 : List Value → Hp → Nat), I2 [(.int .i64 0)] h_7 ∧
  ∀ t47 t48 t49 t13 t50 t51 t52 t53 t54 t56 t57 t58 t15 t59 t60 t61 t62 t63 t64 t16 t17 t65 t66 t67 t68 t69 t70 t71 t72 t55 t73 t46 : Value, ∀ (h_9 : Hp), I2 [t46] h_9 →
  bnd (binE .lss t46 t45) fun t47_1 =>
  condT t47_1 (
  bnd (idxE 1 t44 t46) fun t48_1 =>
  bnd (ldS h_9 t48_1) fun t49_1 =>
  bnd (fldE 1 t6) fun t50_1 =>
  bnd (ldS h_9 t50_1) fun t51_1 =>
  rdS Tryd.prog (Go.Instr.lookup 110 t51_1 t49_1 false) h_9 fun t53_1 =>
  bnd (lenE t53_1) fun t54_1 =>
  (f34.L3 h_9 t54_1 t53_1 t8 t49_1 t46 I2 μ2)) (
  bnd (lenE t0) fun t75 =>
  (f34.L4 h_9 t75 t0 t8 R))
/- slots [34] -/
  def f34.L1 (h_6 : Hp) (t33 : Value) (t32 : Value) (t8 : Value) (t6 : Value) (t0 : Value) (R : Value → Hp → Prop) : Prop :=
  ∃ (I1 : List Value → Hp → Prop) (μ1 : List Value → Hp → Nat), I1 [(.int .i64 0)] h_6 ∧
  ∀ t35 t36 t37 t10 t38 t39 t40 t41 t34 : Value, ∀ (h_7 : Hp), I1 [t34] h_7 →
  bnd (binE .lss t34 t33) fun t35_1 =>
  condT t35_1 (
  bnd (idxE 1 t32 t34) fun t36_1 =>
  bnd (ldS h_7 t36_1) fun t37_1 =>
  bnd (ldS h_7 t8) fun t38_1 =>
  efS Tryd.prog (Go.Instr.mapUpdate 115 t38_1 t37_1 t37_1) h_7 fun _ h_8 =>
  bnd (binE .add t34 (.int .i64 1)) fun t41_1 =>
  (I1 [t41_1] h_8 ∧ μ1 [t41_1] h_8 < μ1 [t34] h_7)) (
  bnd (fldE 0 t6) fun t43 =>
  bnd (ldS h_7 t43) fun t44 =>
  bnd (lenE t44) fun t45 =>
  (f34.L2 h_7 t45 t44 t6 t8 t0 R))
def f34.T (t0 t1 : Value) (h : Hp) (R : Value → Hp → Prop) : Prop :=
  CallsH Tryd.prog 59 #[t0, t1] h fun t24 h_1 =>
  bnd (extE 0 t24) fun t25 =>
  bnd (extE 1 t24) fun t26 =>
  nw h_1 #[(.slice none 0 0), (.map none)] 112 ptr0 fun t6 h_2 =>
  bnd (stE 2 h_2 t6 t25) fun h_3 =>
  bnd (binE .neq t26 (.int .i64 0)) fun t28 =>
  condT t28 (
  R (.tuple #[(.slice none 0 0), t26]) h_3) (
  nwM h_3 fun t30 h_4 =>
  nw h_4 #[(.map none)] 115 ptr0 fun t8 h_5 =>
  bnd (stE 1 h_5 t8 t30) fun h_6 =>
  bnd (fldE 0 t6) fun t31 =>
  bnd (ldS h_6 t31) fun t32 =>
  bnd (lenE t32) fun t33 =>
  (f34.L1 h_6 t33 t32 t8 t6 t0 R))
theorem f34.eq (t0 t1 : Value) (h : Hp) (R : Value → Hp → Prop) : evC Tryd.prog (fun i => bif Nat.beq i 6 then [34] else bif Nat.beq i 12 then [46] else bif Nat.beq i 15 then [55] else bif Nat.beq i 23 then [18, 76] else []) (fun _ => []) (Tryd.f34.body.getD .skip) (env0 [t0, t1]) h (bodyQ Tryd.prog Tryd.f34.results.toList R) = f34.T t0 t1 h R := by kernel_rfl
theorem f34.ok {t0 t1 : Value} {h : Hp} {R : Value → Hp → Prop} (k : f34.T t0 t1 h R) : CallsH Tryd.prog 34 #[t0, t1] h R :=
    calls_of_evC (args := [t0, t1]) (c := Tryd.f34.body.getD .skip) (fun i => bif Nat.beq i 6 then [34] else bif Nat.beq i 12 then [46] else bif Nat.beq i 15 then [55] else bif Nat.beq i 23 then [18, 76] else []) (fun _ => []) follows_mixed Tryd.func34 (by kernel_rfl) (by kernel_rfl) (by kernel_rfl)
      (Eq.mpr (f34.eq t0 t1 h R) k)
/- 37 trellis/trellislaw9.pathsCopy -/
def f37.T (t0 : Value) (h : Hp) (R : Value → Hp → Prop) : Prop :=
  bnd (lenE t0) fun t5 =>
  bnd (binE .add t5 (.int .i64 2)) fun t6 =>
  efS Tryd.prog (Go.Instr.makeSlice 28 (.int .i64 0) t6) h fun t7 h_1 =>
  efS Tryd.prog (Go.Builtin.append_ #[28, 28] 28 #[t7, t0]) h_1 fun t10 h_2 =>
  R t10 h_2
theorem f37.eq (t0 : Value) (h : Hp) (R : Value → Hp → Prop) : evC Tryd.prog (fun _ => []) (fun _ => []) (Tryd.f37.body.getD .skip) (env0 [t0]) h (bodyQ Tryd.prog Tryd.f37.results.toList R) = f37.T t0 h R := by kernel_rfl
theorem f37.ok {t0 : Value} {h : Hp} {R : Value → Hp → Prop} (k : f37.T t0 h R) : CallsH Tryd.prog 37 #[t0] h R :=
    calls_of_evC (args := [t0]) (c := Tryd.f37.body.getD .skip) (fun _ => []) (fun _ => []) follows_mixed Tryd.func37 (by kernel_rfl) (by kernel_rfl) (by kernel_rfl)
      (Eq.mpr (f37.eq t0 h R) k)
/- 38 trellis/paths.Order -/
/- slots [41] -/
  def f38.L2 (h_7 : Hp) (t40_1 : Value) (t38_1 : Value) (t31 : Value) (I1 : List Value → Hp → Prop) (μ1 : List Value → Hp → Nat) (h_6 : Hp) : Prop :=
  ∃ (I2 : List Value → Hp → Prop) (μ2 : List Value → Hp → Nat), I2 [(.int .i64 0)] h_7 ∧
  ∀ t42_1 t43_1 t44_1 t13_1 t45_1 t46_1 t47_1 t48_1 t49_1 t41_1 : Value, ∀ (h_8 : Hp), I2 [t41_1] h_8 →
  bnd (binE .lss t41_1 t40_1) fun t42_2 =>
  condT t42_2 (
  bnd (idxE 1 t38_1 t41_1) fun t43_2 =>
  bnd (ldS h_8 t43_2) fun t44_2 =>
  rdS Tryd.prog (Go.Instr.lookup 122 t31 t44_2 false) h_8 fun t47_2 =>
  bnd (binE .add t47_2 (.int .i64 1)) fun t48_2 =>
  efS Tryd.prog (Go.Instr.mapUpdate 122 t31 t44_2 t48_2) h_8 fun _ h_9 =>
  bnd (binE .add t41_1 (.int .i64 1)) fun t49_2 =>
  (I2 [t49_2] h_9 ∧ μ2 [t49_2] h_9 < μ2 [t41_1] h_8)) (
  (I1 [] h_8 ∧ μ1 [] h_8 < μ1 [] h_6))
def f38.J1 (t54 : Value) (I3 : List Value → Hp → Prop) (hj : Hp) (μ3 : List Value → Hp → Nat) (h_11 : Hp) : Prop :=
  bnd (binE .add t54 (.int .i64 1)) fun t65_1 =>
  (I3 [t65_1] hj ∧ μ3 [t65_1] hj < μ3 [t54] h_11)
def f38.J2 (t82_1 : Value) (I5 : List Value → Hp → Prop) (hj_1 : Hp) (μ5 : List Value → Hp → Nat) (h_17 : Hp) : Prop :=
  bnd (binE .add t82_1 (.int .i64 1)) fun t97_2 =>
  (I5 [t97_2] hj_1 ∧ μ5 [t97_2] hj_1 < μ5 [t82_1] h_17)
/- slots [82] -/
  def f38.L5 (h_16 : Hp) (t81_1 : Value) (t80_1 : Value) (t31 : Value) (t50 : Value) (I4 : List Value → Hp → Prop) (t76_1 : Value) (μ4 : List Value → Hp → Nat) (t17 : Value) (h_13 : Hp) : Prop :=
  ∃ (I5 : List Value → Hp → Prop) (μ5 : List Value → Hp → Nat), I5 [(.int .i64 0)] h_16 ∧
  ∀ t83_1 t84_1 t85_1 t21_1 t86_1 t87_1 t88_1 t89_1 t90_1 t91_1 t92_1 t93_1 t94_1 t95_1 t96_1 t97_1 t82_1 : Value, ∀ (h_17 : Hp), I5 [t82_1] h_17 →
  bnd (binE .lss t82_1 t81_1) fun t83_2 =>
  condT t83_2 (
  bnd (idxE 1 t80_1 t82_1) fun t84_2 =>
  bnd (ldS h_17 t84_2) fun t85_2 =>
  rdS Tryd.prog (Go.Instr.lookup 122 t31 t85_2 false) h_17 fun t88_2 =>
  bnd (binE .sub t88_2 (.int .i64 1)) fun t89_2 =>
  efS Tryd.prog (Go.Instr.mapUpdate 122 t31 t85_2 t89_2) h_17 fun _ h_18 =>
  rdS Tryd.prog (Go.Instr.lookup 122 t31 t85_2 false) h_18 fun t92_2 =>
  bnd (binE .eql t92_2 (.int .i64 0)) fun t93_2 =>
  condT t93_2 (
  CallsH Tryd.prog 43 #[t50, t85_2] h_18 fun t96_2 h_19 =>
  (f38.J2 t82_1 I5 h_19 μ5 h_17)) (
  (f38.J2 t82_1 I5 h_18 μ5 h_17))) (
  (I4 [t76_1] h_17 ∧ μ4 [t76_1] h_17 < μ4 [t17] h_13))
/- slots [17] -/
  def f38.L4 (h_11 : Hp) (t50 : Value) (t7 : Value) (R : Value → Hp → Prop) (t31 : Value) : Prop :=
  ∃ (I4 : List Value → Hp → Prop) (μ4 : List Value → Hp → Nat), I4 [(.slice none 0 0)] h_11 ∧
  ∀ t67 t68 t66 t69 t70 t18 t19 t71 t72 t73 t74 t75 t76 t17 t77 t78 t79 t80 t81 t83 t84 t85 t21 t86 t87 t88 t89 t90 t91 t92 t93 t94 t95 t96 t97 t82 : Value, ∀ (h_13 : Hp), I4 [t17] h_13 →
  CallsH Tryd.prog 44 #[t50] h_13 fun t68_1 h_14 =>
  bnd (extE 0 t68_1) fun t69_1 =>
  bnd (extE 1 t68_1) fun t70_1 =>
  bnd (unE .not t70_1) fun t72_1 =>
  condT t72_1 (
  bnd (lenE t17) fun t99 =>
  bnd (fldE 0 t7) fun t100 =>
  bnd (ldS h_14 t100) fun t101 =>
  bnd (lenE t101) fun t102 =>
  bnd (binE .lss t99 t102) fun t103 =>
  condT t103 (
  R (.tuple #[(.slice none 0 0), (.bool false), (.int .i64 0)]) h_14) (
  R (.tuple #[t17, (.bool true), (.int .i64 0)]) h_14)) (
  bnd (fillR 1 #[(.int .i64 0)] [(0, t69_1)]) fun c =>
  nw h_14 c 2 (fun b => .slice (some ⟨b, 0, none⟩) 1 1) fun t75_1 h_15 =>
  efS Tryd.prog (Go.Builtin.append_ #[28, 28] 28 #[t17, t75_1]) h_15 fun t76_1 h_16 =>
  bnd (fldE 1 t7) fun t77_1 =>
  bnd (ldS h_16 t77_1) fun t78_1 =>
  rdS Tryd.prog (Go.Instr.lookup 110 t78_1 t69_1 false) h_16 fun t80_1 =>
  bnd (lenE t80_1) fun t81_1 =>
  (f38.L5 h_16 t81_1 t80_1 t31 t50 I4 t76_1 μ4 t17 h_13))
/- slots [54] -/
  def f38.L3 (h_10 : Hp) (t53 : Value) (t52 : Value) (t31 : Value) (t50 : Value) (t7 : Value) (R : Value → Hp → Prop) : Prop :=
  ∃ (I3 : List Value → Hp → Prop) (μ3 : List Value → Hp → Nat), I3 [(.int .i64 0)] h_10 ∧
  ∀ t55 t56 t57 t16 t58 t59 t60 t61 t62 t63 t64 t65 t54 : Value, ∀ (h_11 : Hp), I3 [t54] h_11 →
  bnd (binE .lss t54 t53) fun t55_1 =>
  condT t55_1 (
  bnd (idxE 1 t52 t54) fun t56_1 =>
  bnd (ldS h_11 t56_1) fun t57_1 =>
  rdS Tryd.prog (Go.Instr.lookup 122 t31 t57_1 false) h_11 fun t60_1 =>
  bnd (binE .eql t60_1 (.int .i64 0)) fun t61_1 =>
  condT t61_1 (
  CallsH Tryd.prog 43 #[t50, t57_1] h_11 fun t64_1 h_12 =>
  (f38.J1 t54 I3 h_12 μ3 h_11)) (
  (f38.J1 t54 I3 h_11 μ3 h_11))) (
  (f38.L4 h_11 t50 t7 R t31))
/- slots [] -/
  def f38.L1 (h_5 : Hp) (t34 : Value) (t31 : Value) (t7 : Value) (R : Value → Hp → Prop) : Prop :=
  ∃ (I1 : List Value → Hp → Prop) (μ1 : List Value → Hp → Nat), I1 [] h_5 ∧
  ∀ t35 t36 t37 t38 t11 t39 t40 t42 t43 t44 t13 t45 t46 t47 t48 t49 t41 : Value, ∀ (h_6 : Hp), I1 [] h_6 →
  efS Tryd.prog (Go.Instr.next t34 false 0) h_6 fun t35_1 h_7 =>
  bnd (extE 0 t35_1) fun t36_1 =>
  condT t36_1 (
  rdS Tryd.prog (Go.Instr.entry t34) h_7 fun t37_1 =>
  bnd (extE 1 t37_1) fun t38_1 =>
  bnd (lenE t38_1) fun t40_1 =>
  (f38.L2 h_7 t40_1 t38_1 t31 I1 μ1 h_6)) (
  CallsH Tryd.prog 41 #[(.func (.func 63) #[] #[])] h_7 fun t50 h_10 =>
  bnd (fldE 0 t7) fun t51 =>
  bnd (ldS h_10 t51) fun t52 =>
  bnd (lenE t52) fun t53 =>
  (f38.L3 h_10 t53 t52 t31 t50 t7 R))
def f38.T (t0 t1 : Value) (h : Hp) (R : Value → Hp → Prop) : Prop :=
  CallsH Tryd.prog 59 #[t0, t1] h fun t25 h_1 =>
  bnd (extE 0 t25) fun t26 =>
  bnd (extE 1 t25) fun t27 =>
  nw h_1 #[(.slice none 0 0), (.map none)] 112 ptr0 fun t7 h_2 =>
  bnd (stE 2 h_2 t7 t26) fun h_3 =>
  bnd (binE .neq t27 (.int .i64 0)) fun t29 =>
  condT t29 (
  R (.tuple #[(.slice none 0 0), (.bool false), t27]) h_3) (
  nwM h_3 fun t31 h_4 =>
  bnd (fldE 1 t7) fun t32 =>
  bnd (ldS h_4 t32) fun t33 =>
  efS Tryd.prog (Go.Instr.range 110 t33) h_4 fun t34 h_5 =>
  (f38.L1 h_5 t34 t31 t7 R))
theorem f38.eq (t0 t1 : Value) (h : Hp) (R : Value → Hp → Prop) : evC Tryd.prog (fun i => bif Nat.beq i 6 then [] else bif Nat.beq i 9 then [41] else bif Nat.beq i 15 then [54] else bif Nat.beq i 21 then [17] else bif Nat.beq i 25 then [82] else []) (fun _ => []) (Tryd.f38.body.getD .skip) (env0 [t0, t1]) h (bodyQ Tryd.prog Tryd.f38.results.toList R) = f38.T t0 t1 h R := by kernel_rfl
theorem f38.ok {t0 t1 : Value} {h : Hp} {R : Value → Hp → Prop} (k : f38.T t0 t1 h R) : CallsH Tryd.prog 38 #[t0, t1] h R :=
    calls_of_evC (args := [t0, t1]) (c := Tryd.f38.body.getD .skip) (fun i => bif Nat.beq i 6 then [] else bif Nat.beq i 9 then [41] else bif Nat.beq i 15 then [54] else bif Nat.beq i 21 then [17] else bif Nat.beq i 25 then [82] else []) (fun _ => []) follows_mixed Tryd.func38 (by kernel_rfl) (by kernel_rfl) (by kernel_rfl)
      (Eq.mpr (f38.eq t0 t1 h R) k)
/- 41 trellis/paths.NewHeap[int64] -/
def f41.T (t0 : Value) (h : Hp) (R : Value → Hp → Prop) : Prop :=
  bnd (nilBin .f .eql t0 .nilFunc) fun t4 =>
  condT t4 (
  R (.pointer none) h) (
  bnd ((fillS [(0, 1), (1, 1), (2, 1)] #[.nilFunc, (.slice none 0 0), (.int .i64 0)] [(0, t0)]).map .agg) fun t6 =>
  nw h (Value.cells t6) 127 ptr0 fun t7 h_1 =>
  R t7 h_1)
theorem f41.eq (t0 : Value) (h : Hp) (R : Value → Hp → Prop) : evC Tryd.prog (fun _ => []) (fun _ => []) (Tryd.f41.body.getD .skip) (env0 [t0]) h (bodyQ Tryd.prog Tryd.f41.results.toList R) = f41.T t0 h R := by kernel_rfl
theorem f41.ok {t0 : Value} {h : Hp} {R : Value → Hp → Prop} (k : f41.T t0 h R) : CallsH Tryd.prog 41 #[t0] h R :=
    calls_of_evC (args := [t0]) (c := Tryd.f41.body.getD .skip) (fun _ => []) (fun _ => []) follows_mixed Tryd.func41 (by kernel_rfl) (by kernel_rfl) (by kernel_rfl)
      (Eq.mpr (f41.eq t0 h R) k)
/- 42 (*trellis/paths.Heap[int64]).Len -/
def f42.T (t0 : Value) (h : Hp) (R : Value → Hp → Prop) : Prop :=
  bnd (nilBin .p .eql t0 (.pointer none)) fun t4 =>
  condT t4 (
  R (.int .i64 0) h) (
  bnd (nilE t0) fun t6 =>
  bnd (fldE 1 t6) fun t7 =>
  bnd (ldS h t7) fun t8 =>
  bnd (lenE t8) fun t9 =>
  R t9 h)
theorem f42.eq (t0 : Value) (h : Hp) (R : Value → Hp → Prop) : evC Tryd.prog (fun _ => []) (fun _ => []) (Tryd.f42.body.getD .skip) (env0 [t0]) h (bodyQ Tryd.prog Tryd.f42.results.toList R) = f42.T t0 h R := by kernel_rfl
theorem f42.ok {t0 : Value} {h : Hp} {R : Value → Hp → Prop} (k : f42.T t0 h R) : CallsH Tryd.prog 42 #[t0] h R :=
    calls_of_evC (args := [t0]) (c := Tryd.f42.body.getD .skip) (fun _ => []) (fun _ => []) follows_mixed Tryd.func42 (by kernel_rfl) (by kernel_rfl) (by kernel_rfl)
      (Eq.mpr (f42.eq t0 h R) k)
/- 43 (*trellis/paths.Heap[int64]).Push -/
/- slots [4] -/
  def f43.L1 (t34 : Value) (h_4 : Hp) (t0 : Value) (R : Value → Hp → Prop) : Prop :=
  ∃ (I1 : List Value → Hp → Prop) (μ1 : List Value → Hp → Nat), I1 [t34] h_4 ∧
  ∀ t35 t36 t37 t38 t39 t40 t41 t42 t43 t44 t48 t49 t50 t51 t52 t53 t45 t46 t47 t4 : Value, ∀ (h_5 : Hp), I1 [t4] h_5 →
  bnd (binE .gtr t4 (.int .i64 0)) fun t36_1 =>
  bnd (bif isB t36_1 true then binE .sub (bif isB t36_1 true then t4 else undef) (.int .i64 1) else some undef) fun t41_1 =>
  bnd (bif isB t36_1 true then binE .quo t41_1 (.int .i64 2) else some undef) fun t42_1 =>
  guardT (isB t36_1 true) (fun K => CallsH Tryd.prog 65 #[(bif isB t36_1 true then t0 else undef), (bif isB t36_1 true then t4 else undef), t42_1] h_5 K) h_5 fun t43_1 h_6 =>
  bnd ((asB t36_1).map fun t => bif t then t43_1 else (.bool false)) fun t44_1 =>
  condT t44_1 (
  bnd (binE .sub t4 (.int .i64 1)) fun t51_1 =>
  bnd (binE .quo t51_1 (.int .i64 2)) fun t52_1 =>
  CallsH Tryd.prog 66 #[t0, t4, t52_1] h_6 fun t53_1 h_7 =>
  bnd (binE .sub t4 (.int .i64 1)) fun t46_1 =>
  bnd (binE .quo t46_1 (.int .i64 2)) fun t47_1 =>
  (I1 [t47_1] h_7 ∧ μ1 [t47_1] h_7 < μ1 [t4] h_5)) (
  R (.tuple #[]) h_6)
def f43.T (t0 t1 : Value) (h : Hp) (R : Value → Hp → Prop) : Prop :=
  bnd (nilBin .p .eql t0 (.pointer none)) fun t6 =>
  condT t6 (
  R (.tuple #[]) h) (
  bnd (nilE t0) fun t9 =>
  bnd (fldE 1 t9) fun t10 =>
  bnd (ldS h t10) fun t11 =>
  bnd (nilE t0) fun t14 =>
  bnd (fldE 2 t14) fun t15 =>
  bnd (ldS h t15) fun t16 =>
  bnd ((fillS [(0, 1), (1, 1)] #[(.int .i64 0), (.int .i64 0)] [(0, t1), (1, t16)]).map .agg) fun t17 =>
  bnd (fillR 2 #[(.int .i64 0), (.int .i64 0)] [(0, t17)]) fun c =>
  nw h c 129 (fun b => .slice (some ⟨b, 0, none⟩) 1 1) fun t18 h_1 =>
  efS Tryd.prog (Go.Builtin.append_ #[125, 125] 125 #[t11, t18]) h_1 fun t19 h_2 =>
  bnd (nilE t0) fun t20 =>
  bnd (fldE 1 t20) fun t21 =>
  bnd (stE 1 h_2 t21 t19) fun h_3 =>
  bnd (nilE t0) fun t23 =>
  bnd (fldE 2 t23) fun t24 =>
  bnd (ldS h_3 t24) fun t25 =>
  bnd (binE .add t25 (.int .i64 1)) fun t26 =>
  bnd (nilE t0) fun t27 =>
  bnd (fldE 2 t27) fun t28 =>
  bnd (stE 1 h_3 t28 t26) fun h_4 =>
  bnd (nilE t0) fun t30 =>
  bnd (fldE 1 t30) fun t31 =>
  bnd (ldS h_4 t31) fun t32 =>
  bnd (lenE t32) fun t33 =>
  bnd (binE .sub t33 (.int .i64 1)) fun t34 =>
  (f43.L1 t34 h_4 t0 R))
theorem f43.eq (t0 t1 : Value) (h : Hp) (R : Value → Hp → Prop) : evC Tryd.prog (fun i => bif Nat.beq i 4 then [4] else []) (fun _ => []) (Tryd.f43.body.getD .skip) (env0 [t0, t1]) h (bodyQ Tryd.prog Tryd.f43.results.toList R) = f43.T t0 t1 h R := by kernel_rfl
theorem f43.ok {t0 t1 : Value} {h : Hp} {R : Value → Hp → Prop} (k : f43.T t0 t1 h R) : CallsH Tryd.prog 43 #[t0, t1] h R :=
    calls_of_evC (args := [t0, t1]) (c := Tryd.f43.body.getD .skip) (fun i => bif Nat.beq i 4 then [4] else []) (fun _ => []) follows_mixed Tryd.func43 (by kernel_rfl) (by kernel_rfl) (by kernel_rfl)
      (Eq.mpr (f43.eq t0 t1 h R) k)
/- 44 (*trellis/paths.Heap[int64]).Pop -/
def f44.J1 (t55_1 : Value) (I2 : List Value → Hp → Prop) (j8 : Value) (hj : Hp) (μ2 : List Value → Hp → Nat) (t8_1 : Value) (h_6 : Hp) : Prop :=
  bnd (binE .add t55_1 (.int .i64 1)) fun t68_2 =>
  (I2 [j8, t68_2] hj ∧ μ2 [j8, t68_2] hj < μ2 [t8_1, t55_1] h_6)
/- slots [8, 55] -/
  def f44.L2 (t7 : Value) (h_5 : Hp) (t54_1 : Value) (t20 : Value) (t0 : Value) (R : Value → Hp → Prop) (t27 : Value) (I1 : List Value → Hp → Prop) (μ1 : List Value → Hp → Nat) : Prop :=
  ∃ (I2 : List Value → Hp → Prop) (μ2 : List Value → Hp → Nat), I2 [t7, (.int .i64 0)] h_5 ∧
  ∀ t56_1 t57_1 t10_1 t58_1 t59_1 t60_1 t61_1 t62_1 t63_1 t64_1 t65_1 t66_1 t67_1 t8_1 t68_1 t55_1 : Value, ∀ (h_6 : Hp), I2 [t8_1, t55_1] h_6 →
  bnd (binE .lss t55_1 (.int .i64 2)) fun t56_2 =>
  condT t56_2 (
  bnd (idxV none 2 1 t54_1 t55_1) fun t57_2 =>
  bnd (binE .lss t57_2 t20) fun t60_2 =>
  guardT (isB t60_2 true) (fun K => CallsH Tryd.prog 65 #[(bif isB t60_2 true then t0 else undef), (bif isB t60_2 true then t57_2 else undef), (bif isB t60_2 true then t8_1 else undef)] h_6 K) h_6 fun t65_2 h_7 =>
  bnd ((asB t60_2).map fun t => bif t then t65_2 else (.bool false)) fun t66_2 =>
  condT t66_2 (
  (f44.J1 t55_1 I2 t57_2 h_7 μ2 t8_1 h_6)) (
  (f44.J1 t55_1 I2 t8_1 h_7 μ2 t8_1 h_6))) (
  bnd (binE .eql t8_1 t7) fun t71_1 =>
  condT t71_1 (
  R (.tuple #[t27, (.bool true)]) h_6) (
  CallsH Tryd.prog 66 #[t0, t7, t8_1] h_6 fun t76_1 h_8 =>
  (I1 [t8_1] h_8 ∧ μ1 [t8_1] h_8 < μ1 [t7] h_5)))
/- slots [7] -/
  def f44.L1 (h_4 : Hp) (t20 : Value) (t0 : Value) (R : Value → Hp → Prop) (t27 : Value) : Prop :=
  ∃ (I1 : List Value → Hp → Prop) (μ1 : List Value → Hp → Nat), I1 [(.int .i64 0)] h_4 ∧
  ∀ t47 t48 t49 t50 t51 t52 t53 t54 t56 t57 t10 t58 t59 t60 t61 t62 t63 t64 t65 t66 t67 t8 t68 t55 t69 t70 t71 t72 t2 t3 t73 t74 t75 t76 t77 t7 : Value, ∀ (h_5 : Hp), I1 [t7] h_5 →
  bnd (binE .mul (.int .i64 2) t7) fun t49_1 =>
  bnd (binE .add t49_1 (.int .i64 1)) fun t50_1 =>
  bnd (binE .mul (.int .i64 2) t7) fun t52_1 =>
  bnd (binE .add t52_1 (.int .i64 2)) fun t53_1 =>
  bnd ((fillR 1 #[(.int .i64 0), (.int .i64 0)] [(0, t50_1), (1, t53_1)]).map .agg) fun t54_1 =>
  (f44.L2 t7 h_5 t54_1 t20 t0 R t27 I1 μ1)
def f44.T (t0 : Value) (h : Hp) (R : Value → Hp → Prop) : Prop :=
  CallsH Tryd.prog 42 #[t0] h fun t12 h_1 =>
  bnd (binE .eql t12 (.int .i64 0)) fun t13 =>
  condT t13 (
  R (.tuple #[(.int .i64 0), (.bool false)]) h_1) (
  bnd (nilE t0) fun t16 =>
  bnd (fldE 1 t16) fun t17 =>
  bnd (ldS h_1 t17) fun t18 =>
  bnd (lenE t18) fun t19 =>
  bnd (binE .sub t19 (.int .i64 1)) fun t20 =>
  bnd (nilE t0) fun t22 =>
  bnd (fldE 1 t22) fun t23 =>
  bnd (ldS h_1 t23) fun t24 =>
  bnd (idxE 2 t24 (.int .i64 0)) fun t25 =>
  bnd (fldE 0 t25) fun t26 =>
  bnd (ldS h_1 t26) fun t27 =>
  CallsH Tryd.prog 66 #[t0, (.int .i64 0), t20] h_1 fun t30 h_2 =>
  bnd (nilE t0) fun t32 =>
  bnd (fldE 1 t32) fun t33 =>
  bnd (ldS h_2 t33) fun t34 =>
  bnd ((fillS [(0, 1), (1, 1)] #[(.int .i64 0), (.int .i64 0)] []).map .agg) fun t36 =>
  bnd (idxE 2 t34 t20) fun t37 =>
  bnd (stE 2 h_2 t37 t36) fun h_3 =>
  bnd (nilE t0) fun t40 =>
  bnd (fldE 1 t40) fun t41 =>
  bnd (ldS h_3 t41) fun t42 =>
  bnd (sliceE 2 t42 none (some t20)) fun t44 =>
  bnd (nilE t0) fun t45 =>
  bnd (fldE 1 t45) fun t46 =>
  bnd (stE 1 h_3 t46 t44) fun h_4 =>
  (f44.L1 h_4 t20 t0 R t27))
theorem f44.eq (t0 : Value) (h : Hp) (R : Value → Hp → Prop) : evC Tryd.prog (fun i => bif Nat.beq i 10 then [7] else bif Nat.beq i 12 then [8, 55] else []) (fun _ => []) (Tryd.f44.body.getD .skip) (env0 [t0]) h (bodyQ Tryd.prog Tryd.f44.results.toList R) = f44.T t0 h R := by kernel_rfl
theorem f44.ok {t0 : Value} {h : Hp} {R : Value → Hp → Prop} (k : f44.T t0 h R) : CallsH Tryd.prog 44 #[t0] h R :=
    calls_of_evC (args := [t0]) (c := Tryd.f44.body.getD .skip) (fun i => bif Nat.beq i 10 then [7] else bif Nat.beq i 12 then [8, 55] else []) (fun _ => []) follows_mixed Tryd.func44 (by kernel_rfl) (by kernel_rfl) (by kernel_rfl)
      (Eq.mpr (f44.eq t0 h R) k)
/- 59 trellis/paths.gather -/
def f59.J1 (t48_1 : Value) (I2 : List Value → Hp → Prop) (hj : Hp) (μ2 : List Value → Hp → Nat) (h_13 : Hp) : Prop :=
  bnd (binE .add t48_1 (.int .i64 1)) fun t72_2 =>
  (I2 [t72_2] hj ∧ μ2 [t72_2] hj < μ2 [t48_1] h_13)
/- slots [48] -/
  def f59.L2 (h_11 : Hp) (t47_1 : Value) (t40_1 : Value) (t6 : Value) (t35_1 : Value) (t32 : Value) (I1 : List Value → Hp → Prop) (μ1 : List Value → Hp → Nat) (h_10 : Hp) : Prop :=
  ∃ (I2 : List Value → Hp → Prop) (μ2 : List Value → Hp → Nat), I2 [(.int .i64 0)] h_11 ∧
  ∀ t49_1 t50_1 t51_1 t12_1 t53_1 t54_1 t55_1 t56_1 t57_1 t52_1 t58_1 t59_1 t13_1 t14_1 t60_1 t61_1 t62_1 t63_1 t64_1 t65_1 t66_1 t67_1 t68_1 t69_1 t70_1 t71_1 t72_1 t48_1 : Value, ∀ (h_13 : Hp), I2 [t48_1] h_13 →
  bnd (binE .lss t48_1 t47_1) fun t49_2 =>
  condT t49_2 (
  bnd (idxE 3 t40_1 t48_1) fun t50_2 =>
  bnd (ldA 3 h_13 t50_2) fun t51_2 =>
  nw h_13 #[(.int .i64 0), (.int .i64 0), (.int .i64 0)] 62 ptr0 fun t12_2 h_14 =>
  bnd (stE 3 h_14 t12_2 t51_2) fun h_15 =>
  bnd (fldE 0 t6) fun t53_2 =>
  bnd (ldS h_15 t53_2) fun t54_2 =>
  bnd (fldE 1 t12_2) fun t55_2 =>
  bnd (ldS h_15 t55_2) fun t56_2 =>
  CallsH Tryd.prog 79 #[t54_2, t56_2] h_15 fun t57_2 h_16 =>
  bnd (extE 0 t57_2) fun t58_2 =>
  bnd (extE 1 t57_2) fun t59_2 =>
  condT t59_2 (
  (bnd (fldE 1 t6) fun t61_2 =>
  bnd (ldS h_16 t61_2) fun t62_2 =>
  bnd (fldE 1 t6) fun t64_2 =>
  bnd (ldS h_16 t64_2) fun t65_2 =>
  rdS Tryd.prog (Go.Instr.lookup 110 t65_2 t35_1 false) h_16 fun t67_2 =>
  bnd (fldE 1 t12_2) fun t68_2 =>
  bnd (ldS h_16 t68_2) fun t69_2 =>
  bnd (fillR 1 #[(.int .i64 0)] [(0, t69_2)]) fun c =>
  nw h_16 c 2 (fun b => .slice (some ⟨b, 0, none⟩) 1 1) fun t70_2 h_17 =>
  efS Tryd.prog (Go.Builtin.append_ #[28, 28] 28 #[t67_2, t70_2]) h_17 fun t71_2 h_18 =>
  efS Tryd.prog (Go.Instr.mapUpdate 110 t62_2 t35_1 t71_2) h_18 fun _ h_19 =>
  (f59.J1 t48_1 I2 h_19 μ2 h_13)) ∧
  (bnd (fldE 1 t6) fun t61_3 =>
  bnd (ldS h_16 t61_3) fun t62_3 =>
  bnd (fldE 1 t6) fun t64_3 =>
  bnd (ldS h_16 t64_3) fun t65_3 =>
  bnd (fldE 1 t12_2) fun t68_3 =>
  bnd (ldS h_16 t68_3) fun t69_3 =>
  bnd (fillR 1 #[(.int .i64 0)] [(0, t69_3)]) fun c_1 =>
  nw h_16 c_1 2 (fun b => .slice (some ⟨b, 0, none⟩) 1 1) fun t70_3 h_20 =>
  rdS Tryd.prog (Go.Instr.lookup 110 t65_3 t35_1 false) h_20 fun t67_3 =>
  efS Tryd.prog (Go.Builtin.append_ #[28, 28] 28 #[t67_3, t70_3]) h_20 fun t71_3 h_21 =>
  efS Tryd.prog (Go.Instr.mapUpdate 110 t62_3 t35_1 t71_3) h_21 fun _ h_22 =>
  (f59.J1 t48_1 I2 h_22 μ2 h_13)) ∧
  (bnd (fldE 1 t6) fun t61_4 =>
  bnd (fldE 1 t6) fun t64_4 =>
  bnd (ldS h_16 t64_4) fun t65_4 =>
  rdS Tryd.prog (Go.Instr.lookup 110 t65_4 t35_1 false) h_16 fun t67_4 =>
  bnd (fldE 1 t12_2) fun t68_4 =>
  bnd (ldS h_16 t68_4) fun t69_4 =>
  bnd (fillR 1 #[(.int .i64 0)] [(0, t69_4)]) fun c_2 =>
  nw h_16 c_2 2 (fun b => .slice (some ⟨b, 0, none⟩) 1 1) fun t70_4 h_23 =>
  efS Tryd.prog (Go.Builtin.append_ #[28, 28] 28 #[t67_4, t70_4]) h_23 fun t71_4 h_24 =>
  bnd (ldS h_24 t61_4) fun t62_4 =>
  efS Tryd.prog (Go.Instr.mapUpdate 110 t62_4 t35_1 t71_4) h_24 fun _ h_25 =>
  (f59.J1 t48_1 I2 h_25 μ2 h_13)) ∧
  (bnd (fldE 1 t6) fun t61_5 =>
  bnd (fldE 1 t6) fun t64_5 =>
  bnd (ldS h_16 t64_5) fun t65_5 =>
  bnd (fldE 1 t12_2) fun t68_5 =>
  bnd (ldS h_16 t68_5) fun t69_5 =>
  bnd (fillR 1 #[(.int .i64 0)] [(0, t69_5)]) fun c_3 =>
  nw h_16 c_3 2 (fun b => .slice (some ⟨b, 0, none⟩) 1 1) fun t70_5 h_26 =>
  rdS Tryd.prog (Go.Instr.lookup 110 t65_5 t35_1 false) h_26 fun t67_5 =>
  efS Tryd.prog (Go.Builtin.append_ #[28, 28] 28 #[t67_5, t70_5]) h_26 fun t71_5 h_27 =>
  bnd (ldS h_27 t61_5) fun t62_5 =>
  efS Tryd.prog (Go.Instr.mapUpdate 110 t62_5 t35_1 t71_5) h_27 fun _ h_28 =>
  (f59.J1 t48_1 I2 h_28 μ2 h_13))) (
  (f59.J1 t48_1 I2 h_16 μ2 h_13))) (
  bnd (binE .add t32 (.int .i64 1)) fun t73_1 =>
  (I1 [t73_1] h_13 ∧ μ1 [t73_1] h_13 < μ1 [t32] h_10))
/- slots [32] -/
  def f59.L1 (h_8 : Hp) (t31 : Value) (t30 : Value) (t1 : Value) (t4 : Value) (R : Value → Hp → Prop) (t6 : Value) : Prop :=
  ∃ (I1 : List Value → Hp → Prop) (μ1 : List Value → Hp → Nat), I1 [(.int .i64 0)] h_8 ∧
  ∀ t33 t34 t35 t8 t37 t38 t39 t36 t40 t41 t9 t10 t42 t43 t44 t45 t5 t46 t47 t49 t50 t51 t12 t53 t54 t55 t56 t57 t52 t58 t59 t13 t14 t60 t61 t62 t63 t64 t65 t66 t67 t68 t69 t70 t71 t72 t48 t73 t32 : Value, ∀ (h_10 : Hp), I1 [t32] h_10 →
  bnd (binE .lss t32 t31) fun t33_1 =>
  condT t33_1 (
  bnd (idxE 1 t30 t32) fun t34_1 =>
  bnd (ldS h_10 t34_1) fun t35_1 =>
  callV Tryd.prog t1 #[t35_1] h_10 fun t39_1 h_11 =>
  bnd (extE 0 t39_1) fun t40_1 =>
  bnd (extE 1 t39_1) fun t41_1 =>
  bnd (binE .neq t41_1 (.int .i64 0)) fun t43_1 =>
  condT t43_1 (
  bnd ((fillS [(0, 1), (1, 1)] #[(.slice none 0 0), (.map none)] []).map .agg) fun t44_1 =>
  bnd (stE 2 h_11 t4 t44_1) fun h_12 =>
  bnd (ldA 2 h_12 t4) fun r4_2 =>
  R (.tuple #[r4_2, t41_1]) h_12) (
  bnd (lenE t40_1) fun t47_1 =>
  (f59.L2 h_11 t47_1 t40_1 t6 t35_1 t32 I1 μ1 h_10))) (
  bnd (ldA 2 h_10 t6) fun t74 =>
  bnd (stE 2 h_10 t4 t74) fun h_29 =>
  bnd (ldA 2 h_29 t4) fun r4_3 =>
  R (.tuple #[r4_3, (.int .i64 0)]) h_29)
def f59.T (t0 t1 : Value) (h : Hp) (R : Value → Hp → Prop) : Prop :=
  nw h #[(.slice none 0 0), (.map none)] 112 ptr0 fun t4 h_1 =>
  bnd (nilBin .f .eql t1 .nilFunc) fun t16 =>
  condT t16 (
  bnd ((fillS [(0, 1), (1, 1)] #[(.slice none 0 0), (.map none)] []).map .agg) fun t17 =>
  bnd (stE 2 h_1 t4 t17) fun h_2 =>
  bnd (ldA 2 h_2 t4) fun r4 =>
  R (.tuple #[r4, (.int .i64 1)]) h_2) (
  CallsH Tryd.prog 78 #[t0] h_1 fun t19 h_3 =>
  CallsH Tryd.prog 77 #[t19] h_3 fun t20 h_4 =>
  CallsH Tryd.prog 76 #[t20] h_4 fun t21 h_5 =>
  nwM h_5 fun t22 h_6 =>
  bnd ((fillS [(0, 1), (1, 1)] #[(.slice none 0 0), (.map none)] [(0, t21), (1, t22)]).map .agg) fun t23 =>
  nw h_6 #[(.slice none 0 0), (.map none)] 112 ptr0 fun t6 h_7 =>
  bnd (stE 2 h_7 t6 t23) fun h_8 =>
  bnd (fldE 0 t6) fun t24 =>
  bnd (ldS h_8 t24) fun t25 =>
  bnd (lenE t25) fun t26 =>
  bnd (binE .gtr t26 (.int .i64 4096)) fun t27 =>
  condT t27 (
  bnd ((fillS [(0, 1), (1, 1)] #[(.slice none 0 0), (.map none)] []).map .agg) fun t28 =>
  bnd (stE 2 h_8 t4 t28) fun h_9 =>
  bnd (ldA 2 h_9 t4) fun r4_1 =>
  R (.tuple #[r4_1, (.int .i64 92)]) h_9) (
  bnd (fldE 0 t6) fun t29 =>
  bnd (ldS h_8 t29) fun t30 =>
  bnd (lenE t30) fun t31 =>
  (f59.L1 h_8 t31 t30 t1 t4 R t6)))
theorem f59.eq (t0 t1 : Value) (h : Hp) (R : Value → Hp → Prop) : evC Tryd.prog (fun i => bif Nat.beq i 7 then [32] else bif Nat.beq i 13 then [48] else []) (fun i => bif Nat.beq i 17 then [[0, 1, 2, 3, 4, 5, 6, 7, 8, 9, 10, 11], [0, 1, 2, 3, 4, 5, 7, 8, 9, 6, 10, 11], [0, 2, 3, 4, 5, 6, 7, 8, 9, 10, 1, 11], [0, 2, 3, 4, 5, 7, 8, 9, 6, 10, 1, 11]] else []) (Tryd.f59.body.getD .skip) (env0 [t0, t1]) h (bodyQ Tryd.prog Tryd.f59.results.toList R) = f59.T t0 t1 h R := by kernel_rfl
theorem f59.ok {t0 t1 : Value} {h : Hp} {R : Value → Hp → Prop} (k : f59.T t0 t1 h R) : CallsH Tryd.prog 59 #[t0, t1] h R :=
    calls_of_evC (args := [t0, t1]) (c := Tryd.f59.body.getD .skip) (fun i => bif Nat.beq i 7 then [32] else bif Nat.beq i 13 then [48] else []) (fun i => bif Nat.beq i 17 then [[0, 1, 2, 3, 4, 5, 6, 7, 8, 9, 10, 11], [0, 1, 2, 3, 4, 5, 7, 8, 9, 6, 10, 11], [0, 2, 3, 4, 5, 6, 7, 8, 9, 10, 1, 11], [0, 2, 3, 4, 5, 7, 8, 9, 6, 10, 1, 11]] else []) follows_mixed Tryd.func59 (by kernel_rfl) (by kernel_rfl) (by kernel_rfl)
      (Eq.mpr (f59.eq t0 t1 h R) k)
end Go.Proofs.YtkiakofohkecaaaDoor
