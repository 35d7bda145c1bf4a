/- Each Go function as a formula over the heap, printed by a program of this claim, and that a call does what the formula says. No condition. -/
import Derived.Test.YtkiakofohkecaaaDoorD0
set_option linter.unusedVariables false
set_option maxRecDepth 100000
namespace Go.Proofs.YtkiakofohkecaaaDoor
open Go Go.Fw
/- 4 trellis/trellislaw9.PathsHops -/
def f4.T (t0 t1 t2 : Value) (h : Hp) (R : Value → Hp → Prop) : Prop :=
  nw h (Value.cells t0) 26 ptr0 fun t3 h_1 =>
  bnd (ldA 2 h_1 t3) fun t15 =>
  bnd ((fillS [(0, 2), (2, 1), (3, 1)] #[(.slice none 0 0), (.bool false), (.slice none 0 0), (.slice none 0 0)] [(0, t15)]).map .agg) fun t16 =>
  nw h_1 (Value.cells t16) 31 ptr0 fun t17 h_2 =>
  CallsH Tryd.prog 18 #[(.func (.func 19) #[t17] #[]), t1, t2] h_2 fun t23 h_3 =>
  bnd (extE 0 t23) fun t24 =>
  bnd (extE 1 t23) fun t25 =>
  bnd (extE 2 t23) fun t26 =>
  bnd (ldA 2 h_3 t3) fun t28 =>
  CallsH Tryd.prog 20 #[t28, t1, t2] h_3 fun t31 h_4 =>
  bnd (extE 0 t31) fun t32 =>
  bnd (extE 1 t31) fun t33 =>
  bnd (extE 2 t31) fun t34 =>
  bnd (extE 3 t31) fun t35 =>
  bnd (binE .eql t24 t32) fun t38 =>
  bnd (bif isB t38 true then binB .eql (bif isB t38 true then t25 else undef) (bif isB t38 true then t33 else undef) else some undef) fun t42 =>
  bnd ((asB t38).map fun t => bif t then t42 else (.bool false)) fun t43 =>
  bnd (bif isB t43 true then binE .eql (bif isB t43 true then t26 else undef) (bif isB t43 true then t34 else undef) else some undef) fun t47 =>
  bnd ((asB t43).map fun t => bif t then t47 else (.bool false)) fun t48 =>
  guardT (isB t48 true) (fun K => CallsH Tryd.prog 21 #[(bif isB t48 true then t17 else undef), (bif isB t48 true then t35 else undef)] h_4 K) h_4 fun t52 h_5 =>
  bnd ((asB t48).map fun t => bif t then t52 else (.bool false)) fun t53 =>
  R t53 h_5
theorem f4.eq (t0 t1 t2 : Value) (h : Hp) (R : Value → Hp → Prop) : evC Tryd.prog (fun _ => []) (fun _ => []) (Tryd.f4.body.getD .skip) (env0 [t0, t1, t2]) h (bodyQ Tryd.prog Tryd.f4.results.toList R) = f4.T t0 t1 t2 h R := by kernel_rfl
theorem f4.ok {t0 t1 t2 : Value} {h : Hp} {R : Value → Hp → Prop} (k : f4.T t0 t1 t2 h R) : CallsH Tryd.prog 4 #[t0, t1, t2] h R :=
    calls_of_evC (args := [t0, t1, t2]) (c := Tryd.f4.body.getD .skip) (fun _ => []) (fun _ => []) follows_mixed Tryd.func4 (by kernel_rfl) (by kernel_rfl) (by kernel_rfl)
      (Eq.mpr (f4.eq t0 t1 t2 h R) k)
/- 5 trellis/trellislaw9.PathsReaches -/
def f5.T (t0 t1 t2 : Value) (h : Hp) (R : Value → Hp → Prop) : Prop :=
  nw h (Value.cells t0) 26 ptr0 fun t3 h_1 =>
  bnd (ldA 2 h_1 t3) fun t18 =>
  bnd ((fillS [(0, 2), (2, 1), (3, 1)] #[(.slice none 0 0), (.bool false), (.slice none 0 0), (.slice none 0 0)] [(0, t18)]).map .agg) fun t19 =>
  nw h_1 (Value.cells t19) 31 ptr0 fun t20 h_2 =>
  CallsH Tryd.prog 22 #[(.func (.func 19) #[t20] #[]), t1, t2] h_2 fun t26 h_3 =>
  bnd (extE 0 t26) fun t27 =>
  bnd (extE 1 t26) fun t28 =>
  bnd (ldA 2 h_3 t3) fun t30 =>
  CallsH Tryd.prog 23 #[t30, t1, t2] h_3 fun t33 h_4 =>
  bnd (extE 0 t33) fun t34 =>
  bnd (extE 1 t33) fun t35 =>
  bnd (extE 2 t33) fun t36 =>
  CallsH Tryd.prog 24 #[t27, t34] h_4 fun t39 h_5 =>
  bnd (unE .not t39) fun t40 =>
  bnd (bif isB t40 false then binE .neq (bif isB t40 false then t28 else undef) (bif isB t40 false then t35 else undef) else some undef) fun t44 =>
  bnd ((asB t40).map fun t => bif t then (.bool true) else t44) fun t45 =>
  guardT (isB t45 false) (fun K => CallsH Tryd.prog 21 #[(bif isB t45 false then t20 else undef), (bif isB t45 false then t36 else undef)] h_5 K) h_5 fun t49 h_6 =>
  bnd (bif isB t45 false then unE .not t49 else some undef) fun t50 =>
  bnd ((asB t45).map fun t => bif t then (.bool true) else t50) fun t51 =>
  condT t51 (
  R (.bool false) h_6) (
  bnd (ldA 2 h_6 t3) fun t52 =>
  bnd ((fillS [(0, 2), (2, 1), (3, 1)] #[(.slice none 0 0), (.bool false), (.slice none 0 0), (.slice none 0 0)] [(0, t52)]).map .agg) fun t53 =>
  nw h_6 (Value.cells t53) 31 ptr0 fun t54 h_7 =>
  CallsH Tryd.prog 22 #[(.func (.func 19) #[t54] #[]), t1, (.int .i64 0)] h_7 fun t59 h_8 =>
  bnd (extE 0 t59) fun t60 =>
  bnd (extE 1 t59) fun t61 =>
  CallsH Tryd.prog 22 #[(.func (.func 19) #[t54] #[]), t1, t2] h_8 fun t67 h_9 =>
  bnd (extE 0 t67) fun t68 =>
  bnd (extE 1 t67) fun t69 =>
  CallsH Tryd.prog 24 #[t68, t34] h_9 fun t72 h_10 =>
  guardT (isB t72 true) (fun K => CallsH Tryd.prog 24 #[(bif isB t72 true then t27 else undef), (bif isB t72 true then t34 else undef)] h_10 K) h_10 fun t76 h_11 =>
  bnd ((asB t72).map fun t => bif t then t76 else (.bool false)) fun t77 =>
  guardT (isB t77 true) (fun K => bnd (fillR 1 #[(.slice none 0 0), (.slice none 0 0), (.slice none 0 0)] [(0, (bif isB t77 true then t27 else undef)), (1, (bif isB t77 true then t60 else undef)), (2, (bif isB t77 true then t68 else undef))]) fun c => nw h_11 c 28 (fun b => .slice (some ⟨b, 0, none⟩) 3 3) K) h_11 fun t82 h_12 =>
  guardT (isB t77 true) (fun K => CallsH Tryd.prog 25 #[t82] h_12 K) h_12 fun t83 h_13 =>
  bnd ((asB t77).map fun t => bif t then t83 else (.bool false)) fun t84 =>
  R t84 h_13)
theorem f5.eq (t0 t1 t2 : Value) (h : Hp) (R : Value → Hp → Prop) : evC Tryd.prog (fun _ => []) (fun _ => []) (Tryd.f5.body.getD .skip) (env0 [t0, t1, t2]) h (bodyQ Tryd.prog Tryd.f5.results.toList R) = f5.T t0 t1 t2 h R := by kernel_rfl
theorem f5.ok {t0 t1 t2 : Value} {h : Hp} {R : Value → Hp → Prop} (k : f5.T t0 t1 t2 h R) : CallsH Tryd.prog 5 #[t0, t1, t2] h R :=
    calls_of_evC (args := [t0, t1, t2]) (c := Tryd.f5.body.getD .skip) (fun _ => []) (fun _ => []) follows_mixed Tryd.func5 (by kernel_rfl) (by kernel_rfl) (by kernel_rfl)
      (Eq.mpr (f5.eq t0 t1 t2 h R) k)
/- 18 trellis/paths.Hops -/
def f18.T (t0 t1 t2 : Value) (h : Hp) (R : Value → Hp → Prop) : Prop :=
  nw h (Value.cells t2) 2 ptr0 fun t5 h_1 =>
  bnd (nilBin .f .eql t0 .nilFunc) fun t13 =>
  condT t13 (
  R (.tuple #[(.int .i64 0), (.bool false), (.int .i64 1)]) h_1) (
  CallsH Tryd.prog 48 #[t0, (.bool true)] h_1 fun t15 h_2 =>
  CallsH Tryd.prog 49 #[t15, t1, (.func (.func 50) #[] #[t5]), (.func (.func 51) #[] #[])] h_2 fun t20 h_3 =>
  bnd (extE 0 t20) fun t21 =>
  bnd (extE 1 t20) fun t22 =>
  bnd (binE .neq t22 (.int .i64 0)) fun t24 =>
  bnd (bif isB t24 false then unE .not (bif isB t24 false then t21 else undef) else some undef) fun t27 =>
  bnd ((asB t24).map fun t => bif t then (.bool true) else t27) fun t28 =>
  condT t28 (
  R (.tuple #[(.int .i64 0), (.bool false), t22]) h_3) (
  bnd (nilE t15) fun t31 =>
  bnd (fldE 2 t31) fun t32 =>
  bnd (ldS h_3 t32) fun t33 =>
  bnd (ldS h_3 t5) fun t34 =>
  rdS Tryd.prog (Go.Instr.lookup 94 t33 t34 false) h_3 fun t35 =>
  bnd (fieldE none 0 t35) fun t36 =>
  R (.tuple #[t36, (.bool true), (.int .i64 0)]) h_3))
theorem f18.eq (t0 t1 t2 : Value) (h : Hp) (R : Value → Hp → Prop) : evC Tryd.prog (fun _ => []) (fun _ => []) (Tryd.f18.body.getD .skip) (env0 [t0, t1, t2]) h (bodyQ Tryd.prog Tryd.f18.results.toList R) = f18.T t0 t1 t2 h R := by kernel_rfl
theorem f18.ok {t0 t1 t2 : Value} {h : Hp} {R : Value → Hp → Prop} (k : f18.T t0 t1 t2 h R) : CallsH Tryd.prog 18 #[t0, t1, t2] h R :=
    calls_of_evC (args := [t0, t1, t2]) (c := Tryd.f18.body.getD .skip) (fun _ => []) (fun _ => []) follows_mixed Tryd.func18 (by kernel_rfl) (by kernel_rfl) (by kernel_rfl)
      (Eq.mpr (f18.eq t0 t1 t2 h R) k)
/- 19 (*trellis/trellislaw9.Shown).arcs -/
def f19.T (t0 t1 : Value) (h : Hp) (R : Value → Hp → Prop) : Prop :=
  bnd (nilE t0) fun t11 =>
  bnd (fldE 2 t11) fun t12 =>
  bnd (ldS h t12) fun t13 =>
  bnd (fillR 1 #[(.int .i64 0)] [(0, t1)]) fun c =>
  nw h c 2 (fun b => .slice (some ⟨b, 0, none⟩) 1 1) fun t15 h_1 =>
  efS Tryd.prog (Go.Builtin.append_ #[28, 28] 28 #[t13, t15]) h_1 fun t16 h_2 =>
  bnd (nilE t0) fun t17 =>
  bnd (fldE 2 t17) fun t18 =>
  bnd (stE 1 h_2 t18 t16) fun h_3 =>
  bnd (nilE t0) fun t21 =>
  bnd (fldE 0 t21) fun t22 =>
  bnd (ldA 2 h_3 t22) fun t23 =>
  CallsH Tryd.prog 32 #[t23, t1] h_3 fun t25 h_4 =>
  bnd (extE 0 t25) fun t26 =>
  bnd (extE 1 t25) fun t27 =>
  bnd (lenE t26) fun t29 =>
  bnd (binE .add t29 (.int .i64 2)) fun t30 =>
  efS Tryd.prog (Go.Instr.makeSlice 59 (.int .i64 0) t30) h_4 fun t31 h_5 =>
  efS Tryd.prog (Go.Builtin.append_ #[59, 59] 59 #[t31, t26]) h_5 fun t34 h_6 =>
  bnd (ldA 3 h_6 (.pointer (some ⟨2, 0, none⟩))) fun t36 =>
  bnd (ldA 3 h_6 (.pointer (some ⟨2, 0, none⟩))) fun t37 =>
  bnd (fillR 3 #[(.int .i64 0), (.int .i64 0), (.int .i64 0), (.int .i64 0), (.int .i64 0), (.int .i64 0)] [(0, t36), (1, t37)]) fun c_1 =>
  nw h_6 c_1 62 (fun b => .slice (some ⟨b, 0, none⟩) 2 2) fun t38 h_7 =>
  efS Tryd.prog (Go.Builtin.append_ #[59, 59] 59 #[t34, t38]) h_7 fun t39 h_8 =>
  bnd (nilE t0) fun t42 =>
  bnd (fldE 3 t42) fun t43 =>
  bnd (ldS h_8 t43) fun t44 =>
  bnd (fillR 1 #[(.slice none 0 0)] [(0, t39)]) fun c_2 =>
  nw h_8 c_2 59 (fun b => .slice (some ⟨b, 0, none⟩) 1 1) fun t46 h_9 =>
  efS Tryd.prog (Go.Builtin.append_ #[29, 29] 29 #[t44, t46]) h_9 fun t47 h_10 =>
  bnd (nilE t0) fun t48 =>
  bnd (fldE 3 t48) fun t49 =>
  bnd (stE 1 h_10 t49 t47) fun h_11 =>
  bnd (binE .neq t27 (.int .i64 0)) fun t51 =>
  condT t51 (
  R (.tuple #[(.slice none 0 0), t27]) h_11) (
  bnd (lenE t26) fun t55 =>
  bnd (sliceE 3 t39 none (some t55)) fun t56 =>
  R (.tuple #[t56, t27]) h_11)
theorem f19.eq (t0 t1 : Value) (h : Hp) (R : Value → Hp → Prop) : evC Tryd.prog (fun _ => []) (fun _ => []) (Tryd.f19.body.getD .skip) (env0 [t0, t1]) h (bodyQ Tryd.prog Tryd.f19.results.toList R) = f19.T t0 t1 h R := by kernel_rfl
theorem f19.ok {t0 t1 : Value} {h : Hp} {R : Value → Hp → Prop} (k : f19.T t0 t1 h R) : CallsH Tryd.prog 19 #[t0, t1] h R :=
    calls_of_evC (args := [t0, t1]) (c := Tryd.f19.body.getD .skip) (fun _ => []) (fun _ => []) follows_mixed Tryd.func19 (by kernel_rfl) (by kernel_rfl) (by kernel_rfl)
      (Eq.mpr (f19.eq t0 t1 h R) k)
/- 20 trellis/trellisref9.Hops -/
def f20.T (t0 t1 t2 : Value) (h : Hp) (R : Value → Hp → Prop) : Prop :=
  nw h (Value.cells t0) 26 ptr0 fun t3 h_1 =>
  bnd (ldA 2 h_1 t3) fun t11 =>
  bnd ((fillS [(0, 1), (1, 1), (2, 1), (3, 1)] #[(.bool false), (.int .i64 0), (.int .i64 0), (.bool false)] [(0, (.bool true)), (1, t2), (2, (.int .i64 (-1))), (3, (.bool true))]).map .agg) fun t14 =>
  CallsH Tryd.prog 52 #[t11, t1, t14] h_1 fun t15 h_2 =>
  nw h_2 #[(.slice none 0 0), (.slice none 0 0), (.int .i64 0), (.bool false)] 100 ptr0 fun t10 h_3 =>
  bnd (stE 4 h_3 t10 t15) fun h_4 =>
  bnd (fldE 2 t10) fun t16 =>
  bnd (ldS h_4 t16) fun t17 =>
  bnd (binE .neq t17 (.int .i64 0)) fun t18 =>
  bnd (bif isB t18 false then fldE 3 t10 else some undef) fun t20 =>
  bnd (bif isB t18 false then ldS h_4 t20 else some undef) fun t21 =>
  bnd (bif isB t18 false then unE .not t21 else some undef) fun t22 =>
  bnd ((asB t18).map fun t => bif t then (.bool true) else t22) fun t23 =>
  condT t23 (
  bnd (fldE 2 t10) fun t24 =>
  bnd (ldS h_4 t24) fun t25 =>
  bnd (fldE 1 t10) fun t26 =>
  bnd (ldS h_4 t26) fun t27 =>
  R (.tuple #[(.int .i64 0), (.bool false), t25, t27]) h_4) (
  bnd (fldE 0 t10) fun t28 =>
  bnd (ldS h_4 t28) fun t29 =>
  bnd (fldE 0 t10) fun t30 =>
  bnd (ldS h_4 t30) fun t31 =>
  bnd (lenE t31) fun t32 =>
  bnd (binE .sub t32 (.int .i64 1)) fun t33 =>
  bnd (idxE 2 t29 t33) fun t34 =>
  bnd (fldE 1 t34) fun t35 =>
  bnd (ldS h_4 t35) fun t36 =>
  bnd (fldE 1 t10) fun t37 =>
  bnd (ldS h_4 t37) fun t38 =>
  R (.tuple #[t36, (.bool true), (.int .i64 0), t38]) h_4)
theorem f20.eq (t0 t1 t2 : Value) (h : Hp) (R : Value → Hp → Prop) : evC Tryd.prog (fun _ => []) (fun _ => []) (Tryd.f20.body.getD .skip) (env0 [t0, t1, t2]) h (bodyQ Tryd.prog Tryd.f20.results.toList R) = f20.T t0 t1 t2 h R := by kernel_rfl
theorem f20.ok {t0 t1 t2 : Value} {h : Hp} {R : Value → Hp → Prop} (k : f20.T t0 t1 t2 h R) : CallsH Tryd.prog 20 #[t0, t1, t2] h R :=
    calls_of_evC (args := [t0, t1, t2]) (c := Tryd.f20.body.getD .skip) (fun _ => []) (fun _ => []) follows_mixed Tryd.func20 (by kernel_rfl) (by kernel_rfl) (by kernel_rfl)
      (Eq.mpr (f20.eq t0 t1 t2 h R) k)
/- 21 (*trellis/trellislaw9.Shown).whole -/
/- slots [8] -/
  def f21.L2 (h_5 : Hp) (t42_1 : Value) (t0 : Value) (t5 : Value) (R : Value → Hp → Prop) (I1 : List Value → Hp → Prop) (μ1 : List Value → Hp → Nat) (h_2 : Hp) : Prop :=
  ∃ (I2 : List Value → Hp → Prop) (μ2 : List Value → Hp → Nat), I2 [(.int .i64 0)] h_5 ∧
  ∀ t87_1 t88_1 t89_1 t90_1 t93_1 t94_1 t95_1 t96_1 t97_1 t98_1 t99_1 t100_1 t101_1 t102_1 t103_1 t104_1 t105_1 t106_1 t107_1 t4_1 t91_1 t92_1 t8_1 : Value, ∀ (h_6 : Hp), I2 [t8_1] h_6 →
  bnd (lenE t42_1) fun t89_2 =>
  bnd (binE .lss t8_1 t89_2) fun t90_2 =>
  condT t90_2 (
  bnd (nilE t0) fun t94_2 =>
  bnd (fldE 3 t94_2) fun t95_2 =>
  bnd (ldS h_6 t95_2) fun t96_2 =>
  bnd (idxE 1 t96_2 t5) fun t98_2 =>
  bnd (ldS h_6 t98_2) fun t99_2 =>
  bnd (idxE 3 t99_2 t8_1) fun t101_2 =>
  bnd (ldA 3 h_6 t101_2) fun t102_2 =>
  bnd (idxE 3 t42_1 t8_1) fun t105_2 =>
  bnd (ldA 3 h_6 t105_2) fun t106_2 =>
  prS Tryd.prog (binS .neq 62 (.tmp 102) (.tmp 106) t102_2 t106_2) fun t107_2 =>
  condT t107_2 (
  R (.bool false) h_6) (
  bnd (binE .add t8_1 (.int .i64 1)) fun t92_2 =>
  (I2 [t92_2] h_6 ∧ μ2 [t92_2] h_6 < μ2 [t8_1] h_6))) (
  bnd (binE .add t5 (.int .i64 1)) fun t31_1 =>
  (I1 [t31_1] h_6 ∧ μ1 [t31_1] h_6 < μ1 [t5] h_2))
/- slots [5] -/
  def f21.L1 (h_1 : Hp) (t1 : Value) (t0 : Value) (R : Value → Hp → Prop) : Prop :=
  ∃ (I1 : List Value → Hp → Prop) (μ1 : List Value → Hp → Nat), I1 [(.int .i64 0)] h_1 ∧
  ∀ t26 t27 t28 t29 t33 t34 t35 t36 t37 t38 t39 t40 t41 t32 t42 t43 t6 t7 t44 t45 t46 t47 t48 t49 t50 t51 t52 t53 t54 t55 t56 t57 t58 t59 t60 t61 t62 t63 t64 t65 t66 t67 t68 t69 t70 t71 t72 t73 t74 t75 t76 t77 t78 t79 t80 t81 t82 t83 t84 t85 t86 t87 t88 t89 t90 t93 t94 t95 t96 t97 t98 t99 t100 t101 t102 t103 t104 t105 t106 t107 t4 t91 t92 t8 t30 t31 t5 : Value, ∀ (h_2 : Hp), I1 [t5] h_2 →
  bnd (lenE t1) fun t28_1 =>
  bnd (binE .lss t5 t28_1) fun t29_1 =>
  condT t29_1 (
  bnd (nilE t0) fun t34_1 =>
  bnd (fldE 0 t34_1) fun t35_1 =>
  bnd (ldA 2 h_2 t35_1) fun t36_1 =>
  bnd (idxE 1 t1 t5) fun t39_1 =>
  bnd (ldS h_2 t39_1) fun t40_1 =>
  CallsH Tryd.prog 32 #[t36_1, t40_1] h_2 fun t41_1 h_3 =>
  bnd (extE 0 t41_1) fun t42_1 =>
  bnd (extE 1 t41_1) fun t43_1 =>
  bnd (nilE t0) fun t45_1 =>
  bnd (fldE 3 t45_1) fun t46_1 =>
  bnd (ldS h_3 t46_1) fun t47_1 =>
  bnd (idxE 1 t47_1 t5) fun t49_1 =>
  bnd (ldS h_3 t49_1) fun t50_1 =>
  bnd (lenE t50_1) fun t51_1 =>
  bnd (lenE t42_1) fun t53_1 =>
  bnd (binE .add t53_1 (.int .i64 2)) fun t54_1 =>
  bnd (binE .neq t51_1 t54_1) fun t55_1 =>
  bnd (bif isB t55_1 false then nilE (bif isB t55_1 false then t0 else undef) else some undef) fun t58_1 =>
  bnd (bif isB t55_1 false then fldE 3 t58_1 else some undef) fun t59_1 =>
  bnd (bif isB t55_1 false then ldS h_3 t59_1 else some undef) fun t60_1 =>
  bnd (bif isB t55_1 false then idxE 1 t60_1 (bif isB t55_1 false then t5 else undef) else some undef) fun t62_1 =>
  bnd (bif isB t55_1 false then ldS h_3 t62_1 else some undef) fun t63_1 =>
  bnd (bif isB t55_1 false then lenE (bif isB t55_1 false then t42_1 else undef) else some undef) fun t65_1 =>
  bnd (bif isB t55_1 false then idxE 3 t63_1 t65_1 else some undef) fun t66_1 =>
  bnd (bif isB t55_1 false then ldA 3 h_3 t66_1 else some undef) fun t67_1 =>
  bnd (bif isB t55_1 false then ldA 3 h_3 (.pointer (some ⟨2, 0, none⟩)) else some undef) fun t68_1 =>
  guardT (isB t55_1 false) (fun K => prS Tryd.prog (binS .neq 62 (.tmp 67) (.tmp 68) t67_1 t68_1) fun v => K v h_3) h_3 fun t69_1 h_4 =>
  bnd ((asB t55_1).map fun t => bif t then (.bool true) else t69_1) fun t70_1 =>
  bnd (bif isB t70_1 false then nilE (bif isB t70_1 false then t0 else undef) else some undef) fun t73_1 =>
  bnd (bif isB t70_1 false then fldE 3 t73_1 else some undef) fun t74_1 =>
  bnd (bif isB t70_1 false then ldS h_4 t74_1 else some undef) fun t75_1 =>
  bnd (bif isB t70_1 false then idxE 1 t75_1 (bif isB t70_1 false then t5 else undef) else some undef) fun t77_1 =>
  bnd (bif isB t70_1 false then ldS h_4 t77_1 else some undef) fun t78_1 =>
  bnd (bif isB t70_1 false then lenE (bif isB t70_1 false then t42_1 else undef) else some undef) fun t80_1 =>
  bnd (bif isB t70_1 false then binE .add t80_1 (.int .i64 1) else some undef) fun t81_1 =>
  bnd (bif isB t70_1 false then idxE 3 t78_1 t81_1 else some undef) fun t82_1 =>
  bnd (bif isB t70_1 false then ldA 3 h_4 t82_1 else some undef) fun t83_1 =>
  bnd (bif isB t70_1 false then ldA 3 h_4 (.pointer (some ⟨2, 0, none⟩)) else some undef) fun t84_1 =>
  guardT (isB t70_1 false) (fun K => prS Tryd.prog (binS .neq 62 (.tmp 83) (.tmp 84) t83_1 t84_1) fun v => K v h_4) h_4 fun t85_1 h_5 =>
  bnd ((asB t70_1).map fun t => bif t then (.bool true) else t85_1) fun t86_1 =>
  condT t86_1 (
  R (.bool false) h_5) (
  (f21.L2 h_5 t42_1 t0 t5 R I1 μ1 h_2))) (
  R (.bool true) h_2)
def f21.T (t0 t1 : Value) (h : Hp) (R : Value → Hp → Prop) : Prop :=
  bnd (nilE t0) fun t10 =>
  bnd (fldE 2 t10) fun t11 =>
  bnd (ldS h t11) fun t12 =>
  CallsH Tryd.prog 24 #[t12, t1] h fun t14 h_1 =>
  bnd (unE .not t14) fun t15 =>
  bnd (bif isB t15 false then nilE (bif isB t15 false then t0 else undef) else some undef) fun t18 =>
  bnd (bif isB t15 false then fldE 3 t18 else some undef) fun t19 =>
  bnd (bif isB t15 false then ldS h_1 t19 else some undef) fun t20 =>
  bnd (bif isB t15 false then lenE t20 else some undef) fun t21 =>
  bnd (bif isB t15 false then lenE (bif isB t15 false then t1 else undef) else some undef) fun t23 =>
  bnd (bif isB t15 false then binE .neq t21 t23 else some undef) fun t24 =>
  bnd ((asB t15).map fun t => bif t then (.bool true) else t24) fun t25 =>
  condT t25 (
  R (.bool false) h_1) (
  (f21.L1 h_1 t1 t0 R))
theorem f21.eq (t0 t1 : Value) (h : Hp) (R : Value → Hp → Prop) : evC Tryd.prog (fun i => bif Nat.beq i 4 then [5] else bif Nat.beq i 10 then [8] else []) (fun _ => []) (Tryd.f21.body.getD .skip) (env0 [t0, t1]) h (bodyQ Tryd.prog Tryd.f21.results.toList R) = f21.T t0 t1 h R := by kernel_rfl
theorem f21.ok {t0 t1 : Value} {h : Hp} {R : Value → Hp → Prop} (k : f21.T t0 t1 h R) : CallsH Tryd.prog 21 #[t0, t1] h R :=
    calls_of_evC (args := [t0, t1]) (c := Tryd.f21.body.getD .skip) (fun i => bif Nat.beq i 4 then [5] else bif Nat.beq i 10 then [8] else []) (fun _ => []) follows_mixed Tryd.func21 (by kernel_rfl) (by kernel_rfl) (by kernel_rfl)
      (Eq.mpr (f21.eq t0 t1 h R) k)
/- 22 trellis/paths.Reach -/
def f22.T (t0 t1 t2 : Value) (h : Hp) (R : Value → Hp → Prop) : Prop :=
  nw h (Value.cells t2) 3 ptr0 fun t5 h_1 =>
  bnd (nilBin .f .eql t0 .nilFunc) fun t12 =>
  bnd (bif isB t12 false then ldS h_1 t5 else some undef) fun t14 =>
  bnd (bif isB t12 false then binE .lss t14 (.int .i64 0) else some undef) fun t15 =>
  bnd ((asB t12).map fun t => bif t then (.bool true) else t15) fun t16 =>
  condT t16 (
  R (.tuple #[(.slice none 0 0), (.int .i64 1)]) h_1) (
  CallsH Tryd.prog 48 #[t0, (.bool true)] h_1 fun t18 h_2 =>
  CallsH Tryd.prog 49 #[t18, t1, (.func (.func 53) #[] #[]), (.func (.func 54) #[] #[t5])] h_2 fun t23 h_3 =>
  bnd (extE 0 t23) fun t24 =>
  bnd (extE 1 t23) fun t25 =>
  bnd (binE .neq t25 (.int .i64 0)) fun t27 =>
  condT t27 (
  R (.tuple #[(.slice none 0 0), t25]) h_3) (
  bnd (nilE t18) fun t30 =>
  bnd (fldE 4 t30) fun t31 =>
  bnd (ldS h_3 t31) fun t32 =>
  R (.tuple #[t32, (.int .i64 0)]) h_3))
theorem f22.eq (t0 t1 t2 : Value) (h : Hp) (R : Value → Hp → Prop) : evC Tryd.prog (fun _ => []) (fun _ => []) (Tryd.f22.body.getD .skip) (env0 [t0, t1, t2]) h (bodyQ Tryd.prog Tryd.f22.results.toList R) = f22.T t0 t1 t2 h R := by kernel_rfl
theorem f22.ok {t0 t1 t2 : Value} {h : Hp} {R : Value → Hp → Prop} (k : f22.T t0 t1 t2 h R) : CallsH Tryd.prog 22 #[t0, t1, t2] h R :=
    calls_of_evC (args := [t0, t1, t2]) (c := Tryd.f22.body.getD .skip) (fun _ => []) (fun _ => []) follows_mixed Tryd.func22 (by kernel_rfl) (by kernel_rfl) (by kernel_rfl)
      (Eq.mpr (f22.eq t0 t1 t2 h R) k)
/- 23 trellis/trellisref9.Reach -/
/- slots [10, 11] -/
  def f23.L1 (h_4 : Hp) (t9 : Value) (R : Value → Hp → Prop) : Prop :=
  ∃ (I1 : List Value → Hp → Prop) (μ1 : List Value → Hp → Nat), I1 [(.slice none 0 0), (.int .i64 0)] h_4 ∧
  ∀ t26 t27 t28 t29 t30 t33 t34 t35 t36 t37 t38 t39 t40 t41 t10 t31 t32 t11 : Value, ∀ (h_5 : Hp), I1 [t10, t11] h_5 →
  bnd (fldE 0 t9) fun t27_1 =>
  bnd (ldS h_5 t27_1) fun t28_1 =>
  bnd (lenE t28_1) fun t29_1 =>
  bnd (binE .lss t11 t29_1) fun t30_1 =>
  condT t30_1 (
  bnd (fldE 0 t9) fun t34_1 =>
  bnd (ldS h_5 t34_1) fun t35_1 =>
  bnd (idxE 2 t35_1 t11) fun t37_1 =>
  bnd (fldE 0 t37_1) fun t38_1 =>
  bnd (ldS h_5 t38_1) fun t39_1 =>
  bnd (fillR 1 #[(.int .i64 0)] [(0, t39_1)]) fun c =>
  nw h_5 c 2 (fun b => .slice (some ⟨b, 0, none⟩) 1 1) fun t40_1 h_6 =>
  efS Tryd.prog (Go.Builtin.append_ #[28, 28] 28 #[t10, t40_1]) h_6 fun t41_1 h_7 =>
  bnd (binE .add t11 (.int .i64 1)) fun t32_1 =>
  (I1 [t41_1, t32_1] h_7 ∧ μ1 [t41_1, t32_1] h_7 < μ1 [t10, t11] h_5)) (
  bnd (fldE 1 t9) fun t43 =>
  bnd (ldS h_5 t43) fun t44 =>
  R (.tuple #[t10, (.int .i64 0), t44]) h_5)
def f23.T (t0 t1 t2 : Value) (h : Hp) (R : Value → Hp → Prop) : Prop :=
  nw h (Value.cells t0) 26 ptr0 fun t3 h_1 =>
  bnd (binE .lss t2 (.int .i64 0)) fun t13 =>
  condT t13 (
  R (.tuple #[(.slice none 0 0), (.int .i64 1), (.slice none 0 0)]) h_1) (
  bnd (ldA 2 h_1 t3) fun t14 =>
  bnd ((fillS [(0, 1), (1, 1), (2, 1), (3, 1)] #[(.bool false), (.int .i64 0), (.int .i64 0), (.bool false)] [(2, t2), (3, (.bool true))]).map .agg) fun t17 =>
  CallsH Tryd.prog 52 #[t14, t1, t17] h_1 fun t18 h_2 =>
  nw h_2 #[(.slice none 0 0), (.slice none 0 0), (.int .i64 0), (.bool false)] 100 ptr0 fun t9 h_3 =>
  bnd (stE 4 h_3 t9 t18) fun h_4 =>
  bnd (fldE 2 t9) fun t19 =>
  bnd (ldS h_4 t19) fun t20 =>
  bnd (binE .neq t20 (.int .i64 0)) fun t21 =>
  condT t21 (
  bnd (fldE 2 t9) fun t22 =>
  bnd (ldS h_4 t22) fun t23 =>
  bnd (fldE 1 t9) fun t24 =>
  bnd (ldS h_4 t24) fun t25 =>
  R (.tuple #[(.slice none 0 0), t23, t25]) h_4) (
  (f23.L1 h_4 t9 R)))
theorem f23.eq (t0 t1 t2 : Value) (h : Hp) (R : Value → Hp → Prop) : evC Tryd.prog (fun i => bif Nat.beq i 8 then [10, 11] else []) (fun _ => []) (Tryd.f23.body.getD .skip) (env0 [t0, t1, t2]) h (bodyQ Tryd.prog Tryd.f23.results.toList R) = f23.T t0 t1 t2 h R := by kernel_rfl
theorem f23.ok {t0 t1 t2 : Value} {h : Hp} {R : Value → Hp → Prop} (k : f23.T t0 t1 t2 h R) : CallsH Tryd.prog 23 #[t0, t1, t2] h R :=
    calls_of_evC (args := [t0, t1, t2]) (c := Tryd.f23.body.getD .skip) (fun i => bif Nat.beq i 8 then [10, 11] else []) (fun _ => []) follows_mixed Tryd.func23 (by kernel_rfl) (by kernel_rfl) (by kernel_rfl)
      (Eq.mpr (f23.eq t0 t1 t2 h R) k)
/- 24 trellis/trellislaw9.pathsIds -/
/- slots [5] -/
  def f24.L1 (h : Hp) (t0 : Value) (t1 : Value) (R : Value → Hp → Prop) : Prop :=
  ∃ (I1 : List Value → Hp → Prop) (μ1 : List Value → Hp → Nat), I1 [(.int .i64 0)] h ∧
  ∀ t11 t12 t13 t14 t17 t18 t19 t20 t21 t22 t23 t24 t25 t4 t15 t16 t5 : Value, ∀ (h_1 : Hp), I1 [t5] h_1 →
  bnd (lenE t0) fun t13_1 =>
  bnd (binE .lss t5 t13_1) fun t14_1 =>
  condT t14_1 (
  bnd (idxE 1 t0 t5) fun t19_1 =>
  bnd (ldS h_1 t19_1) fun t20_1 =>
  bnd (idxE 1 t1 t5) fun t23_1 =>
  bnd (ldS h_1 t23_1) fun t24_1 =>
  bnd (binE .neq t20_1 t24_1) fun t25_1 =>
  condT t25_1 (
  R (.bool false) h_1) (
  bnd (binE .add t5 (.int .i64 1)) fun t16_1 =>
  (I1 [t16_1] h_1 ∧ μ1 [t16_1] h_1 < μ1 [t5] h_1))) (
  R (.bool true) h_1)
def f24.T (t0 t1 : Value) (h : Hp) (R : Value → Hp → Prop) : Prop :=
  bnd (lenE t0) fun t7 =>
  bnd (lenE t1) fun t9 =>
  bnd (binE .neq t7 t9) fun t10 =>
  condT t10 (
  R (.bool false) h) (
  (f24.L1 h t0 t1 R))
theorem f24.eq (t0 t1 : Value) (h : Hp) (R : Value → Hp → Prop) : evC Tryd.prog (fun i => bif Nat.beq i 4 then [5] else []) (fun _ => []) (Tryd.f24.body.getD .skip) (env0 [t0, t1]) h (bodyQ Tryd.prog Tryd.f24.results.toList R) = f24.T t0 t1 h R := by kernel_rfl
theorem f24.ok {t0 t1 : Value} {h : Hp} {R : Value → Hp → Prop} (k : f24.T t0 t1 h R) : CallsH Tryd.prog 24 #[t0, t1] h R :=
    calls_of_evC (args := [t0, t1]) (c := Tryd.f24.body.getD .skip) (fun i => bif Nat.beq i 4 then [5] else []) (fun _ => []) follows_mixed Tryd.func24 (by kernel_rfl) (by kernel_rfl) (by kernel_rfl)
      (Eq.mpr (f24.eq t0 t1 h R) k)
/- 25 trellis/trellislaw9.pathsApart -/
/- slots [4] -/
  def f25.L2 (h_1 : Hp) (t0 : Value) (t3 : Value) (I1 : List Value → Hp → Prop) (μ1 : List Value → Hp → Nat) : Prop :=
  ∃ (I2 : List Value → Hp → Prop) (μ2 : List Value → Hp → Nat), I2 [(.int .i64 0)] h_1 ∧
  ∀ t16_1 t17_1 t18_1 t19_1 t20_1 t21_1 t22_1 t25_1 t26_1 t27_1 t28_1 t29_1 t30_1 t31_1 t32_1 t33_1 t34_1 t35_1 t23_1 t24_1 t4_1 : Value, ∀ (h_2 : Hp), I2 [t4_1] h_2 →
  bnd (idxE 1 t0 t3) fun t19_2 =>
  bnd (ldS h_2 t19_2) fun t20_2 =>
  bnd (lenE t20_2) fun t21_2 =>
  bnd (binE .lss t4_1 t21_2) fun t22_2 =>
  condT t22_2 (
  bnd (idxE 1 t0 t3) fun t27_2 =>
  bnd (ldS h_2 t27_2) fun t28_2 =>
  bnd (binE .add t3 (.int .i64 1)) fun t31_2 =>
  bnd (binE .mul (.int .i64 (-100000)) t31_2) fun t32_2 =>
  bnd (binE .sub t32_2 t4_1) fun t34_2 =>
  bnd (idxE 1 t28_2 t4_1) fun t35_2 =>
  bnd (stE 1 h_2 t35_2 t34_2) fun h_3 =>
  bnd (binE .add t4_1 (.int .i64 1)) fun t24_2 =>
  (I2 [t24_2] h_3 ∧ μ2 [t24_2] h_3 < μ2 [t4_1] h_2)) (
  bnd (binE .add t3 (.int .i64 1)) fun t15_1 =>
  (I1 [t15_1] h_2 ∧ μ1 [t15_1] h_2 < μ1 [t3] h_1))
/- slots [6, 7] -/
  def f25.L4 (t45_1 : Value) (h_4 : Hp) (t5 : Value) (I3 : List Value → Hp → Prop) (μ3 : List Value → Hp → Nat) : Prop :=
  ∃ (I4 : List Value → Hp → Prop) (μ4 : List Value → Hp → Nat), I4 [t45_1, (.int .i64 0)] h_4 ∧
  ∀ t46_1 t47_1 t50_1 t51_1 t52_1 t6_1 t48_1 t49_1 t7_1 : Value, ∀ (h_5 : Hp), I4 [t6_1, t7_1] h_5 →
  bnd (binE .lss t7_1 (.int .i64 64)) fun t47_2 =>
  condT t47_2 (
  bnd (fillR 1 #[(.int .i64 0)] [(0, (.int .i64 (-7)))]) fun c =>
  nw h_5 c 2 (fun b => .slice (some ⟨b, 0, none⟩) 1 1) fun t51_2 h_6 =>
  efS Tryd.prog (Go.Builtin.append_ #[28, 28] 28 #[t6_1, t51_2]) h_6 fun t52_2 h_7 =>
  bnd (binE .add t7_1 (.int .i64 1)) fun t49_2 =>
  (I4 [t52_2, t49_2] h_7 ∧ μ4 [t52_2, t49_2] h_7 < μ4 [t6_1, t7_1] h_5)) (
  bnd (lenE t6_1) fun t55_1 =>
  bnd (binE .sub t55_1 (.int .i64 1)) fun t56_1 =>
  bnd (idxE 1 t6_1 t56_1) fun t57_1 =>
  bnd (stE 1 h_5 t57_1 (.int .i64 (-8))) fun h_8 =>
  bnd (binE .add t5 (.int .i64 1)) fun t41_1 =>
  (I3 [t41_1] h_8 ∧ μ3 [t41_1] h_8 < μ3 [t5] h_4))
/- slots [9] -/
  def f25.L6 (h_9 : Hp) (t0 : Value) (t8 : Value) (R : Value → Hp → Prop) (I5 : List Value → Hp → Prop) (μ5 : List Value → Hp → Nat) : Prop :=
  ∃ (I6 : List Value → Hp → Prop) (μ6 : List Value → Hp → Nat), I6 [(.int .i64 0)] h_9 ∧
  ∀ t64_1 t65_1 t66_1 t67_1 t68_1 t69_1 t70_1 t73_1 t74_1 t75_1 t76_1 t77_1 t78_1 t79_1 t80_1 t81_1 t82_1 t83_1 t84_1 t85_1 t2_1 t71_1 t72_1 t9_1 : Value, ∀ (h_10 : Hp), I6 [t9_1] h_10 →
  bnd (idxE 1 t0 t8) fun t67_2 =>
  bnd (ldS h_10 t67_2) fun t68_2 =>
  bnd (lenE t68_2) fun t69_2 =>
  bnd (binE .lss t9_1 t69_2) fun t70_2 =>
  condT t70_2 (
  bnd (idxE 1 t0 t8) fun t75_2 =>
  bnd (ldS h_10 t75_2) fun t76_2 =>
  bnd (idxE 1 t76_2 t9_1) fun t78_2 =>
  bnd (ldS h_10 t78_2) fun t79_2 =>
  bnd (binE .add t8 (.int .i64 1)) fun t81_2 =>
  bnd (binE .mul (.int .i64 (-100000)) t81_2) fun t82_2 =>
  bnd (binE .sub t82_2 t9_1) fun t84_2 =>
  bnd (binE .neq t79_2 t84_2) fun t85_2 =>
  condT t85_2 (
  R (.bool false) h_10) (
  bnd (binE .add t9_1 (.int .i64 1)) fun t72_2 =>
  (I6 [t72_2] h_10 ∧ μ6 [t72_2] h_10 < μ6 [t9_1] h_10))) (
  bnd (binE .add t8 (.int .i64 1)) fun t63_1 =>
  (I5 [t63_1] h_10 ∧ μ5 [t63_1] h_10 < μ5 [t8] h_9))
/- slots [8] -/
  def f25.L5 (h_4 : Hp) (t0 : Value) (R : Value → Hp → Prop) : Prop :=
  ∃ (I5 : List Value → Hp → Prop) (μ5 : List Value → Hp → Nat), I5 [(.int .i64 0)] h_4 ∧
  ∀ t58 t59 t60 t61 t64 t65 t66 t67 t68 t69 t70 t73 t74 t75 t76 t77 t78 t79 t80 t81 t82 t83 t84 t85 t2 t71 t72 t9 t62 t63 t8 : Value, ∀ (h_9 : Hp), I5 [t8] h_9 →
  bnd (lenE t0) fun t60_1 =>
  bnd (binE .lss t8 t60_1) fun t61_1 =>
  condT t61_1 (
  (f25.L6 h_9 t0 t8 R I5 μ5)) (
  R (.bool true) h_9)
/- slots [5] -/
  def f25.L3 (h_1 : Hp) (t0 : Value) (R : Value → Hp → Prop) : Prop :=
  ∃ (I3 : List Value → Hp → Prop) (μ3 : List Value → Hp → Nat), I3 [(.int .i64 0)] h_1 ∧
  ∀ t36 t37 t38 t39 t42 t43 t44 t45 t46 t47 t50 t51 t52 t6 t48 t49 t7 t53 t54 t55 t56 t57 t40 t41 t5 : Value, ∀ (h_4 : Hp), I3 [t5] h_4 →
  bnd (lenE t0) fun t38_1 =>
  bnd (binE .lss t5 t38_1) fun t39_1 =>
  condT t39_1 (
  bnd (idxE 1 t0 t5) fun t44_1 =>
  bnd (ldS h_4 t44_1) fun t45_1 =>
  (f25.L4 t45_1 h_4 t5 I3 μ3)) (
  (f25.L5 h_4 t0 R))
/- slots [3] -/
  def f25.L1 (h : Hp) (t0 : Value) (R : Value → Hp → Prop) : Prop :=
  ∃ (I1 : List Value → Hp → Prop) (μ1 : List Value → Hp → Nat), I1 [(.int .i64 0)] h ∧
  ∀ t10 t11 t12 t13 t16 t17 t18 t19 t20 t21 t22 t25 t26 t27 t28 t29 t30 t31 t32 t33 t34 t35 t23 t24 t4 t14 t15 t3 : Value, ∀ (h_1 : Hp), I1 [t3] h_1 →
  bnd (lenE t0) fun t12_1 =>
  bnd (binE .lss t3 t12_1) fun t13_1 =>
  condT t13_1 (
  (f25.L2 h_1 t0 t3 I1 μ1)) (
  (f25.L3 h_1 t0 R))
def f25.T (t0 : Value) (h : Hp) (R : Value → Hp → Prop) : Prop :=
  (f25.L1 h t0 R)
theorem f25.eq (t0 : Value) (h : Hp) (R : Value → Hp → Prop) : evC Tryd.prog (fun i => bif Nat.beq i 2 then [3] else bif Nat.beq i 5 then [4] else bif Nat.beq i 9 then [5] else bif Nat.beq i 13 then [6, 7] else bif Nat.beq i 18 then [8] else bif Nat.beq i 21 then [9] else []) (fun _ => []) (Tryd.f25.body.getD .skip) (env0 [t0]) h (bodyQ Tryd.prog Tryd.f25.results.toList R) = f25.T t0 h R := by kernel_rfl
theorem f25.ok {t0 : Value} {h : Hp} {R : Value → Hp → Prop} (k : f25.T t0 h R) : CallsH Tryd.prog 25 #[t0] h R :=
    calls_of_evC (args := [t0]) (c := Tryd.f25.body.getD .skip) (fun i => bif Nat.beq i 2 then [3] else bif Nat.beq i 5 then [4] else bif Nat.beq i 9 then [5] else bif Nat.beq i 13 then [6, 7] else bif Nat.beq i 18 then [8] else bif Nat.beq i 21 then [9] else []) (fun _ => []) follows_mixed Tryd.func25 (by kernel_rfl) (by kernel_rfl) (by kernel_rfl)
      (Eq.mpr (f25.eq t0 h R) k)
/- 32 (trellis/trellisref9.Net).Of -/
/- slots [6] -/
  def f32.L1 (h_1 : Hp) (t2 : Value) (t1 : Value) (R : Value → Hp → Prop) : Prop :=
  ∃ (I1 : List Value → Hp → Prop) (μ1 : List Value → Hp → Nat), I1 [(.int .i64 0)] h_1 ∧
  ∀ t7 t8 t9 t10 t11 t14 t15 t16 t17 t18 t19 t20 t21 t22 t23 t24 t25 t26 t27 t28 t29 t30 t31 t32 t33 t34 t35 t36 t37 t38 t39 t40 t4 t5 t12 t13 t6 : Value, ∀ (h_2 : Hp), I1 [t6] h_2 →
  bnd (fldE 0 t2) fun t8_1 =>
  bnd (ldS h_2 t8_1) fun t9_1 =>
  bnd (lenE t9_1) fun t10_1 =>
  bnd (binE .lss t6 t10_1) fun t11_1 =>
  condT t11_1 (
  bnd (fldE 0 t2) fun t14_1 =>
  bnd (ldS h_2 t14_1) fun t15_1 =>
  bnd (idxE 3 t15_1 t6) fun t17_1 =>
  bnd (fldE 0 t17_1) fun t18_1 =>
  bnd (ldS h_2 t18_1) fun t19_1 =>
  bnd (binE .eql t19_1 t1) fun t21_1 =>
  condT t21_1 (
  bnd (fldE 0 t2) fun t22_1 =>
  bnd (ldS h_2 t22_1) fun t23_1 =>
  bnd (idxE 3 t23_1 t6) fun t25_1 =>
  bnd (fldE 2 t25_1) fun t26_1 =>
  bnd (ldS h_2 t26_1) fun t27_1 =>
  bnd (binE .neq t27_1 (.int .i64 0)) fun t28_1 =>
  condT t28_1 (
  bnd (fldE 0 t2) fun t29_1 =>
  bnd (ldS h_2 t29_1) fun t30_1 =>
  bnd (idxE 3 t30_1 t6) fun t32_1 =>
  bnd (fldE 2 t32_1) fun t33_1 =>
  bnd (ldS h_2 t33_1) fun t34_1 =>
  R (.tuple #[(.slice none 0 0), t34_1]) h_2) (
  bnd (fldE 0 t2) fun t35_1 =>
  bnd (ldS h_2 t35_1) fun t36_1 =>
  bnd (idxE 3 t36_1 t6) fun t38_1 =>
  bnd (fldE 1 t38_1) fun t39_1 =>
  bnd (ldS h_2 t39_1) fun t40_1 =>
  R (.tuple #[t40_1, (.int .i64 0)]) h_2)) (
  bnd (binE .add t6 (.int .i64 1)) fun t13_1 =>
  (I1 [t13_1] h_2 ∧ μ1 [t13_1] h_2 < μ1 [t6] h_2))) (
  bnd (fldE 1 t2) fun t41 =>
  bnd (ldS h_2 t41) fun t42 =>
  condT t42 (
  bnd (binE .add t1 (.int .i64 1)) fun t45 =>
  bnd ((fillS [(0, 1), (1, 1), (2, 1)] #[(.int .i64 0), (.int .i64 0), (.int .i64 0)] [(0, t1), (1, t45), (2, (.int .i64 1))]).map .agg) fun t46 =>
  bnd (fillR 3 #[(.int .i64 0), (.int .i64 0), (.int .i64 0)] [(0, t46)]) fun c =>
  nw h_2 c 62 (fun b => .slice (some ⟨b, 0, none⟩) 1 1) fun t47 h_3 =>
  R (.tuple #[t47, (.int .i64 0)]) h_3) (
  R (.tuple #[(.slice none 0 0), (.int .i64 0)]) h_2))
def f32.T (t0 t1 : Value) (h : Hp) (R : Value → Hp → Prop) : Prop :=
  nw h (Value.cells t0) 26 ptr0 fun t2 h_1 =>
  (f32.L1 h_1 t2 t1 R)
theorem f32.eq (t0 t1 : Value) (h : Hp) (R : Value → Hp → Prop) : evC Tryd.prog (fun i => bif Nat.beq i 2 then [6] else []) (fun _ => []) (Tryd.f32.body.getD .skip) (env0 [t0, t1]) h (bodyQ Tryd.prog Tryd.f32.results.toList R) = f32.T t0 t1 h R := by kernel_rfl
theorem f32.ok {t0 t1 : Value} {h : Hp} {R : Value → Hp → Prop} (k : f32.T t0 t1 h R) : CallsH Tryd.prog 32 #[t0, t1] h R :=
    calls_of_evC (args := [t0, t1]) (c := Tryd.f32.body.getD .skip) (fun i => bif Nat.beq i 2 then [6] else []) (fun _ => []) follows_mixed Tryd.func32 (by kernel_rfl) (by kernel_rfl) (by kernel_rfl)
      (Eq.mpr (f32.eq t0 t1 h R) k)
/- 48 trellis/paths.newSearch -/
def f48.T (t0 t1 : Value) (h : Hp) (R : Value → Hp → Prop) : Prop :=
  nwM h fun t8 h_1 =>
  bnd ((fillS [(0, 1), (1, 1), (2, 1), (3, 1), (4, 1)] #[.nilFunc, (.bool false), (.map none), (.pointer none), (.slice none 0 0)] [(0, t0), (1, t1), (2, t8)]).map .agg) fun t9 =>
  nw h_1 (Value.cells t9) 97 ptr0 fun t10 h_2 =>
  CallsH Tryd.prog 67 #[(.func (.func 68) #[] #[])] h_2 fun t12 h_3 =>
  bnd (nilE t10) fun t13 =>
  bnd (fldE 3 t13) fun t14 =>
  bnd (stE 1 h_3 t14 t12) fun h_4 =>
  R t10 h_4
theorem f48.eq (t0 t1 : Value) (h : Hp) (R : Value → Hp → Prop) : evC Tryd.prog (fun _ => []) (fun _ => []) (Tryd.f48.body.getD .skip) (env0 [t0, t1]) h (bodyQ Tryd.prog Tryd.f48.results.toList R) = f48.T t0 t1 h R := by kernel_rfl
theorem f48.ok {t0 t1 : Value} {h : Hp} {R : Value → Hp → Prop} (k : f48.T t0 t1 h R) : CallsH Tryd.prog 48 #[t0, t1] h R :=
    calls_of_evC (args := [t0, t1]) (c := Tryd.f48.body.getD .skip) (fun _ => []) (fun _ => []) follows_mixed Tryd.func48 (by kernel_rfl) (by kernel_rfl) (by kernel_rfl)
      (Eq.mpr (f48.eq t0 t1 h R) k)
/- 49 (*trellis/paths.search).run -/
def f49.J1 (j12 : Value) (hj : Hp) (t10_1 : Value) (I1 : List Value → Hp → Prop) (μ1 : List Value → Hp → Nat) (h_3 : Hp) (t0 : Value) (R : Value → Hp → Prop) (t2 : Value) (t3 : Value) : Prop :=
  bnd (fldE 3 j12) fun t44_1 =>
  bnd (ldS hj t44_1) fun t45_1 =>
  bnd (bif isB t45_1 false then fldE 0 j12 else some undef) fun t47_1 =>
  bnd (bif isB t45_1 false then ldS hj t47_1 else some undef) fun t48_1 =>
  bnd (bif isB t45_1 false then fldE 0 t10_1 else some undef) fun t49_1 =>
  bnd (bif isB t45_1 false then ldS hj t49_1 else some undef) fun t50_1 =>
  bnd (bif isB t45_1 false then binE .neq t48_1 t50_1 else some undef) fun t51_1 =>
  bnd ((asB t45_1).map fun t => bif t then (.bool true) else t51_1) fun t52_1 =>
  condT t52_1 (
  (I1 [] hj ∧ μ1 [] hj < μ1 [] h_3)) (
  bnd (nilE t0) fun t54_1 =>
  bnd (fldE 4 t54_1) fun t55_1 =>
  bnd (ldS hj t55_1) fun t56_1 =>
  bnd (lenE t56_1) fun t57_1 =>
  bnd (binE .eql t57_1 (.int .i64 4096)) fun t58_1 =>
  condT t58_1 (
  R (.tuple #[(.bool false), (.int .i64 92)]) hj) (
  bnd (fldE 3 j12) fun t59_1 =>
  bnd (stE 1 hj t59_1 (.bool true)) fun h_7 =>
  bnd (nilE t0) fun t61_1 =>
  bnd (fldE 2 t61_1) fun t62_1 =>
  bnd (ldS h_7 t62_1) fun t63_1 =>
  bnd (fldE 1 t10_1) fun t64_1 =>
  bnd (ldS h_7 t64_1) fun t65_1 =>
  bnd (ldA 4 h_7 j12) fun t66_1 =>
  efS Tryd.prog (Go.Instr.mapUpdate 94 t63_1 t65_1 t66_1) h_7 fun _ h_8 =>
  bnd (nilE t0) fun t69_1 =>
  bnd (fldE 4 t69_1) fun t70_1 =>
  bnd (ldS h_8 t70_1) fun t71_1 =>
  bnd (fldE 1 t10_1) fun t72_1 =>
  bnd (ldS h_8 t72_1) fun t73_1 =>
  bnd (fillR 1 #[(.int .i64 0)] [(0, t73_1)]) fun c =>
  nw h_8 c 2 (fun b => .slice (some ⟨b, 0, none⟩) 1 1) fun t74_1 h_9 =>
  efS Tryd.prog (Go.Builtin.append_ #[28, 28] 28 #[t71_1, t74_1]) h_9 fun t75_1 h_10 =>
  bnd (nilE t0) fun t76_1 =>
  bnd (fldE 4 t76_1) fun t77_1 =>
  bnd (stE 1 h_10 t77_1 t75_1) fun h_11 =>
  bnd (fldE 1 t10_1) fun t79_1 =>
  bnd (ldS h_11 t79_1) fun t80_1 =>
  callV Tryd.prog t2 #[t80_1] h_11 fun t81_1 h_12 =>
  condT t81_1 (
  R (.tuple #[(.bool true), (.int .i64 0)]) h_12) (
  bnd (fldE 0 t10_1) fun t83_1 =>
  bnd (ldS h_12 t83_1) fun t84_1 =>
  callV Tryd.prog t3 #[t84_1] h_12 fun t85_1 h_13 =>
  condT t85_1 (
  bnd (ldA 2 h_13 t10_1) fun t87_1 =>
  CallsH Tryd.prog 71 #[t0, t87_1] h_13 fun t88_1 h_14 =>
  bnd (binE .neq t88_1 (.int .i64 0)) fun t90_1 =>
  condT t90_1 (
  R (.tuple #[(.bool false), t88_1]) h_14) (
  (I1 [] h_14 ∧ μ1 [] h_14 < μ1 [] h_3))) (
  (I1 [] h_13 ∧ μ1 [] h_13 < μ1 [] h_3)))))
/- slots [] -/
  def f49.L1 (h_2 : Hp) (t0 : Value) (R : Value → Hp → Prop) (t2 : Value) (t3 : Value) : Prop :=
  ∃ (I1 : List Value → Hp → Prop) (μ1 : List Value → Hp → Nat), I1 [] h_2 ∧
  ∀ t28 t29 t30 t31 t32 t27 t33 t34 t10 t11 t35 t36 t37 t38 t39 t40 t41 t42 t43 t12 t44 t45 t46 t47 t48 t49 t50 t51 t52 t53 t54 t55 t56 t57 t58 t59 t60 t61 t62 t63 t64 t65 t66 t67 t68 t69 t70 t71 t72 t73 t74 t75 t76 t77 t78 t79 t80 t81 t82 t83 t84 t85 t86 t87 t88 t13 t89 t90 t91 t8 t9 : Value, ∀ (h_3 : Hp), I1 [] h_3 →
  bnd (nilE t0) fun t29_1 =>
  bnd (fldE 3 t29_1) fun t30_1 =>
  bnd (ldS h_3 t30_1) fun t31_1 =>
  CallsH Tryd.prog 70 #[t31_1] h_3 fun t32_1 h_4 =>
  bnd (extE 0 t32_1) fun t33_1 =>
  bnd (extE 1 t32_1) fun t34_1 =>
  nw h_4 #[(.int .i64 0), (.int .i64 0)] 134 ptr0 fun t10_1 h_5 =>
  bnd (stE 2 h_5 t10_1 t33_1) fun h_6 =>
  bnd (unE .not t34_1) fun t36_1 =>
  condT t36_1 (
  R (.tuple #[(.bool false), (.int .i64 0)]) h_6) (
  (bnd (nilE t0) fun t38_1 =>
  bnd (fldE 2 t38_1) fun t39_1 =>
  bnd (ldS h_6 t39_1) fun t40_1 =>
  bnd (fldE 1 t10_1) fun t41_1 =>
  bnd (ldS h_6 t41_1) fun t42_1 =>
  rdS Tryd.prog (Go.Instr.lookup 94 t40_1 t42_1 false) h_6 fun t43_1 =>
  nw h_6 #[(.int .i64 0), (.int .i64 0), (.int .i64 0), (.bool false)] 93 ptr0 fun t12_1 h_15 =>
  bnd (stE 4 h_15 t12_1 t43_1) fun h_16 =>
  (f49.J1 t12_1 h_16 t10_1 I1 μ1 h_3 t0 R t2 t3)) ∧
  (bnd (nilE t0) fun t38_2 =>
  bnd (fldE 2 t38_2) fun t39_2 =>
  bnd (ldS h_6 t39_2) fun t40_2 =>
  bnd (fldE 1 t10_1) fun t41_2 =>
  bnd (ldS h_6 t41_2) fun t42_2 =>
  nw h_6 #[(.int .i64 0), (.int .i64 0), (.int .i64 0), (.bool false)] 93 ptr0 fun t12_2 h_17 =>
  rdS Tryd.prog (Go.Instr.lookup 94 t40_2 t42_2 false) h_17 fun t43_2 =>
  bnd (stE 4 h_17 t12_2 t43_2) fun h_18 =>
  (f49.J1 t12_2 h_18 t10_1 I1 μ1 h_3 t0 R t2 t3)))
def f49.T (t0 t1 t2 t3 : Value) (h : Hp) (R : Value → Hp → Prop) : Prop :=
  bnd (nilE t0) fun t15 =>
  bnd (fldE 2 t15) fun t16 =>
  bnd (ldS h t16) fun t17 =>
  bnd ((fillS [(0, 1), (1, 1), (2, 1), (3, 1)] #[(.int .i64 0), (.int .i64 0), (.int .i64 0), (.bool false)] []).map .agg) fun t19 =>
  efS Tryd.prog (Go.Instr.mapUpdate 94 t17 t1 t19) h fun _ h_1 =>
  bnd (nilE t0) fun t21 =>
  bnd (fldE 3 t21) fun t22 =>
  bnd (ldS h_1 t22) fun t23 =>
  bnd ((fillS [(0, 1), (1, 1)] #[(.int .i64 0), (.int .i64 0)] [(0, (.int .i64 0)), (1, t1)]).map .agg) fun t25 =>
  CallsH Tryd.prog 69 #[t23, t25] h_1 fun t26 h_2 =>
  (f49.L1 h_2 t0 R t2 t3)
theorem f49.eq (t0 t1 t2 t3 : Value) (h : Hp) (R : Value → Hp → Prop) : evC Tryd.prog (fun i => bif Nat.beq i 3 then [] else []) (fun i => bif Nat.beq i 6 then [[0, 1, 2, 3, 4, 5, 6, 7, 8], [0, 1, 2, 3, 4, 5, 7, 6, 8]] else []) (Tryd.f49.body.getD .skip) (env0 [t0, t1, t2, t3]) h (bodyQ Tryd.prog Tryd.f49.results.toList R) = f49.T t0 t1 t2 t3 h R := by kernel_rfl
theorem f49.ok {t0 t1 t2 t3 : Value} {h : Hp} {R : Value → Hp → Prop} (k : f49.T t0 t1 t2 t3 h R) : CallsH Tryd.prog 49 #[t0, t1, t2, t3] h R :=
    calls_of_evC (args := [t0, t1, t2, t3]) (c := Tryd.f49.body.getD .skip) (fun i => bif Nat.beq i 3 then [] else []) (fun i => bif Nat.beq i 6 then [[0, 1, 2, 3, 4, 5, 6, 7, 8], [0, 1, 2, 3, 4, 5, 7, 6, 8]] else []) follows_mixed Tryd.func49 (by kernel_rfl) (by kernel_rfl) (by kernel_rfl)
      (Eq.mpr (f49.eq t0 t1 t2 t3 h R) k)
/- 50 trellis/paths.Hops$1 -/
def f50.T (t0 t1 : Value) (h : Hp) (R : Value → Hp → Prop) : Prop :=
  bnd (ldS h t1) fun t5 =>
  bnd (binE .eql t0 t5) fun t6 =>
  R t6 h
theorem f50.eq (t0 t1 : Value) (h : Hp) (R : Value → Hp → Prop) : evC Tryd.prog (fun _ => []) (fun _ => []) (Tryd.f50.body.getD .skip) (env0 [t0, t1]) h (bodyQ Tryd.prog Tryd.f50.results.toList R) = f50.T t0 t1 h R := by kernel_rfl
theorem f50.ok {t0 t1 : Value} {h : Hp} {R : Value → Hp → Prop} (k : f50.T t0 t1 h R) : CallsH Tryd.prog 50 #[t0, t1] h R :=
    calls_of_evC (args := [t0, t1]) (c := Tryd.f50.body.getD .skip) (fun _ => []) (fun _ => []) follows_mixed Tryd.func50 (by kernel_rfl) (by kernel_rfl) (by kernel_rfl)
      (Eq.mpr (f50.eq t0 t1 h R) k)
/- 51 trellis/paths.always -/
def f51.T (t0 : Value) (h : Hp) (R : Value → Hp → Prop) : Prop :=
  R (.bool true) h
theorem f51.eq (t0 : Value) (h : Hp) (R : Value → Hp → Prop) : evC Tryd.prog (fun _ => []) (fun _ => []) (Tryd.f51.body.getD .skip) (env0 [t0]) h (bodyQ Tryd.prog Tryd.f51.results.toList R) = f51.T t0 h R := by kernel_rfl
theorem f51.ok {t0 : Value} {h : Hp} {R : Value → Hp → Prop} (k : f51.T t0 h R) : CallsH Tryd.prog 51 #[t0] h R :=
    calls_of_evC (args := [t0]) (c := Tryd.f51.body.getD .skip) (fun _ => []) (fun _ => []) follows_mixed Tryd.func51 (by kernel_rfl) (by kernel_rfl) (by kernel_rfl)
      (Eq.mpr (f51.eq t0 h R) k)
/- 52 trellis/trellisref9.Search -/
def f52.J1 (j8 : Value) (hj : Hp) (t7 : Value) (t6 : Value) (R : Value → Hp → Prop) (t9 : Value) (I1 : List Value → Hp → Prop) (μ1 : List Value → Hp → Nat) (t8 : Value) (h_7 : Hp) : Prop :=
  bnd (lenE j8) fun t109_1 =>
  bnd (binE .eql t109_1 (.int .i64 0)) fun t110_1 =>
  condT t110_1 (
  bnd (ldA 4 hj t7) fun t111_1 =>
  bnd (stE 4 hj t6 t111_1) fun h_13 =>
  bnd (ldA 4 h_13 t6) fun r6_1 =>
  R r6_1 h_13) (
  bnd (fldE 0 t7) fun t112_1 =>
  bnd (ldS hj t112_1) fun t113_1 =>
  bnd (lenE t113_1) fun t114_1 =>
  bnd (binE .eql t114_1 (.int .i64 4096)) fun t115_1 =>
  condT t115_1 (
  bnd (fldE 2 t7) fun t116_1 =>
  bnd (stE 1 hj t116_1 (.int .i64 92)) fun h_14 =>
  bnd (ldA 4 h_14 t7) fun t117_1 =>
  bnd (stE 4 h_14 t6 t117_1) fun h_15 =>
  bnd (ldA 4 h_15 t6) fun r6_2 =>
  R r6_2 h_15) (
  CallsH Tryd.prog 75 #[j8] hj fun t119_1 h_16 =>
  bnd (idxE 2 j8 t119_1) fun t122_1 =>
  bnd (ldA 2 h_16 t122_1) fun t123_1 =>
  bnd (stE 2 h_16 t9 t123_1) fun h_17 =>
  bnd (sliceE 2 j8 none (some t119_1)) fun t127_1 =>
  efS Tryd.prog (Go.Builtin.append_ #[98, 98] 98 #[(.slice none 0 0), t127_1]) h_17 fun t128_1 h_18 =>
  bnd (binE .add t119_1 (.int .i64 1)) fun t132_1 =>
  bnd (sliceE 2 j8 (some t132_1) none) fun t133_1 =>
  efS Tryd.prog (Go.Builtin.append_ #[98, 98] 98 #[t128_1, t133_1]) h_18 fun t134_1 h_19 =>
  (I1 [t134_1] h_19 ∧ μ1 [t134_1] h_19 < μ1 [t8] h_7)))
def f52.J2 (t12_1 : Value) (I2 : List Value → Hp → Prop) (j8_1 : Value) (hj_1 : Hp) (μ2 : List Value → Hp → Nat) (t8_1 : Value) (h_26 : Hp) : Prop :=
  bnd (binE .add t12_1 (.int .i64 1)) fun t69_2 =>
  (I2 [j8_1, t69_2] hj_1 ∧ μ2 [j8_1, t69_2] hj_1 < μ2 [t8_1, t12_1] h_26)
/- slots [8, 12] -/
  def f52.L2 (t8 : Value) (h_23 : Hp) (t57_1 : Value) (t5 : Value) (t7 : Value) (t6 : Value) (R : Value → Hp → Prop) (t9 : Value) (I1 : List Value → Hp → Prop) (μ1 : List Value → Hp → Nat) (h_7 : Hp) : Prop :=
  ∃ (I2 : List Value → Hp → Prop) (μ2 : List Value → Hp → Nat), I2 [t8, (.int .i64 0)] h_23 ∧
  ∀ t64_1 t65_1 t66_1 t67_1 t70_1 t71_1 t72_1 t73_1 t74_1 t75_1 t76_1 t13_1 t77_1 t78_1 t79_1 t80_1 t81_1 t82_1 t83_1 t84_1 t85_1 t86_1 t87_1 t88_1 t89_1 t90_1 t91_1 t92_1 t93_1 t94_1 t95_1 t96_1 t97_1 t98_1 t99_1 t100_1 t101_1 t102_1 t103_1 t104_1 t105_1 t106_1 t107_1 t8_1 t68_1 t69_1 t12_1 : Value, ∀ (h_26 : Hp), I2 [t8_1, t12_1] h_26 →
  bnd (lenE t57_1) fun t66_2 =>
  bnd (binE .lss t12_1 t66_2) fun t67_2 =>
  condT t67_2 (
  bnd (idxE 3 t57_1 t12_1) fun t72_2 =>
  bnd (ldA 3 h_26 t72_2) fun t73_2 =>
  bnd (fldE 3 t5) fun t74_2 =>
  bnd (ldS h_26 t74_2) fun t75_2 =>
  CallsH Tryd.prog 72 #[t73_2, t75_2] h_26 fun t76_2 h_27 =>
  bnd (binE .lss t76_2 (.int .i64 0)) fun t78_2 =>
  condT t78_2 (
  bnd (fldE 2 t7) fun t79_2 =>
  bnd (stE 1 h_27 t79_2 (.int .i64 90)) fun h_28 =>
  bnd (ldA 4 h_28 t7) fun t80_2 =>
  bnd (stE 4 h_28 t6 t80_2) fun h_29 =>
  bnd (ldA 4 h_29 t6) fun r6_4 =>
  R r6_4 h_29) (
  bnd (fldE 1 t9) fun t82_2 =>
  bnd (ldS h_27 t82_2) fun t83_2 =>
  bnd (binE .sub (.int .i64 1099511627776) t83_2) fun t84_2 =>
  bnd (binE .gtr t76_2 t84_2) fun t85_2 =>
  condT t85_2 (
  bnd (fldE 2 t7) fun t86_2 =>
  bnd (stE 1 h_27 t86_2 (.int .i64 91)) fun h_30 =>
  bnd (ldA 4 h_30 t7) fun t87_2 =>
  bnd (stE 4 h_30 t6 t87_2) fun h_31 =>
  bnd (ldA 4 h_31 t6) fun r6_5 =>
  R r6_5 h_31) (
  bnd (fldE 0 t7) fun t88_2 =>
  bnd (ldS h_27 t88_2) fun t89_2 =>
  bnd (idxE 3 t57_1 t12_1) fun t92_2 =>
  bnd (fldE 1 t92_2) fun t93_2 =>
  bnd (ldS h_27 t93_2) fun t94_2 =>
  CallsH Tryd.prog 73 #[t89_2, t94_2] h_27 fun t95_2 h_32 =>
  bnd (unE .not t95_2) fun t96_2 =>
  condT t96_2 (
  bnd (idxE 3 t57_1 t12_1) fun t100_2 =>
  bnd (fldE 1 t100_2) fun t101_2 =>
  bnd (ldS h_32 t101_2) fun t102_2 =>
  bnd (fldE 1 t9) fun t103_2 =>
  bnd (ldS h_32 t103_2) fun t104_2 =>
  bnd (binE .add t104_2 t76_2) fun t106_2 =>
  CallsH Tryd.prog 74 #[t8_1, t102_2, t106_2] h_32 fun t107_2 h_33 =>
  (f52.J2 t12_1 I2 t107_2 h_33 μ2 t8_1 h_26)) (
  (f52.J2 t12_1 I2 t8_1 h_32 μ2 t8_1 h_26))))) (
  (f52.J1 t8_1 h_26 t7 t6 R t9 I1 μ1 t8 h_7))
/- slots [8] -/
  def f52.L1 (h_6 : Hp) (t7 : Value) (t9 : Value) (t5 : Value) (t6 : Value) (R : Value → Hp → Prop) (t3 : Value) : Prop :=
  ∃ (I1 : List Value → Hp → Prop) (μ1 : List Value → Hp → Nat), I1 [(.slice none 0 0)] h_6 ∧
  ∀ t18 t19 t20 t21 t22 t23 t24 t25 t26 t27 t28 t29 t30 t31 t32 t33 t34 t35 t36 t37 t38 t39 t40 t41 t42 t43 t44 t45 t46 t47 t48 t49 t50 t51 t53 t54 t55 t56 t52 t57 t58 t10 t11 t59 t60 t61 t62 t63 t64 t65 t66 t67 t70 t71 t72 t73 t74 t75 t76 t13 t77 t78 t79 t80 t81 t82 t83 t84 t85 t86 t87 t88 t89 t90 t91 t92 t93 t94 t95 t96 t97 t98 t99 t100 t101 t102 t103 t104 t105 t106 t107 t68 t69 t12 t108 t109 t110 t111 t112 t113 t114 t115 t116 t117 t118 t119 t14 t120 t121 t122 t123 t124 t125 t126 t127 t128 t15 t129 t130 t131 t132 t133 t134 t8 : Value, ∀ (h_7 : Hp), I1 [t8] h_7 →
  bnd (fldE 0 t7) fun t18_1 =>
  bnd (ldS h_7 t18_1) fun t19_1 =>
  bnd (ldA 2 h_7 t9) fun t20_1 =>
  bnd (fillR 2 #[(.int .i64 0), (.int .i64 0)] [(0, t20_1)]) fun c =>
  nw h_7 c 105 (fun b => .slice (some ⟨b, 0, none⟩) 1 1) fun t21_1 h_8 =>
  efS Tryd.prog (Go.Builtin.append_ #[98, 98] 98 #[t19_1, t21_1]) h_8 fun t22_1 h_9 =>
  bnd (fldE 0 t7) fun t23_1 =>
  bnd (stE 1 h_9 t23_1 t22_1) fun h_10 =>
  bnd (fldE 0 t5) fun t24_1 =>
  bnd (ldS h_10 t24_1) fun t25_1 =>
  bnd (bif isB t25_1 true then fldE 0 t9 else some undef) fun t27_1 =>
  bnd (bif isB t25_1 true then ldS h_10 t27_1 else some undef) fun t28_1 =>
  bnd (bif isB t25_1 true then fldE 1 t5 else some undef) fun t29_1 =>
  bnd (bif isB t25_1 true then ldS h_10 t29_1 else some undef) fun t30_1 =>
  bnd (bif isB t25_1 true then binE .eql t28_1 t30_1 else some undef) fun t31_1 =>
  bnd ((asB t25_1).map fun t => bif t then t31_1 else (.bool false)) fun t32_1 =>
  condT t32_1 (
  bnd (fldE 3 t7) fun t33_1 =>
  bnd (stE 1 h_10 t33_1 (.bool true)) fun h_11 =>
  bnd (ldA 4 h_11 t7) fun t34_1 =>
  bnd (stE 4 h_11 t6 t34_1) fun h_12 =>
  bnd (ldA 4 h_12 t6) fun r6 =>
  R r6 h_12) (
  bnd (fldE 2 t5) fun t35_1 =>
  bnd (ldS h_10 t35_1) fun t36_1 =>
  bnd (binE .lss t36_1 (.int .i64 0)) fun t37_1 =>
  bnd (bif isB t37_1 false then fldE 1 t9 else some undef) fun t39_1 =>
  bnd (bif isB t37_1 false then ldS h_10 t39_1 else some undef) fun t40_1 =>
  bnd (bif isB t37_1 false then fldE 2 t5 else some undef) fun t41_1 =>
  bnd (bif isB t37_1 false then ldS h_10 t41_1 else some undef) fun t42_1 =>
  bnd (bif isB t37_1 false then binE .lss t40_1 t42_1 else some undef) fun t43_1 =>
  bnd ((asB t37_1).map fun t => bif t then (.bool true) else t43_1) fun t44_1 =>
  condT t44_1 (
  bnd (fldE 1 t7) fun t45_1 =>
  bnd (ldS h_10 t45_1) fun t46_1 =>
  bnd (fldE 0 t9) fun t47_1 =>
  bnd (ldS h_10 t47_1) fun t48_1 =>
  bnd (fillR 1 #[(.int .i64 0)] [(0, t48_1)]) fun c_1 =>
  nw h_10 c_1 2 (fun b => .slice (some ⟨b, 0, none⟩) 1 1) fun t49_1 h_20 =>
  efS Tryd.prog (Go.Builtin.append_ #[28, 28] 28 #[t46_1, t49_1]) h_20 fun t50_1 h_21 =>
  bnd (fldE 1 t7) fun t51_1 =>
  bnd (stE 1 h_21 t51_1 t50_1) fun h_22 =>
  bnd (ldA 2 h_22 t3) fun t53_1 =>
  bnd (fldE 0 t9) fun t54_1 =>
  bnd (ldS h_22 t54_1) fun t55_1 =>
  CallsH Tryd.prog 32 #[t53_1, t55_1] h_22 fun t56_1 h_23 =>
  bnd (extE 0 t56_1) fun t57_1 =>
  bnd (extE 1 t56_1) fun t58_1 =>
  bnd (binE .neq t58_1 (.int .i64 0)) fun t60_1 =>
  condT t60_1 (
  bnd (fldE 2 t7) fun t62_1 =>
  bnd (stE 1 h_23 t62_1 t58_1) fun h_24 =>
  bnd (ldA 4 h_24 t7) fun t63_1 =>
  bnd (stE 4 h_24 t6 t63_1) fun h_25 =>
  bnd (ldA 4 h_25 t6) fun r6_3 =>
  R r6_3 h_25) (
  (f52.L2 t8 h_23 t57_1 t5 t7 t6 R t9 I1 μ1 h_7))) (
  (f52.J1 t8 h_10 t7 t6 R t9 I1 μ1 t8 h_7)))
def f52.T (t0 t1 t2 : Value) (h : Hp) (R : Value → Hp → Prop) : Prop :=
  nw h (Value.cells t0) 26 ptr0 fun t3 h_1 =>
  nw h_1 (Value.cells t2) 103 ptr0 fun t5 h_2 =>
  nw h_2 #[(.slice none 0 0), (.slice none 0 0), (.int .i64 0), (.bool false)] 100 ptr0 fun t6 h_3 =>
  nw h_3 #[(.slice none 0 0), (.slice none 0 0), (.int .i64 0), (.bool false)] 100 ptr0 fun t7 h_4 =>
  bnd ((fillS [(0, 1), (1, 1)] #[(.int .i64 0), (.int .i64 0)] [(0, t1)]).map .agg) fun t17 =>
  nw h_4 #[(.int .i64 0), (.int .i64 0)] 105 ptr0 fun t9 h_5 =>
  bnd (stE 2 h_5 t9 t17) fun h_6 =>
  (f52.L1 h_6 t7 t9 t5 t6 R t3)
theorem f52.eq (t0 t1 t2 : Value) (h : Hp) (R : Value → Hp → Prop) : evC Tryd.prog (fun i => bif Nat.beq i 4 then [8] else bif Nat.beq i 15 then [8, 12] else []) (fun _ => []) (Tryd.f52.body.getD .skip) (env0 [t0, t1, t2]) h (bodyQ Tryd.prog Tryd.f52.results.toList R) = f52.T t0 t1 t2 h R := by kernel_rfl
theorem f52.ok {t0 t1 t2 : Value} {h : Hp} {R : Value → Hp → Prop} (k : f52.T t0 t1 t2 h R) : CallsH Tryd.prog 52 #[t0, t1, t2] h R :=
    calls_of_evC (args := [t0, t1, t2]) (c := Tryd.f52.body.getD .skip) (fun i => bif Nat.beq i 4 then [8] else bif Nat.beq i 15 then [8, 12] else []) (fun _ => []) follows_mixed Tryd.func52 (by kernel_rfl) (by kernel_rfl) (by kernel_rfl)
      (Eq.mpr (f52.eq t0 t1 t2 h R) k)
/- 53 trellis/paths.never -/
def f53.T (t0 : Value) (h : Hp) (R : Value → Hp → Prop) : Prop :=
  R (.bool false) h
theorem f53.eq (t0 : Value) (h : Hp) (R : Value → Hp → Prop) : evC Tryd.prog (fun _ => []) (fun _ => []) (Tryd.f53.body.getD .skip) (env0 [t0]) h (bodyQ Tryd.prog Tryd.f53.results.toList R) = f53.T t0 h R := by kernel_rfl
theorem f53.ok {t0 : Value} {h : Hp} {R : Value → Hp → Prop} (k : f53.T t0 h R) : CallsH Tryd.prog 53 #[t0] h R :=
    calls_of_evC (args := [t0]) (c := Tryd.f53.body.getD .skip) (fun _ => []) (fun _ => []) follows_mixed Tryd.func53 (by kernel_rfl) (by kernel_rfl) (by kernel_rfl)
      (Eq.mpr (f53.eq t0 h R) k)
/- 54 trellis/paths.Reach$1 -/
def f54.T (t0 t1 : Value) (h : Hp) (R : Value → Hp → Prop) : Prop :=
  bnd (ldS h t1) fun t5 =>
  bnd (binE .lss t0 t5) fun t6 =>
  R t6 h
theorem f54.eq (t0 t1 : Value) (h : Hp) (R : Value → Hp → Prop) : evC Tryd.prog (fun _ => []) (fun _ => []) (Tryd.f54.body.getD .skip) (env0 [t0, t1]) h (bodyQ Tryd.prog Tryd.f54.results.toList R) = f54.T t0 t1 h R := by kernel_rfl
theorem f54.ok {t0 t1 : Value} {h : Hp} {R : Value → Hp → Prop} (k : f54.T t0 t1 h R) : CallsH Tryd.prog 54 #[t0, t1] h R :=
    calls_of_evC (args := [t0, t1]) (c := Tryd.f54.body.getD .skip) (fun _ => []) (fun _ => []) follows_mixed Tryd.func54 (by kernel_rfl) (by kernel_rfl) (by kernel_rfl)
      (Eq.mpr (f54.eq t0 t1 h R) k)
/- 67 trellis/paths.NewHeap[trellis/paths.offer] -/
def f67.T (t0 : Value) (h : Hp) (R : Value → Hp → Prop) : Prop :=
  bnd (nilBin .f .eql t0 .nilFunc) fun t4 =>
  condT t4 (
  R (.pointer none) h) (
  bnd ((fillS [(0, 1), (1, 1), (2, 1)] #[.nilFunc, (.slice none 0 0), (.int .i64 0)] [(0, t0)]).map .agg) fun t6 =>
  nw h (Value.cells t6) 152 ptr0 fun t7 h_1 =>
  R t7 h_1)
theorem f67.eq (t0 : Value) (h : Hp) (R : Value → Hp → Prop) : evC Tryd.prog (fun _ => []) (fun _ => []) (Tryd.f67.body.getD .skip) (env0 [t0]) h (bodyQ Tryd.prog Tryd.f67.results.toList R) = f67.T t0 h R := by kernel_rfl
theorem f67.ok {t0 : Value} {h : Hp} {R : Value → Hp → Prop} (k : f67.T t0 h R) : CallsH Tryd.prog 67 #[t0] h R :=
    calls_of_evC (args := [t0]) (c := Tryd.f67.body.getD .skip) (fun _ => []) (fun _ => []) follows_mixed Tryd.func67 (by kernel_rfl) (by kernel_rfl) (by kernel_rfl)
      (Eq.mpr (f67.eq t0 h R) k)
/- 68 trellis/paths.newSearch$1 -/
def f68.T (t0 t1 : Value) (h : Hp) (R : Value → Hp → Prop) : Prop :=
  nw h (Value.cells t0) 134 ptr0 fun t2 h_1 =>
  nw h_1 (Value.cells t1) 134 ptr0 fun t3 h_2 =>
  bnd (fldE 0 t2) fun t5 =>
  bnd (ldS h_2 t5) fun t6 =>
  bnd (fldE 0 t3) fun t7 =>
  bnd (ldS h_2 t7) fun t8 =>
  bnd (binE .lss t6 t8) fun t9 =>
  bnd (bif isB t9 false then fldE 0 t2 else some undef) fun t11 =>
  bnd (bif isB t9 false then ldS h_2 t11 else some undef) fun t12 =>
  bnd (bif isB t9 false then fldE 0 t3 else some undef) fun t13 =>
  bnd (bif isB t9 false then ldS h_2 t13 else some undef) fun t14 =>
  bnd (bif isB t9 false then binE .eql t12 t14 else some undef) fun t15 =>
  bnd (bif isB (bif isB t9 false then t15 else undef) true then fldE 1 t2 else some undef) fun t17 =>
  bnd (bif isB (bif isB t9 false then t15 else undef) true then ldS h_2 t17 else some undef) fun t18 =>
  bnd (bif isB (bif isB t9 false then t15 else undef) true then fldE 1 t3 else some undef) fun t19 =>
  bnd (bif isB (bif isB t9 false then t15 else undef) true then ldS h_2 t19 else some undef) fun t20 =>
  bnd (bif isB (bif isB t9 false then t15 else undef) true then binE .lss t18 t20 else some undef) fun t21 =>
  bnd (bif isB t9 false then ((asB (bif isB t9 false then t15 else undef)).map fun t => bif t then t21 else (.bool false)) else some undef) fun t22 =>
  bnd ((asB t9).map fun t => bif t then (.bool true) else t22) fun t23 =>
  R t23 h_2
theorem f68.eq (t0 t1 : Value) (h : Hp) (R : Value → Hp → Prop) : evC Tryd.prog (fun _ => []) (fun _ => []) (Tryd.f68.body.getD .skip) (env0 [t0, t1]) h (bodyQ Tryd.prog Tryd.f68.results.toList R) = f68.T t0 t1 h R := by kernel_rfl
theorem f68.ok {t0 t1 : Value} {h : Hp} {R : Value → Hp → Prop} (k : f68.T t0 t1 h R) : CallsH Tryd.prog 68 #[t0, t1] h R :=
    calls_of_evC (args := [t0, t1]) (c := Tryd.f68.body.getD .skip) (fun _ => []) (fun _ => []) follows_mixed Tryd.func68 (by kernel_rfl) (by kernel_rfl) (by kernel_rfl)
      (Eq.mpr (f68.eq t0 t1 h R) k)
/- 69 (*trellis/paths.Heap[trellis/paths.offer]).Push -/
/- slots [4] -/
  def f69.L1 (t34 : Value) (h_5 : Hp) (t0 : Value) (R : Value → Hp → Prop) : Prop :=
  ∃ (I1 : List Value → Hp → Prop) (μ1 : List Value → Hp → Nat), I1 [t34] h_5 ∧
  ∀ t35 t36 t37 t38 t39 t40 t41 t42 t43 t44 t48 t49 t50 t51 t52 t53 t45 t46 t47 t4 : Value, ∀ (h_6 : Hp), I1 [t4] h_6 →
  bnd (binE .gtr t4 (.int .i64 0)) fun t36_1 =>
  bnd (bif isB t36_1 true then binE .sub (bif isB t36_1 true then t4 else undef) (.int .i64 1) else some undef) fun t41_1 =>
  bnd (bif isB t36_1 true then binE .quo t41_1 (.int .i64 2) else some undef) fun t42_1 =>
  guardT (isB t36_1 true) (fun K => CallsH Tryd.prog 81 #[(bif isB t36_1 true then t0 else undef), (bif isB t36_1 true then t4 else undef), t42_1] h_6 K) h_6 fun t43_1 h_7 =>
  bnd ((asB t36_1).map fun t => bif t then t43_1 else (.bool false)) fun t44_1 =>
  condT t44_1 (
  bnd (binE .sub t4 (.int .i64 1)) fun t51_1 =>
  bnd (binE .quo t51_1 (.int .i64 2)) fun t52_1 =>
  CallsH Tryd.prog 82 #[t0, t4, t52_1] h_7 fun t53_1 h_8 =>
  bnd (binE .sub t4 (.int .i64 1)) fun t46_1 =>
  bnd (binE .quo t46_1 (.int .i64 2)) fun t47_1 =>
  (I1 [t47_1] h_8 ∧ μ1 [t47_1] h_8 < μ1 [t4] h_6)) (
  R (.tuple #[]) h_7)
def f69.T (t0 t1 : Value) (h : Hp) (R : Value → Hp → Prop) : Prop :=
  nw h (Value.cells t1) 134 ptr0 fun t3 h_1 =>
  bnd (nilBin .p .eql t0 (.pointer none)) fun t6 =>
  condT t6 (
  R (.tuple #[]) h_1) (
  bnd (nilE t0) fun t9 =>
  bnd (fldE 1 t9) fun t10 =>
  bnd (ldS h_1 t10) fun t11 =>
  bnd (ldA 2 h_1 t3) fun t12 =>
  bnd (nilE t0) fun t14 =>
  bnd (fldE 2 t14) fun t15 =>
  bnd (ldS h_1 t15) fun t16 =>
  bnd ((fillS [(0, 2), (2, 1)] #[(.int .i64 0), (.int .i64 0), (.int .i64 0)] [(0, t12), (1, t16)]).map .agg) fun t17 =>
  bnd (fillR 3 #[(.int .i64 0), (.int .i64 0), (.int .i64 0)] [(0, t17)]) fun c =>
  nw h_1 c 154 (fun b => .slice (some ⟨b, 0, none⟩) 1 1) fun t18 h_2 =>
  efS Tryd.prog (Go.Builtin.append_ #[150, 150] 150 #[t11, t18]) h_2 fun t19 h_3 =>
  bnd (nilE t0) fun t20 =>
  bnd (fldE 1 t20) fun t21 =>
  bnd (stE 1 h_3 t21 t19) fun h_4 =>
  bnd (nilE t0) fun t23 =>
  bnd (fldE 2 t23) fun t24 =>
  bnd (ldS h_4 t24) fun t25 =>
  bnd (binE .add t25 (.int .i64 1)) fun t26 =>
  bnd (nilE t0) fun t27 =>
  bnd (fldE 2 t27) fun t28 =>
  bnd (stE 1 h_4 t28 t26) fun h_5 =>
  bnd (nilE t0) fun t30 =>
  bnd (fldE 1 t30) fun t31 =>
  bnd (ldS h_5 t31) fun t32 =>
  bnd (lenE t32) fun t33 =>
  bnd (binE .sub t33 (.int .i64 1)) fun t34 =>
  (f69.L1 t34 h_5 t0 R))
theorem f69.eq (t0 t1 : Value) (h : Hp) (R : Value → Hp → Prop) : evC Tryd.prog (fun i => bif Nat.beq i 5 then [4] else []) (fun _ => []) (Tryd.f69.body.getD .skip) (env0 [t0, t1]) h (bodyQ Tryd.prog Tryd.f69.results.toList R) = f69.T t0 t1 h R := by kernel_rfl
theorem f69.ok {t0 t1 : Value} {h : Hp} {R : Value → Hp → Prop} (k : f69.T t0 t1 h R) : CallsH Tryd.prog 69 #[t0, t1] h R :=
    calls_of_evC (args := [t0, t1]) (c := Tryd.f69.body.getD .skip) (fun i => bif Nat.beq i 5 then [4] else []) (fun _ => []) follows_mixed Tryd.func69 (by kernel_rfl) (by kernel_rfl) (by kernel_rfl)
      (Eq.mpr (f69.eq t0 t1 h R) k)
/- 70 (*trellis/paths.Heap[trellis/paths.offer]).Pop -/
def f70.J1 (t55_1 : Value) (I2 : List Value → Hp → Prop) (j8 : Value) (hj : Hp) (μ2 : List Value → Hp → Nat) (t8_1 : Value) (h_11 : Hp) : Prop :=
  bnd (binE .add t55_1 (.int .i64 1)) fun t68_2 =>
  (I2 [j8, t68_2] hj ∧ μ2 [j8, t68_2] hj < μ2 [t8_1, t55_1] h_11)
/- slots [8, 55] -/
  def f70.L2 (t7 : Value) (h_10 : Hp) (t54_1 : Value) (t20 : Value) (t0 : Value) (t6 : Value) (t2 : Value) (R : Value → Hp → Prop) (I1 : List Value → Hp → Prop) (μ1 : List Value → Hp → Nat) : Prop :=
  ∃ (I2 : List Value → Hp → Prop) (μ2 : List Value → Hp → Nat), I2 [t7, (.int .i64 0)] h_10 ∧
  ∀ t56_1 t57_1 t10_1 t58_1 t59_1 t60_1 t61_1 t62_1 t63_1 t64_1 t65_1 t66_1 t67_1 t8_1 t68_1 t55_1 : Value, ∀ (h_11 : Hp), I2 [t8_1, t55_1] h_11 →
  bnd (binE .lss t55_1 (.int .i64 2)) fun t56_2 =>
  condT t56_2 (
  bnd (idxV none 2 1 t54_1 t55_1) fun t57_2 =>
  bnd (binE .lss t57_2 t20) fun t60_2 =>
  guardT (isB t60_2 true) (fun K => CallsH Tryd.prog 81 #[(bif isB t60_2 true then t0 else undef), (bif isB t60_2 true then t57_2 else undef), (bif isB t60_2 true then t8_1 else undef)] h_11 K) h_11 fun t65_2 h_12 =>
  bnd ((asB t60_2).map fun t => bif t then t65_2 else (.bool false)) fun t66_2 =>
  condT t66_2 (
  (f70.J1 t55_1 I2 t57_2 h_12 μ2 t8_1 h_11)) (
  (f70.J1 t55_1 I2 t8_1 h_12 μ2 t8_1 h_11))) (
  bnd (binE .eql t8_1 t7) fun t71_1 =>
  condT t71_1 (
  bnd (ldA 2 h_11 t6) fun t72_1 =>
  bnd (stE 2 h_11 t2 t72_1) fun h_13 =>
  bnd (ldA 2 h_13 t2) fun r2_1 =>
  R (.tuple #[r2_1, (.bool true)]) h_13) (
  CallsH Tryd.prog 82 #[t0, t7, t8_1] h_11 fun t76_1 h_14 =>
  (I1 [t8_1] h_14 ∧ μ1 [t8_1] h_14 < μ1 [t7] h_10)))
/- slots [7] -/
  def f70.L1 (h_9 : Hp) (t20 : Value) (t0 : Value) (t6 : Value) (t2 : Value) (R : Value → Hp → Prop) : Prop :=
  ∃ (I1 : List Value → Hp → Prop) (μ1 : List Value → Hp → Nat), I1 [(.int .i64 0)] h_9 ∧
  ∀ t47 t48 t49 t50 t51 t52 t53 t54 t56 t57 t10 t58 t59 t60 t61 t62 t63 t64 t65 t66 t67 t8 t68 t55 t69 t70 t71 t72 t3 t73 t74 t75 t76 t77 t7 : Value, ∀ (h_10 : Hp), I1 [t7] h_10 →
  bnd (binE .mul (.int .i64 2) t7) fun t49_1 =>
  bnd (binE .add t49_1 (.int .i64 1)) fun t50_1 =>
  bnd (binE .mul (.int .i64 2) t7) fun t52_1 =>
  bnd (binE .add t52_1 (.int .i64 2)) fun t53_1 =>
  bnd ((fillR 1 #[(.int .i64 0), (.int .i64 0)] [(0, t50_1), (1, t53_1)]).map .agg) fun t54_1 =>
  (f70.L2 t7 h_10 t54_1 t20 t0 t6 t2 R I1 μ1)
def f70.T (t0 : Value) (h : Hp) (R : Value → Hp → Prop) : Prop :=
  nw h #[(.int .i64 0), (.int .i64 0)] 134 ptr0 fun t2 h_1 =>
  nw h_1 #[(.int .i64 0), (.int .i64 0)] 134 ptr0 fun t4 h_2 =>
  CallsH Tryd.prog 83 #[t0] h_2 fun t12 h_3 =>
  bnd (binE .eql t12 (.int .i64 0)) fun t13 =>
  condT t13 (
  bnd (ldA 2 h_3 t4) fun t14 =>
  bnd (stE 2 h_3 t2 t14) fun h_4 =>
  bnd (ldA 2 h_4 t2) fun r2 =>
  R (.tuple #[r2, (.bool false)]) h_4) (
  bnd (nilE t0) fun t16 =>
  bnd (fldE 1 t16) fun t17 =>
  bnd (ldS h_3 t17) fun t18 =>
  bnd (lenE t18) fun t19 =>
  bnd (binE .sub t19 (.int .i64 1)) fun t20 =>
  bnd (nilE t0) fun t22 =>
  bnd (fldE 1 t22) fun t23 =>
  bnd (ldS h_3 t23) fun t24 =>
  bnd (idxE 3 t24 (.int .i64 0)) fun t25 =>
  bnd (fldE 0 t25) fun t26 =>
  bnd (ldA 2 h_3 t26) fun t27 =>
  nw h_3 #[(.int .i64 0), (.int .i64 0)] 134 ptr0 fun t6 h_5 =>
  bnd (stE 2 h_5 t6 t27) fun h_6 =>
  CallsH Tryd.prog 82 #[t0, (.int .i64 0), t20] h_6 fun t30 h_7 =>
  bnd (nilE t0) fun t32 =>
  bnd (fldE 1 t32) fun t33 =>
  bnd (ldS h_7 t33) fun t34 =>
  bnd ((fillS [(0, 2), (2, 1)] #[(.int .i64 0), (.int .i64 0), (.int .i64 0)] []).map .agg) fun t36 =>
  bnd (idxE 3 t34 t20) fun t37 =>
  bnd (stE 3 h_7 t37 t36) fun h_8 =>
  bnd (nilE t0) fun t40 =>
  bnd (fldE 1 t40) fun t41 =>
  bnd (ldS h_8 t41) fun t42 =>
  bnd (sliceE 3 t42 none (some t20)) fun t44 =>
  bnd (nilE t0) fun t45 =>
  bnd (fldE 1 t45) fun t46 =>
  bnd (stE 1 h_8 t46 t44) fun h_9 =>
  (f70.L1 h_9 t20 t0 t6 t2 R))
theorem f70.eq (t0 : Value) (h : Hp) (R : Value → Hp → Prop) : evC Tryd.prog (fun i => bif Nat.beq i 10 then [7] else bif Nat.beq i 12 then [8, 55] else []) (fun _ => []) (Tryd.f70.body.getD .skip) (env0 [t0]) h (bodyQ Tryd.prog Tryd.f70.results.toList R) = f70.T t0 h R := by kernel_rfl
theorem f70.ok {t0 : Value} {h : Hp} {R : Value → Hp → Prop} (k : f70.T t0 h R) : CallsH Tryd.prog 70 #[t0] h R :=
    calls_of_evC (args := [t0]) (c := Tryd.f70.body.getD .skip) (fun i => bif Nat.beq i 10 then [7] else bif Nat.beq i 12 then [8, 55] else []) (fun _ => []) follows_mixed Tryd.func70 (by kernel_rfl) (by kernel_rfl) (by kernel_rfl)
      (Eq.mpr (f70.eq t0 h R) k)
/- 71 (*trellis/paths.search).look -/
def f71.J1 (t27 : Value) (I1 : List Value → Hp → Prop) (hj : Hp) (μ1 : List Value → Hp → Nat) (h_3 : Hp) : Prop :=
  bnd (binE .add t27 (.int .i64 1)) fun t94_1 =>
  (I1 [t94_1] hj ∧ μ1 [t94_1] hj < μ1 [t27] h_3)
def f71.J2 (j11_1 : Value) (j10_1 : Value) (hj_2 : Hp) (t3 : Value) (j9_1 : Value) (t27 : Value) (I1 : List Value → Hp → Prop) (μ1 : List Value → Hp → Nat) (h_3 : Hp) (t0 : Value) (t8_1 : Value) : Prop :=
  bnd (bif isB j11_1 true then fldE 0 j10_1 else some undef) fun t59_1 =>
  bnd (bif isB j11_1 true then ldS hj_2 t59_1 else some undef) fun t60_1 =>
  bnd (bif isB j11_1 true then fldE 0 t3 else some undef) fun t61_1 =>
  bnd (bif isB j11_1 true then ldS hj_2 t61_1 else some undef) fun t62_1 =>
  bnd (bif isB j11_1 true then binE .add t62_1 (bif isB j11_1 true then j9_1 else undef) else some undef) fun t64_1 =>
  bnd (bif isB j11_1 true then binE .leq t60_1 t64_1 else some undef) fun t65_1 =>
  bnd ((asB j11_1).map fun t => bif t then t65_1 else (.bool false)) fun t66_1 =>
  condT t66_1 (
  (f71.J1 t27 I1 hj_2 μ1 h_3)) (
  bnd (nilE t0) fun t68_1 =>
  bnd (fldE 2 t68_1) fun t69_1 =>
  bnd (ldS hj_2 t69_1) fun t70_1 =>
  bnd (fldE 1 t8_1) fun t71_1 =>
  bnd (ldS hj_2 t71_1) fun t72_1 =>
  bnd (fldE 0 t3) fun t73_1 =>
  bnd (ldS hj_2 t73_1) fun t74_1 =>
  bnd (binE .add t74_1 j9_1) fun t76_1 =>
  bnd (fldE 1 t3) fun t77_1 =>
  bnd (ldS hj_2 t77_1) fun t78_1 =>
  bnd (fldE 0 t8_1) fun t79_1 =>
  bnd (ldS hj_2 t79_1) fun t80_1 =>
  bnd ((fillS [(0, 1), (1, 1), (2, 1), (3, 1)] #[(.int .i64 0), (.int .i64 0), (.int .i64 0), (.bool false)] [(0, t76_1), (1, t78_1), (2, t80_1)]).map .agg) fun t81_1 =>
  efS Tryd.prog (Go.Instr.mapUpdate 94 t70_1 t72_1 t81_1) hj_2 fun _ h_6 =>
  bnd (nilE t0) fun t83_1 =>
  bnd (fldE 3 t83_1) fun t84_1 =>
  bnd (ldS h_6 t84_1) fun t85_1 =>
  bnd (fldE 0 t3) fun t86_1 =>
  bnd (ldS h_6 t86_1) fun t87_1 =>
  bnd (binE .add t87_1 j9_1) fun t89_1 =>
  bnd (fldE 1 t8_1) fun t90_1 =>
  bnd (ldS h_6 t90_1) fun t91_1 =>
  bnd ((fillS [(0, 1), (1, 1)] #[(.int .i64 0), (.int .i64 0)] [(0, t89_1), (1, t91_1)]).map .agg) fun t92_1 =>
  CallsH Tryd.prog 69 #[t85_1, t92_1] h_6 fun t93_1 h_7 =>
  (f71.J1 t27 I1 h_7 μ1 h_3))
def f71.J3 (t0 : Value) (hj_1 : Hp) (t8_1 : Value) (t3 : Value) (j9_1 : Value) (t27 : Value) (I1 : List Value → Hp → Prop) (μ1 : List Value → Hp → Nat) (h_3 : Hp) : Prop :=
  (bnd (nilE t0) fun t49_1 =>
  bnd (fldE 2 t49_1) fun t50_1 =>
  bnd (ldS hj_1 t50_1) fun t51_1 =>
  bnd (fldE 1 t8_1) fun t52_1 =>
  bnd (ldS hj_1 t52_1) fun t53_1 =>
  rdS Tryd.prog (Go.Instr.lookup 94 t51_1 t53_1 true) hj_1 fun t54_1 =>
  bnd (extE 0 t54_1) fun t55_1 =>
  bnd (extE 1 t54_1) fun t56_1 =>
  nw hj_1 #[(.int .i64 0), (.int .i64 0), (.int .i64 0), (.bool false)] 93 ptr0 fun t10_1 h_8 =>
  bnd (stE 4 h_8 t10_1 t55_1) fun h_9 =>
  (f71.J2 t56_1 t10_1 h_9 t3 j9_1 t27 I1 μ1 h_3 t0 t8_1)) ∧
  (bnd (nilE t0) fun t49_2 =>
  bnd (fldE 2 t49_2) fun t50_2 =>
  bnd (ldS hj_1 t50_2) fun t51_2 =>
  bnd (fldE 1 t8_1) fun t52_2 =>
  bnd (ldS hj_1 t52_2) fun t53_2 =>
  nw hj_1 #[(.int .i64 0), (.int .i64 0), (.int .i64 0), (.bool false)] 93 ptr0 fun t10_2 h_10 =>
  rdS Tryd.prog (Go.Instr.lookup 94 t51_2 t53_2 true) h_10 fun t54_2 =>
  bnd (extE 0 t54_2) fun t55_2 =>
  bnd (extE 1 t54_2) fun t56_2 =>
  bnd (stE 4 h_10 t10_2 t55_2) fun h_11 =>
  (f71.J2 t56_2 t10_2 h_11 t3 j9_1 t27 I1 μ1 h_3 t0 t8_1))
/- slots [27] -/
  def f71.L1 (h_2 : Hp) (t26 : Value) (t20 : Value) (t0 : Value) (t3 : Value) (R : Value → Hp → Prop) : Prop :=
  ∃ (I1 : List Value → Hp → Prop) (μ1 : List Value → Hp → Nat), I1 [(.int .i64 0)] h_2 ∧
  ∀ t28 t29 t30 t8 t31 t32 t34 t35 t36 t37 t33 t9 t39 t40 t38 t42 t43 t44 t45 t46 t41 t4 t48 t49 t50 t51 t52 t53 t54 t47 t55 t56 t10 t11 t57 t58 t59 t60 t61 t62 t63 t64 t65 t66 t67 t68 t69 t70 t71 t72 t73 t74 t75 t76 t77 t78 t79 t80 t81 t82 t83 t84 t85 t86 t87 t88 t89 t90 t91 t92 t93 t94 t27 : Value, ∀ (h_3 : Hp), I1 [t27] h_3 →
  bnd (binE .lss t27 t26) fun t28_1 =>
  condT t28_1 (
  bnd (idxE 3 t20 t27) fun t29_1 =>
  bnd (ldA 3 h_3 t29_1) fun t30_1 =>
  nw h_3 #[(.int .i64 0), (.int .i64 0), (.int .i64 0)] 62 ptr0 fun t8_1 h_4 =>
  bnd (stE 3 h_4 t8_1 t30_1) fun h_5 =>
  bnd (fldE 2 t8_1) fun t31_1 =>
  bnd (ldS h_5 t31_1) fun t32_1 =>
  bnd (nilE t0) fun t35_1 =>
  bnd (fldE 1 t35_1) fun t36_1 =>
  bnd (ldS h_5 t36_1) fun t37_1 =>
  condT t37_1 (
  (f71.J3 t0 h_5 t8_1 t3 (.int .i64 1) t27 I1 μ1 h_3)) (
  bnd (binE .lss t32_1 (.int .i64 0)) fun t40_1 =>
  condT t40_1 (
  R (.int .i64 90) h_5) (
  bnd (fldE 0 t3) fun t43_1 =>
  bnd (ldS h_5 t43_1) fun t44_1 =>
  bnd (binE .sub (.int .i64 1099511627776) t44_1) fun t45_1 =>
  bnd (binE .gtr t32_1 t45_1) fun t46_1 =>
  condT t46_1 (
  R (.int .i64 91) h_5) (
  (f71.J3 t0 h_5 t8_1 t3 t32_1 t27 I1 μ1 h_3))))) (
  R (.int .i64 0) h_3)
def f71.T (t0 t1 : Value) (h : Hp) (R : Value → Hp → Prop) : Prop :=
  nw h (Value.cells t1) 134 ptr0 fun t3 h_1 =>
  bnd (nilE t0) fun t14 =>
  bnd (fldE 0 t14) fun t15 =>
  bnd (ldS h_1 t15) fun t16 =>
  bnd (fldE 1 t3) fun t17 =>
  bnd (ldS h_1 t17) fun t18 =>
  callV Tryd.prog t16 #[t18] h_1 fun t19 h_2 =>
  bnd (extE 0 t19) fun t20 =>
  bnd (extE 1 t19) fun t21 =>
  bnd (binE .neq t21 (.int .i64 0)) fun t23 =>
  condT t23 (
  R t21 h_2) (
  bnd (lenE t20) fun t26 =>
  (f71.L1 h_2 t26 t20 t0 t3 R))
theorem f71.eq (t0 t1 : Value) (h : Hp) (R : Value → Hp → Prop) : evC Tryd.prog (fun i => bif Nat.beq i 5 then [27] else []) (fun i => bif Nat.beq i 14 then [[0, 1, 2, 3, 4, 5, 6, 7, 8, 9, 10, 11, 12], [0, 1, 2, 3, 4, 5, 10, 6, 7, 8, 9, 11, 12]] else []) (Tryd.f71.body.getD .skip) (env0 [t0, t1]) h (bodyQ Tryd.prog Tryd.f71.results.toList R) = f71.T t0 t1 h R := by kernel_rfl
theorem f71.ok {t0 t1 : Value} {h : Hp} {R : Value → Hp → Prop} (k : f71.T t0 t1 h R) : CallsH Tryd.prog 71 #[t0, t1] h R :=
    calls_of_evC (args := [t0, t1]) (c := Tryd.f71.body.getD .skip) (fun i => bif Nat.beq i 5 then [27] else []) (fun i => bif Nat.beq i 14 then [[0, 1, 2, 3, 4, 5, 6, 7, 8, 9, 10, 11, 12], [0, 1, 2, 3, 4, 5, 10, 6, 7, 8, 9, 11, 12]] else []) follows_mixed Tryd.func71 (by kernel_rfl) (by kernel_rfl) (by kernel_rfl)
      (Eq.mpr (f71.eq t0 t1 h R) k)
/- 72 trellis/trellisref9.weigh -/
def f72.T (t0 t1 : Value) (h : Hp) (R : Value → Hp → Prop) : Prop :=
  nw h (Value.cells t0) 62 ptr0 fun t2 h_1 =>
  condT t1 (
  R (.int .i64 1) h_1) (
  bnd (fldE 2 t2) fun t6 =>
  bnd (ldS h_1 t6) fun t7 =>
  R t7 h_1)
theorem f72.eq (t0 t1 : Value) (h : Hp) (R : Value → Hp → Prop) : evC Tryd.prog (fun _ => []) (fun _ => []) (Tryd.f72.body.getD .skip) (env0 [t0, t1]) h (bodyQ Tryd.prog Tryd.f72.results.toList R) = f72.T t0 t1 h R := by kernel_rfl
theorem f72.ok {t0 t1 : Value} {h : Hp} {R : Value → Hp → Prop} (k : f72.T t0 t1 h R) : CallsH Tryd.prog 72 #[t0, t1] h R :=
    calls_of_evC (args := [t0, t1]) (c := Tryd.f72.body.getD .skip) (fun _ => []) (fun _ => []) follows_mixed Tryd.func72 (by kernel_rfl) (by kernel_rfl) (by kernel_rfl)
      (Eq.mpr (f72.eq t0 t1 h R) k)
/- 73 trellis/trellisref9.settled -/
/- slots [5] -/
  def f73.L1 (h : Hp) (t0 : Value) (t1 : Value) (R : Value → Hp → Prop) : Prop :=
  ∃ (I1 : List Value → Hp → Prop) (μ1 : List Value → Hp → Nat), I1 [(.int .i64 0)] h ∧
  ∀ t6 t7 t8 t9 t12 t13 t14 t15 t16 t17 t18 t4 t10 t11 t5 : Value, ∀ (h_1 : Hp), I1 [t5] h_1 →
  bnd (lenE t0) fun t8_1 =>
  bnd (binE .lss t5 t8_1) fun t9_1 =>
  condT t9_1 (
  bnd (idxE 2 t0 t5) fun t14_1 =>
  bnd (fldE 0 t14_1) fun t15_1 =>
  bnd (ldS h_1 t15_1) fun t16_1 =>
  bnd (binE .eql t16_1 t1) fun t18_1 =>
  condT t18_1 (
  R (.bool true) h_1) (
  bnd (binE .add t5 (.int .i64 1)) fun t11_1 =>
  (I1 [t11_1] h_1 ∧ μ1 [t11_1] h_1 < μ1 [t5] h_1))) (
  R (.bool false) h_1)
def f73.T (t0 t1 : Value) (h : Hp) (R : Value → Hp → Prop) : Prop :=
  (f73.L1 h t0 t1 R)
theorem f73.eq (t0 t1 : Value) (h : Hp) (R : Value → Hp → Prop) : evC Tryd.prog (fun i => bif Nat.beq i 2 then [5] else []) (fun _ => []) (Tryd.f73.body.getD .skip) (env0 [t0, t1]) h (bodyQ Tryd.prog Tryd.f73.results.toList R) = f73.T t0 t1 h R := by kernel_rfl
theorem f73.ok {t0 t1 : Value} {h : Hp} {R : Value → Hp → Prop} (k : f73.T t0 t1 h R) : CallsH Tryd.prog 73 #[t0, t1] h R :=
    calls_of_evC (args := [t0, t1]) (c := Tryd.f73.body.getD .skip) (fun i => bif Nat.beq i 2 then [5] else []) (fun _ => []) follows_mixed Tryd.func73 (by kernel_rfl) (by kernel_rfl) (by kernel_rfl)
      (Eq.mpr (f73.eq t0 t1 h R) k)
/- 74 trellis/trellisref9.sight -/
def f74.J1 (R : Value → Hp → Prop) (t0 : Value) (hj : Hp) : Prop :=
  R t0 hj
/- slots [7] -/
  def f74.L1 (h : Hp) (t0 : Value) (t1 : Value) (t2 : Value) (R : Value → Hp → Prop) : Prop :=
  ∃ (I1 : List Value → Hp → Prop) (μ1 : List Value → Hp → Nat), I1 [(.int .i64 0)] h ∧
  ∀ t8 t9 t10 t11 t14 t15 t16 t17 t18 t19 t20 t21 t22 t23 t24 t25 t26 t27 t28 t29 t30 t31 t32 t33 t6 t12 t13 t7 : Value, ∀ (h_1 : Hp), I1 [t7] h_1 →
  bnd (lenE t0) fun t10_1 =>
  bnd (binE .lss t7 t10_1) fun t11_1 =>
  condT t11_1 (
  bnd (idxE 2 t0 t7) fun t16_1 =>
  bnd (fldE 0 t16_1) fun t17_1 =>
  bnd (ldS h_1 t17_1) fun t18_1 =>
  bnd (binE .eql t18_1 t1) fun t20_1 =>
  condT t20_1 (
  bnd (idxE 2 t0 t7) fun t24_1 =>
  bnd (fldE 1 t24_1) fun t25_1 =>
  bnd (ldS h_1 t25_1) fun t26_1 =>
  bnd (binE .lss t2 t26_1) fun t27_1 =>
  condT t27_1 (
  bnd (idxE 2 t0 t7) fun t31_1 =>
  bnd (fldE 1 t31_1) fun t32_1 =>
  bnd (stE 1 h_1 t32_1 t2) fun h_2 =>
  (f74.J1 R t0 h_2)) (
  (f74.J1 R t0 h_1))) (
  bnd (binE .add t7 (.int .i64 1)) fun t13_1 =>
  (I1 [t13_1] h_1 ∧ μ1 [t13_1] h_1 < μ1 [t7] h_1))) (
  bnd ((fillS [(0, 1), (1, 1)] #[(.int .i64 0), (.int .i64 0)] [(0, t1), (1, t2)]).map .agg) fun t37 =>
  bnd (fillR 2 #[(.int .i64 0), (.int .i64 0)] [(0, t37)]) fun c =>
  nw h_1 c 105 (fun b => .slice (some ⟨b, 0, none⟩) 1 1) fun t38 h_3 =>
  efS Tryd.prog (Go.Builtin.append_ #[98, 98] 98 #[t0, t38]) h_3 fun t39 h_4 =>
  R t39 h_4)
def f74.T (t0 t1 t2 : Value) (h : Hp) (R : Value → Hp → Prop) : Prop :=
  (f74.L1 h t0 t1 t2 R)
theorem f74.eq (t0 t1 t2 : Value) (h : Hp) (R : Value → Hp → Prop) : evC Tryd.prog (fun i => bif Nat.beq i 2 then [7] else []) (fun _ => []) (Tryd.f74.body.getD .skip) (env0 [t0, t1, t2]) h (bodyQ Tryd.prog Tryd.f74.results.toList R) = f74.T t0 t1 t2 h R := by kernel_rfl
theorem f74.ok {t0 t1 t2 : Value} {h : Hp} {R : Value → Hp → Prop} (k : f74.T t0 t1 t2 h R) : CallsH Tryd.prog 74 #[t0, t1, t2] h R :=
    calls_of_evC (args := [t0, t1, t2]) (c := Tryd.f74.body.getD .skip) (fun i => bif Nat.beq i 2 then [7] else []) (fun _ => []) follows_mixed Tryd.func74 (by kernel_rfl) (by kernel_rfl) (by kernel_rfl)
      (Eq.mpr (f74.eq t0 t1 t2 h R) k)
/- 75 trellis/trellisref9.next -/
def f75.J1 (t4 : Value) (I1 : List Value → Hp → Prop) (j3 : Value) (hj : Hp) (μ1 : List Value → Hp → Nat) (t3 : Value) (h_1 : Hp) : Prop :=
  bnd (binE .add t4 (.int .i64 1)) fun t10_1 =>
  (I1 [j3, t10_1] hj ∧ μ1 [j3, t10_1] hj < μ1 [t3, t4] h_1)
/- slots [3, 4] -/
  def f75.L1 (h : Hp) (t0 : Value) (R : Value → Hp → Prop) : Prop :=
  ∃ (I1 : List Value → Hp → Prop) (μ1 : List Value → Hp → Nat), I1 [(.int .i64 0), (.int .i64 1)] h ∧
  ∀ t5 t6 t7 t8 t11 t12 t13 t14 t15 t16 t17 t18 t19 t20 t21 t22 t23 t24 t25 t26 t27 t28 t29 t30 t31 t32 t33 t34 t35 t36 t37 t38 t39 t40 t41 t42 t43 t44 t45 t46 t47 t48 t3 t9 t10 t4 : Value, ∀ (h_1 : Hp), I1 [t3, t4] h_1 →
  bnd (lenE t0) fun t7_1 =>
  bnd (binE .lss t4 t7_1) fun t8_1 =>
  condT t8_1 (
  bnd (idxE 2 t0 t4) fun t13_1 =>
  bnd (fldE 1 t13_1) fun t14_1 =>
  bnd (ldS h_1 t14_1) fun t15_1 =>
  bnd (idxE 2 t0 t3) fun t18_1 =>
  bnd (fldE 1 t18_1) fun t19_1 =>
  bnd (ldS h_1 t19_1) fun t20_1 =>
  bnd (binE .lss t15_1 t20_1) fun t21_1 =>
  bnd (bif isB t21_1 false then idxE 2 (bif isB t21_1 false then t0 else undef) (bif isB t21_1 false then t4 else undef) else some undef) fun t25_1 =>
  bnd (bif isB t21_1 false then fldE 1 t25_1 else some undef) fun t26_1 =>
  bnd (bif isB t21_1 false then ldS h_1 t26_1 else some undef) fun t27_1 =>
  bnd (bif isB t21_1 false then idxE 2 (bif isB t21_1 false then t0 else undef) (bif isB t21_1 false then t3 else undef) else some undef) fun t30_1 =>
  bnd (bif isB t21_1 false then fldE 1 t30_1 else some undef) fun t31_1 =>
  bnd (bif isB t21_1 false then ldS h_1 t31_1 else some undef) fun t32_1 =>
  bnd (bif isB t21_1 false then binE .eql t27_1 t32_1 else some undef) fun t33_1 =>
  bnd (bif isB (bif isB t21_1 false then t33_1 else undef) true then idxE 2 (bif isB (bif isB t21_1 false then t33_1 else undef) true then t0 else undef) (bif isB (bif isB t21_1 false then t33_1 else undef) true then t4 else undef) else some undef) fun t37_1 =>
  bnd (bif isB (bif isB t21_1 false then t33_1 else undef) true then fldE 0 t37_1 else some undef) fun t38_1 =>
  bnd (bif isB (bif isB t21_1 false then t33_1 else undef) true then ldS h_1 t38_1 else some undef) fun t39_1 =>
  bnd (bif isB (bif isB t21_1 false then t33_1 else undef) true then idxE 2 (bif isB (bif isB t21_1 false then t33_1 else undef) true then t0 else undef) (bif isB (bif isB t21_1 false then t33_1 else undef) true then t3 else undef) else some undef) fun t42_1 =>
  bnd (bif isB (bif isB t21_1 false then t33_1 else undef) true then fldE 0 t42_1 else some undef) fun t43_1 =>
  bnd (bif isB (bif isB t21_1 false then t33_1 else undef) true then ldS h_1 t43_1 else some undef) fun t44_1 =>
  bnd (bif isB (bif isB t21_1 false then t33_1 else undef) true then binE .lss t39_1 t44_1 else some undef) fun t45_1 =>
  bnd (bif isB t21_1 false then ((asB (bif isB t21_1 false then t33_1 else undef)).map fun t => bif t then t45_1 else (.bool false)) else some undef) fun t46_1 =>
  bnd ((asB t21_1).map fun t => bif t then (.bool true) else t46_1) fun t47_1 =>
  condT t47_1 (
  (f75.J1 t4 I1 t4 h_1 μ1 t3 h_1)) (
  (f75.J1 t4 I1 t3 h_1 μ1 t3 h_1))) (
  R t3 h_1)
def f75.T (t0 : Value) (h : Hp) (R : Value → Hp → Prop) : Prop :=
  (f75.L1 h t0 R)
theorem f75.eq (t0 : Value) (h : Hp) (R : Value → Hp → Prop) : evC Tryd.prog (fun i => bif Nat.beq i 3 then [3, 4] else []) (fun _ => []) (Tryd.f75.body.getD .skip) (env0 [t0]) h (bodyQ Tryd.prog Tryd.f75.results.toList R) = f75.T t0 h R := by kernel_rfl
theorem f75.ok {t0 : Value} {h : Hp} {R : Value → Hp → Prop} (k : f75.T t0 h R) : CallsH Tryd.prog 75 #[t0] h R :=
    calls_of_evC (args := [t0]) (c := Tryd.f75.body.getD .skip) (fun i => bif Nat.beq i 3 then [3, 4] else []) (fun _ => []) follows_mixed Tryd.func75 (by kernel_rfl) (by kernel_rfl) (by kernel_rfl)
      (Eq.mpr (f75.eq t0 h R) k)
/- 80 trellis/trellisref9.each -/
def f80.J1 (t4 : Value) (I1 : List Value → Hp → Prop) (j3 : Value) (hj : Hp) (μ1 : List Value → Hp → Nat) (t3 : Value) (h_1 : Hp) : Prop :=
  bnd (binE .add t4 (.int .i64 1)) fun t12_1 =>
  (I1 [j3, t12_1] hj ∧ μ1 [j3, t12_1] hj < μ1 [t3, t4] h_1)
/- slots [6] -/
  def f80.L3 (t54_1 : Value) (h_4 : Hp) (t5_1 : Value) (t51_1 : Value) (t4 : Value) (I1 : List Value → Hp → Prop) (μ1 : List Value → Hp → Nat) (t3 : Value) (h_1 : Hp) : Prop :=
  ∃ (I3 : List Value → Hp → Prop) (μ3 : List Value → Hp → Nat), I3 [t54_1] h_4 ∧
  ∀ t55_1 t56_1 t57_1 t60_1 t61_1 t62_1 t63_1 t64_1 t65_1 t66_1 t67_1 t68_1 t69_1 t70_1 t71_1 t72_1 t73_1 t74_1 t75_1 t58_1 t59_1 t6_1 : Value, ∀ (h_5 : Hp), I3 [t6_1] h_5 →
  bnd (binE .gtr t6_1 t5_1) fun t57_2 =>
  condT t57_2 (
  bnd (binE .sub t6_1 (.int .i64 1)) fun t64_2 =>
  bnd (binE .sub t6_1 (.int .i64 1)) fun t67_2 =>
  bnd (idxE 1 t51_1 t67_2) fun t68_2 =>
  bnd (ldS h_5 t68_2) fun t69_2 =>
  bnd (idxE 1 t51_1 t6_1) fun t72_2 =>
  bnd (ldS h_5 t72_2) fun t73_2 =>
  bnd (idxE 1 t51_1 t6_1) fun t74_2 =>
  bnd (stE 1 h_5 t74_2 t69_2) fun h_6 =>
  bnd (idxE 1 t51_1 t64_2) fun t75_2 =>
  bnd (stE 1 h_6 t75_2 t73_2) fun h_7 =>
  bnd (binE .sub t6_1 (.int .i64 1)) fun t59_2 =>
  (I3 [t59_2] h_7 ∧ μ3 [t59_2] h_7 < μ3 [t6_1] h_5)) (
  (f80.J1 t4 I1 t51_1 h_5 μ1 t3 h_1))
/- slots [5] -/
  def f80.L2 (h_1 : Hp) (t3 : Value) (t0 : Value) (t4 : Value) (I1 : List Value → Hp → Prop) (μ1 : List Value → Hp → Nat) : Prop :=
  ∃ (I2 : List Value → Hp → Prop) (μ2 : List Value → Hp → Nat), I2 [(.int .i64 0)] h_1 ∧
  ∀ t13_1 t14_1 t15_1 t16_1 t17_1 t18_1 t19_1 t20_1 t21_1 t22_1 t23_1 t24_1 t25_1 t26_1 t27_1 t28_1 t29_1 t5_1 : Value, ∀ (h_2 : Hp), I2 [t5_1] h_2 →
  bnd (lenE t3) fun t15_2 =>
  bnd (binE .lss t5_1 t15_2) fun t16_2 =>
  bnd (bif isB t16_2 true then idxE 1 (bif isB t16_2 true then t3 else undef) (bif isB t16_2 true then t5_1 else undef) else some undef) fun t20_2 =>
  bnd (bif isB t16_2 true then ldS h_2 t20_2 else some undef) fun t21_2 =>
  bnd (bif isB t16_2 true then idxE 1 (bif isB t16_2 true then t0 else undef) (bif isB t16_2 true then t4 else undef) else some undef) fun t24_2 =>
  bnd (bif isB t16_2 true then ldS h_2 t24_2 else some undef) fun t25_2 =>
  bnd (bif isB t16_2 true then binE .lss t21_2 t25_2 else some undef) fun t26_2 =>
  bnd ((asB t16_2).map fun t => bif t then t26_2 else (.bool false)) fun t27_2 =>
  condT t27_2 (
  bnd (binE .add t5_1 (.int .i64 1)) fun t29_2 =>
  (I2 [t29_2] h_2 ∧ μ2 [t29_2] h_2 < μ2 [t5_1] h_2)) (
  bnd (lenE t3) fun t32_1 =>
  bnd (binE .lss t5_1 t32_1) fun t33_1 =>
  bnd (bif isB t33_1 true then idxE 1 (bif isB t33_1 true then t3 else undef) (bif isB t33_1 true then t5_1 else undef) else some undef) fun t37_1 =>
  bnd (bif isB t33_1 true then ldS h_2 t37_1 else some undef) fun t38_1 =>
  bnd (bif isB t33_1 true then idxE 1 (bif isB t33_1 true then t0 else undef) (bif isB t33_1 true then t4 else undef) else some undef) fun t41_1 =>
  bnd (bif isB t33_1 true then ldS h_2 t41_1 else some undef) fun t42_1 =>
  bnd (bif isB t33_1 true then binE .eql t38_1 t42_1 else some undef) fun t43_1 =>
  bnd ((asB t33_1).map fun t => bif t then t43_1 else (.bool false)) fun t44_1 =>
  condT t44_1 (
  (f80.J1 t4 I1 t3 h_2 μ1 t3 h_1)) (
  bnd (idxE 1 t0 t4) fun t48_1 =>
  bnd (ldS h_2 t48_1) fun t49_1 =>
  bnd (fillR 1 #[(.int .i64 0)] [(0, t49_1)]) fun c =>
  nw h_2 c 2 (fun b => .slice (some ⟨b, 0, none⟩) 1 1) fun t50_1 h_3 =>
  efS Tryd.prog (Go.Builtin.append_ #[28, 28] 28 #[t3, t50_1]) h_3 fun t51_1 h_4 =>
  bnd (lenE t51_1) fun t53_1 =>
  bnd (binE .sub t53_1 (.int .i64 1)) fun t54_1 =>
  (f80.L3 t54_1 h_4 t5_1 t51_1 t4 I1 μ1 t3 h_1)))
/- slots [3, 4] -/
  def f80.L1 (h : Hp) (t0 : Value) (R : Value → Hp → Prop) : Prop :=
  ∃ (I1 : List Value → Hp → Prop) (μ1 : List Value → Hp → Nat), I1 [(.slice none 0 0), (.int .i64 0)] h ∧
  ∀ t7 t8 t9 t10 t13 t14 t15 t16 t17 t18 t19 t20 t21 t22 t23 t24 t25 t26 t27 t28 t29 t5 t30 t31 t32 t33 t34 t35 t36 t37 t38 t39 t40 t41 t42 t43 t44 t45 t46 t47 t48 t49 t50 t51 t3 t52 t53 t54 t55 t56 t57 t60 t61 t62 t63 t64 t65 t66 t67 t68 t69 t70 t71 t72 t73 t74 t75 t58 t59 t6 t11 t12 t4 : Value, ∀ (h_1 : Hp), I1 [t3, t4] h_1 →
  bnd (lenE t0) fun t9_1 =>
  bnd (binE .lss t4 t9_1) fun t10_1 =>
  condT t10_1 (
  (f80.L2 h_1 t3 t0 t4 I1 μ1)) (
  R t3 h_1)
def f80.T (t0 : Value) (h : Hp) (R : Value → Hp → Prop) : Prop :=
  (f80.L1 h t0 R)
theorem f80.eq (t0 : Value) (h : Hp) (R : Value → Hp → Prop) : evC Tryd.prog (fun i => bif Nat.beq i 3 then [3, 4] else bif Nat.beq i 6 then [5] else bif Nat.beq i 11 then [6] else []) (fun _ => []) (Tryd.f80.body.getD .skip) (env0 [t0]) h (bodyQ Tryd.prog Tryd.f80.results.toList R) = f80.T t0 h R := by kernel_rfl
theorem f80.ok {t0 : Value} {h : Hp} {R : Value → Hp → Prop} (k : f80.T t0 h R) : CallsH Tryd.prog 80 #[t0] h R :=
    calls_of_evC (args := [t0]) (c := Tryd.f80.body.getD .skip) (fun i => bif Nat.beq i 3 then [3, 4] else bif Nat.beq i 6 then [5] else bif Nat.beq i 11 then [6] else []) (fun _ => []) follows_mixed Tryd.func80 (by kernel_rfl) (by kernel_rfl) (by kernel_rfl)
      (Eq.mpr (f80.eq t0 h R) k)
/- 81 (*trellis/paths.Heap[trellis/paths.offer]).ahead -/
def f81.J1 (t0 : Value) (hj : Hp) (j7 : Value) (j8 : Value) (R : Value → Hp → Prop) : Prop :=
  bnd (nilE t0) fun t24 =>
  bnd (fldE 0 t24) fun t25 =>
  bnd (ldS hj t25) fun t26 =>
  bnd (fldE 0 j7) fun t27 =>
  bnd (ldA 2 hj t27) fun t28 =>
  bnd (fldE 0 j8) fun t29 =>
  bnd (ldA 2 hj t29) fun t30 =>
  callV Tryd.prog t26 #[t28, t30] hj fun t31 h_1 =>
  condT t31 (
  R (.bool true) h_1) (
  bnd (fldE 2 j7) fun t32 =>
  bnd (ldS h_1 t32) fun t33 =>
  bnd (fldE 2 j8) fun t34 =>
  bnd (ldS h_1 t34) fun t35 =>
  bnd (binE .lss t33 t35) fun t36 =>
  bnd (bif isB t36 true then nilE (bif isB t36 true then t0 else undef) else some undef) fun t39 =>
  bnd (bif isB t36 true then fldE 0 t39 else some undef) fun t40 =>
  bnd (bif isB t36 true then ldS h_1 t40 else some undef) fun t41 =>
  bnd (bif isB t36 true then fldE 0 j8 else some undef) fun t42 =>
  bnd (bif isB t36 true then ldA 2 h_1 t42 else some undef) fun t43 =>
  bnd (bif isB t36 true then fldE 0 j7 else some undef) fun t44 =>
  bnd (bif isB t36 true then ldA 2 h_1 t44 else some undef) fun t45 =>
  guardT (isB t36 true) (fun K => callV Tryd.prog t41 #[t43, t45] h_1 K) h_1 fun t46 h_2 =>
  bnd (bif isB t36 true then unE .not t46 else some undef) fun t47 =>
  bnd ((asB t36).map fun t => bif t then t47 else (.bool false)) fun t48 =>
  R t48 h_2)
def f81.T (t0 t1 t2 : Value) (h : Hp) (R : Value → Hp → Prop) : Prop :=
  (bnd (nilE t0) fun t10 =>
  bnd (fldE 1 t10) fun t11 =>
  bnd (ldS h t11) fun t12 =>
  bnd (idxE 3 t12 t1) fun t14 =>
  bnd (ldA 3 h t14) fun t15 =>
  bnd (nilE t0) fun t17 =>
  bnd (fldE 1 t17) fun t18 =>
  bnd (ldS h t18) fun t19 =>
  bnd (idxE 3 t19 t2) fun t21 =>
  bnd (ldA 3 h t21) fun t22 =>
  nw h #[(.int .i64 0), (.int .i64 0), (.int .i64 0)] 154 ptr0 fun t7 h_3 =>
  nw h_3 #[(.int .i64 0), (.int .i64 0), (.int .i64 0)] 154 ptr0 fun t8 h_4 =>
  bnd (stE 3 h_4 t7 t15) fun h_5 =>
  bnd (stE 3 h_5 t8 t22) fun h_6 =>
  (f81.J1 t0 h_6 t7 t8 R)) ∧
  (bnd (nilE t0) fun t10_1 =>
  bnd (fldE 1 t10_1) fun t11_1 =>
  bnd (ldS h t11_1) fun t12_1 =>
  bnd (idxE 3 t12_1 t1) fun t14_1 =>
  bnd (ldA 3 h t14_1) fun t15_1 =>
  bnd (nilE t0) fun t17_1 =>
  bnd (fldE 1 t17_1) fun t18_1 =>
  bnd (ldS h t18_1) fun t19_1 =>
  bnd (idxE 3 t19_1 t2) fun t21_1 =>
  bnd (ldA 3 h t21_1) fun t22_1 =>
  nw h #[(.int .i64 0), (.int .i64 0), (.int .i64 0)] 154 ptr0 fun t8_1 h_7 =>
  nw h_7 #[(.int .i64 0), (.int .i64 0), (.int .i64 0)] 154 ptr0 fun t7_1 h_8 =>
  bnd (stE 3 h_8 t7_1 t15_1) fun h_9 =>
  bnd (stE 3 h_9 t8_1 t22_1) fun h_10 =>
  (f81.J1 t0 h_10 t7_1 t8_1 R)) ∧
  (bnd (nilE t0) fun t10_2 =>
  bnd (fldE 1 t10_2) fun t11_2 =>
  bnd (ldS h t11_2) fun t12_2 =>
  bnd (idxE 3 t12_2 t1) fun t14_2 =>
  bnd (ldA 3 h t14_2) fun t15_2 =>
  bnd (nilE t0) fun t17_2 =>
  bnd (fldE 1 t17_2) fun t18_2 =>
  bnd (ldS h t18_2) fun t19_2 =>
  bnd (idxE 3 t19_2 t2) fun t21_2 =>
  nw h #[(.int .i64 0), (.int .i64 0), (.int .i64 0)] 154 ptr0 fun t7_2 h_11 =>
  nw h_11 #[(.int .i64 0), (.int .i64 0), (.int .i64 0)] 154 ptr0 fun t8_2 h_12 =>
  bnd (stE 3 h_12 t7_2 t15_2) fun h_13 =>
  bnd (ldA 3 h_13 t21_2) fun t22_2 =>
  bnd (stE 3 h_13 t8_2 t22_2) fun h_14 =>
  (f81.J1 t0 h_14 t7_2 t8_2 R)) ∧
  (bnd (nilE t0) fun t10_3 =>
  bnd (fldE 1 t10_3) fun t11_3 =>
  bnd (ldS h t11_3) fun t12_3 =>
  bnd (idxE 3 t12_3 t1) fun t14_3 =>
  bnd (ldA 3 h t14_3) fun t15_3 =>
  bnd (nilE t0) fun t17_3 =>
  bnd (fldE 1 t17_3) fun t18_3 =>
  bnd (ldS h t18_3) fun t19_3 =>
  bnd (idxE 3 t19_3 t2) fun t21_3 =>
  nw h #[(.int .i64 0), (.int .i64 0), (.int .i64 0)] 154 ptr0 fun t8_3 h_15 =>
  nw h_15 #[(.int .i64 0), (.int .i64 0), (.int .i64 0)] 154 ptr0 fun t7_3 h_16 =>
  bnd (stE 3 h_16 t7_3 t15_3) fun h_17 =>
  bnd (ldA 3 h_17 t21_3) fun t22_3 =>
  bnd (stE 3 h_17 t8_3 t22_3) fun h_18 =>
  (f81.J1 t0 h_18 t7_3 t8_3 R)) ∧
  (bnd (nilE t0) fun t10_4 =>
  bnd (fldE 1 t10_4) fun t11_4 =>
  bnd (ldS h t11_4) fun t12_4 =>
  bnd (idxE 3 t12_4 t1) fun t14_4 =>
  bnd (ldA 3 h t14_4) fun t15_4 =>
  bnd (nilE t0) fun t17_4 =>
  bnd (fldE 1 t17_4) fun t18_4 =>
  nw h #[(.int .i64 0), (.int .i64 0), (.int .i64 0)] 154 ptr0 fun t7_4 h_19 =>
  nw h_19 #[(.int .i64 0), (.int .i64 0), (.int .i64 0)] 154 ptr0 fun t8_4 h_20 =>
  bnd (stE 3 h_20 t7_4 t15_4) fun h_21 =>
  bnd (ldS h_21 t18_4) fun t19_4 =>
  bnd (idxE 3 t19_4 t2) fun t21_4 =>
  bnd (ldA 3 h_21 t21_4) fun t22_4 =>
  bnd (stE 3 h_21 t8_4 t22_4) fun h_22 =>
  (f81.J1 t0 h_22 t7_4 t8_4 R)) ∧
  (bnd (nilE t0) fun t10_5 =>
  bnd (fldE 1 t10_5) fun t11_5 =>
  bnd (ldS h t11_5) fun t12_5 =>
  bnd (idxE 3 t12_5 t1) fun t14_5 =>
  bnd (ldA 3 h t14_5) fun t15_5 =>
  bnd (nilE t0) fun t17_5 =>
  bnd (fldE 1 t17_5) fun t18_5 =>
  nw h #[(.int .i64 0), (.int .i64 0), (.int .i64 0)] 154 ptr0 fun t8_5 h_23 =>
  nw h_23 #[(.int .i64 0), (.int .i64 0), (.int .i64 0)] 154 ptr0 fun t7_5 h_24 =>
  bnd (stE 3 h_24 t7_5 t15_5) fun h_25 =>
  bnd (ldS h_25 t18_5) fun t19_5 =>
  bnd (idxE 3 t19_5 t2) fun t21_5 =>
  bnd (ldA 3 h_25 t21_5) fun t22_5 =>
  bnd (stE 3 h_25 t8_5 t22_5) fun h_26 =>
  (f81.J1 t0 h_26 t7_5 t8_5 R))
theorem f81.eq (t0 t1 t2 : Value) (h : Hp) (R : Value → Hp → Prop) : evC Tryd.prog (fun _ => []) (fun i => bif Nat.beq i 1 then [[0, 1, 2, 3, 4, 5, 6, 7, 8, 9, 10, 11, 12, 13, 14, 15, 16, 17], [0, 1, 2, 3, 4, 5, 6, 7, 8, 9, 10, 11, 12, 13, 15, 14, 16, 17], [0, 1, 2, 3, 4, 5, 6, 7, 8, 9, 10, 11, 12, 14, 15, 16, 13, 17], [0, 1, 2, 3, 4, 5, 6, 7, 8, 9, 10, 11, 12, 15, 14, 16, 13, 17], [0, 1, 2, 3, 4, 5, 6, 7, 8, 9, 11, 14, 15, 16, 10, 12, 13, 17], [0, 1, 2, 3, 4, 5, 6, 7, 8, 9, 11, 15, 14, 16, 10, 12, 13, 17]] else []) (Tryd.f81.body.getD .skip) (env0 [t0, t1, t2]) h (bodyQ Tryd.prog Tryd.f81.results.toList R) = f81.T t0 t1 t2 h R := by kernel_rfl
theorem f81.ok {t0 t1 t2 : Value} {h : Hp} {R : Value → Hp → Prop} (k : f81.T t0 t1 t2 h R) : CallsH Tryd.prog 81 #[t0, t1, t2] h R :=
    calls_of_evC (args := [t0, t1, t2]) (c := Tryd.f81.body.getD .skip) (fun _ => []) (fun i => bif Nat.beq i 1 then [[0, 1, 2, 3, 4, 5, 6, 7, 8, 9, 10, 11, 12, 13, 14, 15, 16, 17], [0, 1, 2, 3, 4, 5, 6, 7, 8, 9, 10, 11, 12, 13, 15, 14, 16, 17], [0, 1, 2, 3, 4, 5, 6, 7, 8, 9, 10, 11, 12, 14, 15, 16, 13, 17], [0, 1, 2, 3, 4, 5, 6, 7, 8, 9, 10, 11, 12, 15, 14, 16, 13, 17], [0, 1, 2, 3, 4, 5, 6, 7, 8, 9, 11, 14, 15, 16, 10, 12, 13, 17], [0, 1, 2, 3, 4, 5, 6, 7, 8, 9, 11, 15, 14, 16, 10, 12, 13, 17]] else []) follows_mixed Tryd.func81 (by kernel_rfl) (by kernel_rfl) (by kernel_rfl)
      (Eq.mpr (f81.eq t0 t1 t2 h R) k)
/- 82 (*trellis/paths.Heap[trellis/paths.offer]).swap -/
def f82.T (t0 t1 t2 : Value) (h : Hp) (R : Value → Hp → Prop) : Prop :=
  bnd (nilE t0) fun t7 =>
  bnd (fldE 1 t7) fun t8 =>
  bnd (ldS h t8) fun t9 =>
  bnd (nilE t0) fun t12 =>
  bnd (fldE 1 t12) fun t13 =>
  bnd (ldS h t13) fun t14 =>
  bnd (nilE t0) fun t17 =>
  bnd (fldE 1 t17) fun t18 =>
  bnd (ldS h t18) fun t19 =>
  bnd (idxE 3 t19 t2) fun t21 =>
  bnd (ldA 3 h t21) fun t22 =>
  bnd (nilE t0) fun t24 =>
  bnd (fldE 1 t24) fun t25 =>
  bnd (ldS h t25) fun t26 =>
  bnd (idxE 3 t26 t1) fun t28 =>
  bnd (ldA 3 h t28) fun t29 =>
  bnd (idxE 3 t9 t1) fun t30 =>
  bnd (stE 3 h t30 t22) fun h_1 =>
  bnd (idxE 3 t14 t2) fun t31 =>
  bnd (stE 3 h_1 t31 t29) fun h_2 =>
  R (.tuple #[]) h_2
theorem f82.eq (t0 t1 t2 : Value) (h : Hp) (R : Value → Hp → Prop) : evC Tryd.prog (fun _ => []) (fun _ => []) (Tryd.f82.body.getD .skip) (env0 [t0, t1, t2]) h (bodyQ Tryd.prog Tryd.f82.results.toList R) = f82.T t0 t1 t2 h R := by kernel_rfl
theorem f82.ok {t0 t1 t2 : Value} {h : Hp} {R : Value → Hp → Prop} (k : f82.T t0 t1 t2 h R) : CallsH Tryd.prog 82 #[t0, t1, t2] h R :=
    calls_of_evC (args := [t0, t1, t2]) (c := Tryd.f82.body.getD .skip) (fun _ => []) (fun _ => []) follows_mixed Tryd.func82 (by kernel_rfl) (by kernel_rfl) (by kernel_rfl)
      (Eq.mpr (f82.eq t0 t1 t2 h R) k)
/- 83 (*trellis/paths.Heap[trellis/paths.offer]).Len -/
def f83.T (t0 : Value) (h : Hp) (R : Value → Hp → Prop) : Prop :=
  bnd (nilBin .p .eql t0 (.pointer none)) fun t4 =>
  condT t4 (
  R (.int .i64 0) h) (
  bnd (nilE t0) fun t6 =>
  bnd (fldE 1 t6) fun t7 =>
  bnd (ldS h t7) fun t8 =>
  bnd (lenE t8) fun t9 =>
  R t9 h)
theorem f83.eq (t0 : Value) (h : Hp) (R : Value → Hp → Prop) : evC Tryd.prog (fun _ => []) (fun _ => []) (Tryd.f83.body.getD .skip) (env0 [t0]) h (bodyQ Tryd.prog Tryd.f83.results.toList R) = f83.T t0 h R := by kernel_rfl
theorem f83.ok {t0 : Value} {h : Hp} {R : Value → Hp → Prop} (k : f83.T t0 h R) : CallsH Tryd.prog 83 #[t0] h R :=
    calls_of_evC (args := [t0]) (c := Tryd.f83.body.getD .skip) (fun _ => []) (fun _ => []) follows_mixed Tryd.func83 (by kernel_rfl) (by kernel_rfl) (by kernel_rfl)
      (Eq.mpr (f83.eq t0 h R) k)
end Go.Proofs.YtkiakofohkecaaaDoor
