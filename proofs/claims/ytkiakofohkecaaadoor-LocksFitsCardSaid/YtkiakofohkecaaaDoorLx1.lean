/- Each Go function as a formula over the heap, printed by a program of this claim, and that a call does what the formula says. No condition. -/
import Derived.Test.YtkiakofohkecaaaDoorLx0
set_option linter.unusedVariables false
set_option maxRecDepth 100000
namespace Go.Proofs.YtkiakofohkecaaaDoor
open Go Go.Fw
/- 3 trellis/trellislaw8.LocksFits -/
/- slots [6] -/
  def f3.L2 (h_1 : Hp) (t5 : Value) (R : Value → Hp → Prop) (I1 : List Value → Hp → Prop) (μ1 : List Value → Hp → Nat) : Prop :=
  ∃ (I2 : List Value → Hp → Prop) (μ2 : List Value → Hp → Nat), I2 [(.int .i64 (-1))] h_1 ∧
  ∀ t11_1 t12_1 t15_1 t16_1 t17_1 t18_1 t19_1 t20_1 t21_1 t22_1 t23_1 t24_1 t25_1 t26_1 t27_1 t28_1 t29_1 t30_1 t4_1 t13_1 t14_1 t6_1 : Value, ∀ (h_2 : Hp), I2 [t6_1] h_2 →
  bnd (binE .lss t6_1 (.int .i64 7)) fun t12_2 =>
  condT t12_2 (
  CallsH Tryd.prog 14 #[t5, t6_1] h_2 fun t17_2 h_3 =>
  CallsH Tryd.prog 15 #[t5, t6_1] h_3 fun t20_2 h_4 =>
  bnd (binB .neq t17_2 t20_2) fun t21_2 =>
  guardT (isB t21_2 false) (fun K => CallsH Tryd.prog 16 #[(bif isB t21_2 false then t5 else undef), (bif isB t21_2 false then t6_1 else undef)] h_4 K) h_4 fun t25_2 h_5 =>
  guardT (isB t21_2 false) (fun K => CallsH Tryd.prog 17 #[(bif isB t21_2 false then t5 else undef), (bif isB t21_2 false then t6_1 else undef)] h_5 K) h_5 fun t28_2 h_6 =>
  bnd (bif isB t21_2 false then binE .neq t25_2 t28_2 else some undef) fun t29_2 =>
  bnd ((asB t21_2).map fun t => bif t then (.bool true) else t29_2) fun t30_2 =>
  condT t30_2 (
  R (.bool false) h_6) (
  bnd (binE .add t6_1 (.int .i64 1)) fun t14_2 =>
  (I2 [t14_2] h_6 ∧ μ2 [t14_2] h_6 < μ2 [t6_1] h_2))) (
  bnd (binE .add t5 (.int .i64 1)) fun t10_1 =>
  (I1 [t10_1] h_2 ∧ μ1 [t10_1] h_2 < μ1 [t5] h_1))
/- slots [5] -/
  def f3.L1 (h : Hp) (R : Value → Hp → Prop) (t0 : Value) (t1 : Value) : Prop :=
  ∃ (I1 : List Value → Hp → Prop) (μ1 : List Value → Hp → Nat), I1 [(.int .i64 (-1))] h ∧
  ∀ t7 t8 t11 t12 t15 t16 t17 t18 t19 t20 t21 t22 t23 t24 t25 t26 t27 t28 t29 t30 t4 t13 t14 t6 t9 t10 t5 : Value, ∀ (h_1 : Hp), I1 [t5] h_1 →
  bnd (binE .lss t5 (.int .i64 7)) fun t8_1 =>
  condT t8_1 (
  (f3.L2 h_1 t5 R I1 μ1)) (
  CallsH Tryd.prog 14 #[t0, t1] h_1 fun t33 h_7 =>
  CallsH Tryd.prog 15 #[t0, t1] h_7 fun t36 h_8 =>
  bnd (binB .eql t33 t36) fun t37 =>
  guardT (isB t37 true) (fun K => CallsH Tryd.prog 16 #[(bif isB t37 true then t0 else undef), (bif isB t37 true then t1 else undef)] h_8 K) h_8 fun t41 h_9 =>
  guardT (isB t37 true) (fun K => CallsH Tryd.prog 17 #[(bif isB t37 true then t0 else undef), (bif isB t37 true then t1 else undef)] h_9 K) h_9 fun t44 h_10 =>
  bnd (bif isB t37 true then binE .eql t41 t44 else some undef) fun t45 =>
  bnd ((asB t37).map fun t => bif t then t45 else (.bool false)) fun t46 =>
  R t46 h_10)
def f3.T (t0 t1 : Value) (h : Hp) (R : Value → Hp → Prop) : Prop :=
  (f3.L1 h R t0 t1)
theorem f3.eq (t0 t1 : Value) (h : Hp) (R : Value → Hp → Prop) : evC Tryd.prog (fun i => bif Nat.beq i 2 then [5] else bif Nat.beq i 5 then [6] else []) (fun _ => []) (Tryd.f3.body.getD .skip) (env0 [t0, t1]) h (bodyQ Tryd.prog Tryd.f3.results.toList R) = f3.T t0 t1 h R := by kernel_rfl
theorem f3.ok {t0 t1 : Value} {h : Hp} {R : Value → Hp → Prop} (k : f3.T t0 t1 h R) : CallsH Tryd.prog 3 #[t0, t1] h R :=
    calls_of_evC (args := [t0, t1]) (c := Tryd.f3.body.getD .skip) (fun i => bif Nat.beq i 2 then [5] else bif Nat.beq i 5 then [6] else []) (fun _ => []) follows_mixed Tryd.func3 (by kernel_rfl) (by kernel_rfl) (by kernel_rfl)
      (Eq.mpr (f3.eq t0 t1 h R) k)
/- 14 trellis/locks.Fits -/
def f14.T (t0 t1 : Value) (h : Hp) (R : Value → Hp → Prop) : Prop :=
  CallsH Tryd.prog 45 #[t0] h fun t6 h_1 =>
  guardT (isB t6 true) (fun K => CallsH Tryd.prog 45 #[(bif isB t6 true then t1 else undef)] h_1 K) h_1 fun t9 h_2 =>
  bnd ((asB t6).map fun t => bif t then t9 else (.bool false)) fun t10 =>
  bnd (bif isB t10 true then idxA 6 6 (.pointer (some ⟨0, 0, none⟩)) (bif isB t10 true then t0 else undef) else some undef) fun t14 =>
  bnd (bif isB t10 true then idxA 6 1 t14 (bif isB t10 true then t1 else undef) else some undef) fun t15 =>
  bnd (bif isB t10 true then ldS h_2 t15 else some undef) fun t16 =>
  bnd (bif isB t10 true then binE .eql t16 (.int .i64 1) else some undef) fun t17 =>
  bnd ((asB t10).map fun t => bif t then t17 else (.bool false)) fun t18 =>
  R t18 h_2
theorem f14.eq (t0 t1 : Value) (h : Hp) (R : Value → Hp → Prop) : evC Tryd.prog (fun _ => []) (fun _ => []) (Tryd.f14.body.getD .skip) (env0 [t0, t1]) h (bodyQ Tryd.prog Tryd.f14.results.toList R) = f14.T t0 t1 h R := by kernel_rfl
theorem f14.ok {t0 t1 : Value} {h : Hp} {R : Value → Hp → Prop} (k : f14.T t0 t1 h R) : CallsH Tryd.prog 14 #[t0, t1] h R :=
    calls_of_evC (args := [t0, t1]) (c := Tryd.f14.body.getD .skip) (fun _ => []) (fun _ => []) follows_mixed Tryd.func14 (by kernel_rfl) (by kernel_rfl) (by kernel_rfl)
      (Eq.mpr (f14.eq t0 t1 h R) k)
/- 15 trellis/trellisref8.Fits -/
def f15.T (t0 t1 : Value) (h : Hp) (R : Value → Hp → Prop) : Prop :=
  CallsH Tryd.prog 46 #[t0] h fun t8 h_1 =>
  bnd (unE .not t8) fun t9 =>
  guardT (isB t9 false) (fun K => CallsH Tryd.prog 46 #[(bif isB t9 false then t1 else undef)] h_1 K) h_1 fun t12 h_2 =>
  bnd (bif isB t9 false then unE .not t12 else some undef) fun t13 =>
  bnd ((asB t9).map fun t => bif t then (.bool true) else t13) fun t14 =>
  condT t14 (
  R (.bool false) h_2) (
  CallsH Tryd.prog 47 #[t0] h_2 fun t16 h_3 =>
  CallsH Tryd.prog 47 #[t1] h_3 fun t18 h_4 =>
  bnd (binE .geq t16 (.int .i64 8)) fun t20 =>
  bnd (bif isB t20 false then binE .geq (bif isB t20 false then t18 else undef) (.int .i64 8) else some undef) fun t23 =>
  bnd ((asB t20).map fun t => bif t then (.bool true) else t23) fun t24 =>
  condT t24 (
  R (.bool false) h_4) (
  bnd (binE .and t16 (.int .i64 4)) fun t26 =>
  bnd (binE .neq t26 (.int .i64 0)) fun t27 =>
  bnd (bif isB t27 true then binE .and (bif isB t27 true then t18 else undef) (.int .i64 2) else some undef) fun t30 =>
  bnd (bif isB t27 true then binE .neq t30 (.int .i64 0) else some undef) fun t31 =>
  bnd ((asB t27).map fun t => bif t then t31 else (.bool false)) fun t32 =>
  bnd (unE .not t32) fun t33 =>
  bnd (bif isB t33 true then binE .and (bif isB t33 true then t18 else undef) (.int .i64 4) else some undef) fun t36 =>
  bnd (bif isB t33 true then binE .neq t36 (.int .i64 0) else some undef) fun t37 =>
  bnd (bif isB (bif isB t33 true then t37 else undef) true then binE .and (bif isB (bif isB t33 true then t37 else undef) true then t16 else undef) (.int .i64 2) else some undef) fun t40 =>
  bnd (bif isB (bif isB t33 true then t37 else undef) true then binE .neq t40 (.int .i64 0) else some undef) fun t41 =>
  bnd (bif isB t33 true then ((asB (bif isB t33 true then t37 else undef)).map fun t => bif t then t41 else (.bool false)) else some undef) fun t42 =>
  bnd (bif isB t33 true then unE .not t42 else some undef) fun t43 =>
  bnd ((asB t33).map fun t => bif t then t43 else (.bool false)) fun t44 =>
  R t44 h_4))
theorem f15.eq (t0 t1 : Value) (h : Hp) (R : Value → Hp → Prop) : evC Tryd.prog (fun _ => []) (fun _ => []) (Tryd.f15.body.getD .skip) (env0 [t0, t1]) h (bodyQ Tryd.prog Tryd.f15.results.toList R) = f15.T t0 t1 h R := by kernel_rfl
theorem f15.ok {t0 t1 : Value} {h : Hp} {R : Value → Hp → Prop} (k : f15.T t0 t1 h R) : CallsH Tryd.prog 15 #[t0, t1] h R :=
    calls_of_evC (args := [t0, t1]) (c := Tryd.f15.body.getD .skip) (fun _ => []) (fun _ => []) follows_mixed Tryd.func15 (by kernel_rfl) (by kernel_rfl) (by kernel_rfl)
      (Eq.mpr (f15.eq t0 t1 h R) k)
/- 16 trellis/locks.Joins -/
def f16.T (t0 t1 : Value) (h : Hp) (R : Value → Hp → Prop) : Prop :=
  bnd (binE .lss t0 (.int .i64 0)) fun t6 =>
  bnd (bif isB t6 false then binE .geq (bif isB t6 false then t0 else undef) (.int .i64 6) else some undef) fun t9 =>
  bnd ((asB t6).map fun t => bif t then (.bool true) else t9) fun t10 =>
  bnd (bif isB t10 false then binE .lss (bif isB t10 false then t1 else undef) (.int .i64 0) else some undef) fun t13 =>
  bnd ((asB t10).map fun t => bif t then (.bool true) else t13) fun t14 =>
  bnd (bif isB t14 false then binE .geq (bif isB t14 false then t1 else undef) (.int .i64 6) else some undef) fun t17 =>
  bnd ((asB t14).map fun t => bif t then (.bool true) else t17) fun t18 =>
  condT t18 (
  R (.int .i64 0) h) (
  bnd (idxA 6 6 (.pointer (some ⟨1, 0, none⟩)) t0) fun t21 =>
  bnd (idxA 6 1 t21 t1) fun t22 =>
  bnd (ldS h t22) fun t23 =>
  R t23 h)
theorem f16.eq (t0 t1 : Value) (h : Hp) (R : Value → Hp → Prop) : evC Tryd.prog (fun _ => []) (fun _ => []) (Tryd.f16.body.getD .skip) (env0 [t0, t1]) h (bodyQ Tryd.prog Tryd.f16.results.toList R) = f16.T t0 t1 h R := by kernel_rfl
theorem f16.ok {t0 t1 : Value} {h : Hp} {R : Value → Hp → Prop} (k : f16.T t0 t1 h R) : CallsH Tryd.prog 16 #[t0, t1] h R :=
    calls_of_evC (args := [t0, t1]) (c := Tryd.f16.body.getD .skip) (fun _ => []) (fun _ => []) follows_mixed Tryd.func16 (by kernel_rfl) (by kernel_rfl) (by kernel_rfl)
      (Eq.mpr (f16.eq t0 t1 h R) k)
/- 17 trellis/trellisref8.Joins -/
/- slots [6] -/
  def f17.L1 (h_4 : Hp) (t27 : Value) (R : Value → Hp → Prop) : Prop :=
  ∃ (I1 : List Value → Hp → Prop) (μ1 : List Value → Hp → Nat), I1 [(.int .i64 1)] h_4 ∧
  ∀ t30 t31 t34 t35 t36 t37 t38 t39 t40 t4 t32 t33 t6 : Value, ∀ (h_5 : Hp), I1 [t6] h_5 →
  bnd (binE .leq t6 (.int .i64 5)) fun t31_1 =>
  condT t31_1 (
  CallsH Tryd.prog 47 #[t6] h_5 fun t35_1 h_6 =>
  bnd (binE .and t35_1 t27) fun t37_1 =>
  bnd (binE .eql t37_1 t27) fun t39_1 =>
  condT t39_1 (
  R t6 h_6) (
  bnd (binE .add t6 (.int .i64 1)) fun t33_1 =>
  (I1 [t33_1] h_6 ∧ μ1 [t33_1] h_6 < μ1 [t6] h_5))) (
  R (.int .i64 5) h_5)
def f17.T (t0 t1 : Value) (h : Hp) (R : Value → Hp → Prop) : Prop :=
  bnd (binE .neq t0 (.int .i64 0)) fun t8 =>
  guardT (isB t8 true) (fun K => CallsH Tryd.prog 46 #[(bif isB t8 true then t0 else undef)] h K) h fun t11 h_1 =>
  bnd (bif isB t8 true then unE .not t11 else some undef) fun t12 =>
  bnd ((asB t8).map fun t => bif t then t12 else (.bool false)) fun t13 =>
  bnd (bif isB t13 false then binE .neq (bif isB t13 false then t1 else undef) (.int .i64 0) else some undef) fun t16 =>
  guardT (isB (bif isB t13 false then t16 else undef) true) (fun K => CallsH Tryd.prog 46 #[(bif isB (bif isB t13 false then t16 else undef) true then t1 else undef)] h_1 K) h_1 fun t19 h_2 =>
  bnd (bif isB (bif isB t13 false then t16 else undef) true then unE .not t19 else some undef) fun t20 =>
  bnd (bif isB t13 false then ((asB (bif isB t13 false then t16 else undef)).map fun t => bif t then t20 else (.bool false)) else some undef) fun t21 =>
  bnd ((asB t13).map fun t => bif t then (.bool true) else t21) fun t22 =>
  condT t22 (
  R (.int .i64 0) h_2) (
  CallsH Tryd.prog 47 #[t0] h_2 fun t24 h_3 =>
  CallsH Tryd.prog 47 #[t1] h_3 fun t26 h_4 =>
  bnd (binE .or t24 t26) fun t27 =>
  bnd (binE .eql t27 (.int .i64 0)) fun t29 =>
  condT t29 (
  R (.int .i64 0) h_4) (
  (f17.L1 h_4 t27 R)))
theorem f17.eq (t0 t1 : Value) (h : Hp) (R : Value → Hp → Prop) : evC Tryd.prog (fun i => bif Nat.beq i 7 then [6] else []) (fun _ => []) (Tryd.f17.body.getD .skip) (env0 [t0, t1]) h (bodyQ Tryd.prog Tryd.f17.results.toList R) = f17.T t0 t1 h R := by kernel_rfl
theorem f17.ok {t0 t1 : Value} {h : Hp} {R : Value → Hp → Prop} (k : f17.T t0 t1 h R) : CallsH Tryd.prog 17 #[t0, t1] h R :=
    calls_of_evC (args := [t0, t1]) (c := Tryd.f17.body.getD .skip) (fun i => bif Nat.beq i 7 then [6] else []) (fun _ => []) follows_mixed Tryd.func17 (by kernel_rfl) (by kernel_rfl) (by kernel_rfl)
      (Eq.mpr (f17.eq t0 t1 h R) k)
/- 45 trellis/locks.isMode -/
def f45.T (t0 : Value) (h : Hp) (R : Value → Hp → Prop) : Prop :=
  bnd (binE .geq t0 (.int .i64 1)) fun t4 =>
  bnd (bif isB t4 true then binE .leq (bif isB t4 true then t0 else undef) (.int .i64 5) else some undef) fun t7 =>
  bnd ((asB t4).map fun t => bif t then t7 else (.bool false)) fun t8 =>
  R t8 h
theorem f45.eq (t0 : Value) (h : Hp) (R : Value → Hp → Prop) : evC Tryd.prog (fun _ => []) (fun _ => []) (Tryd.f45.body.getD .skip) (env0 [t0]) h (bodyQ Tryd.prog Tryd.f45.results.toList R) = f45.T t0 h R := by kernel_rfl
theorem f45.ok {t0 : Value} {h : Hp} {R : Value → Hp → Prop} (k : f45.T t0 h R) : CallsH Tryd.prog 45 #[t0] h R :=
    calls_of_evC (args := [t0]) (c := Tryd.f45.body.getD .skip) (fun _ => []) (fun _ => []) follows_mixed Tryd.func45 (by kernel_rfl) (by kernel_rfl) (by kernel_rfl)
      (Eq.mpr (f45.eq t0 h R) k)
/- 46 trellis/trellisref8.mode -/
def f46.T (t0 : Value) (h : Hp) (R : Value → Hp → Prop) : Prop :=
  bnd (binE .geq t0 (.int .i64 1)) fun t4 =>
  bnd (bif isB t4 true then binE .leq (bif isB t4 true then t0 else undef) (.int .i64 5) else some undef) fun t7 =>
  bnd ((asB t4).map fun t => bif t then t7 else (.bool false)) fun t8 =>
  R t8 h
theorem f46.eq (t0 : Value) (h : Hp) (R : Value → Hp → Prop) : evC Tryd.prog (fun _ => []) (fun _ => []) (Tryd.f46.body.getD .skip) (env0 [t0]) h (bodyQ Tryd.prog Tryd.f46.results.toList R) = f46.T t0 h R := by kernel_rfl
theorem f46.ok {t0 : Value} {h : Hp} {R : Value → Hp → Prop} (k : f46.T t0 h R) : CallsH Tryd.prog 46 #[t0] h R :=
    calls_of_evC (args := [t0]) (c := Tryd.f46.body.getD .skip) (fun _ => []) (fun _ => []) follows_mixed Tryd.func46 (by kernel_rfl) (by kernel_rfl) (by kernel_rfl)
      (Eq.mpr (f46.eq t0 h R) k)
/- 47 trellis/trellisref8.covers -/
def f47.T (t0 : Value) (h : Hp) (R : Value → Hp → Prop) : Prop :=
  bnd (binE .eql t0 (.int .i64 1)) fun t5 =>
  condT t5 (
  R (.int .i64 1) h) (
  bnd (binE .eql t0 (.int .i64 2)) fun t7 =>
  condT t7 (
  R (.int .i64 3) h) (
  bnd (binE .eql t0 (.int .i64 3)) fun t9 =>
  condT t9 (
  R (.int .i64 5) h) (
  bnd (binE .eql t0 (.int .i64 4)) fun t11 =>
  condT t11 (
  R (.int .i64 7) h) (
  bnd (binE .eql t0 (.int .i64 5)) fun t13 =>
  condT t13 (
  R (.int .i64 15) h) (
  R (.int .i64 0) h)))))
theorem f47.eq (t0 : Value) (h : Hp) (R : Value → Hp → Prop) : evC Tryd.prog (fun _ => []) (fun _ => []) (Tryd.f47.body.getD .skip) (env0 [t0]) h (bodyQ Tryd.prog Tryd.f47.results.toList R) = f47.T t0 h R := by kernel_rfl
theorem f47.ok {t0 : Value} {h : Hp} {R : Value → Hp → Prop} (k : f47.T t0 h R) : CallsH Tryd.prog 47 #[t0] h R :=
    calls_of_evC (args := [t0]) (c := Tryd.f47.body.getD .skip) (fun _ => []) (fun _ => []) follows_mixed Tryd.func47 (by kernel_rfl) (by kernel_rfl) (by kernel_rfl)
      (Eq.mpr (f47.eq t0 h R) k)
end Go.Proofs.YtkiakofohkecaaaDoor
