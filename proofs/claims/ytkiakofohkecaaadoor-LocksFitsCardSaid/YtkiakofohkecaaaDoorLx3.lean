/- LocksFits: whatever the two modes are, the law tells true and the memory is as it was. No condition but that the two tables stand in their blocks. -/
import Derived.Test.YtkiakofohkecaaaDoorLx2
namespace Go.Proofs.YtkiakofohkecaaaDoor
open Go Go.Fw
attribute [local simp] isB_undef

theorem fits_L2 {h : Hp} (t : Tabs h) {a : Int} {R : Value → Hp → Prop} {I1 : List Value → Hp → Prop} {μ1 : List Value → Hp → Nat} (hl : a ≤ 6) (hl0 : -1 ≤ a) (hI : I1 [.int .i64 (a + 1)] h ∧ μ1 [.int .i64 (a + 1)] h < μ1 [.int .i64 a] h) : f3.L2 h (.int .i64 a) R I1 μ1 := by
  unfold f3.L2
  refine ⟨fun l h' => ∃ i : Int, l = [.int .i64 i] ∧ -1 ≤ i ∧ i ≤ 7 ∧ h' = h, fun l _ => match l with | [.int _ n] => (7 - n).toNat | _ => 0, ⟨-1, rfl, by omega, by omega, rfl⟩, ?_⟩
  intro t11 t12 t15 t16 t17 t18 t19 t20 t21 t22 t23 t24 t25 t26 t27 t28 t29 t30 t4 t13 t14 t6 h2
  rintro ⟨i, hi, h0, h7, rfl⟩
  obtain rfl : t6 = .int .i64 i := by simpa using hi
  by_cases hlt : i < 7
  · simp only [bin_lss, bnd_some, condT_bool, hlt, decide_true, if_true]
    refine (c14 h2 t a i).mono ?_
    rintro v h3 ⟨rfl, rfl⟩
    refine (c15 h3 a i).mono ?_
    rintro v h4 ⟨rfl, rfl⟩
    simp only [binB_neq, beq_self_eq_true, Bool.not_true, bnd_some, isB_bool, cond_true, guardT_true]
    refine (c16 h4 t a i).mono ?_
    rintro v h5 ⟨rfl, rfl⟩
    refine (c17 h5 a i).mono ?_
    rintro v h6 ⟨rfl, rfl⟩
    have hw : IntKind.i64.wrap (i + 1) = i + 1 := i64_id (by omega) (by omega)
    simp [hw]
    omega
  · obtain rfl : i = 7 := by omega
    have hw : IntKind.i64.wrap (a + 1) = a + 1 := i64_id (by omega) (by omega)
    simpa [hw] using hI

theorem fits_spec (h : Hp) (t : Tabs h) (a b : Int) : CallsH Tryd.prog 3 #[.int .i64 a, .int .i64 b] h fun v h' => v = .bool true ∧ h' = h := by
  refine f3.ok ?_
  unfold f3.T f3.L1
  refine ⟨fun l h' => ∃ i : Int, l = [.int .i64 i] ∧ -1 ≤ i ∧ i ≤ 7 ∧ h' = h, fun l _ => match l with | [.int _ n] => (7 - n).toNat | _ => 0, ⟨-1, rfl, by omega, by omega, rfl⟩, ?_⟩
  intro t7 t8 t11 t12 t15 t16 t17 t18 t19 t20 t21 t22 t23 t24 t25 t26 t27 t28 t29 t30 t4 t13 t14 t6 t9 t10 t5 h1
  rintro ⟨i, hi, h0, h7, rfl⟩
  obtain rfl : t5 = .int .i64 i := by simpa using hi
  by_cases hlt : i < 7
  · simp only [bin_lss, bnd_some, condT_bool, hlt, decide_true, if_true]
    refine fits_L2 t (by omega) h0 ⟨⟨i + 1, rfl, by omega, by omega, rfl⟩, ?_⟩
    simp only
    omega
  · simp only [bin_lss, bnd_some, condT_bool, hlt, decide_false, if_false, Bool.false_eq_true]
    refine (c14 h1 t a b).mono ?_
    rintro v h3 ⟨rfl, rfl⟩
    refine (c15 h3 a b).mono ?_
    rintro v h4 ⟨rfl, rfl⟩
    simp only [binB_eql, beq_self_eq_true, bnd_some, isB_bool, cond_true, guardT_true]
    refine (c16 h4 t a b).mono ?_
    rintro v h5 ⟨rfl, rfl⟩
    refine (c17 h5 a b).mono ?_
    rintro v h6 ⟨rfl, rfl⟩
    simp
end Go.Proofs.YtkiakofohkecaaaDoor
