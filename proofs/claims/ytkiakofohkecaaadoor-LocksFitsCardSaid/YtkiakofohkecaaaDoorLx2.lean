/- What the functions of LocksFits tell: whether two modes fit, and the mode that joins them. No condition but that the two tables stand in their blocks. -/
import Derived.Test.YtkiakofohkecaaaDoorLx1
namespace Go.Proofs.YtkiakofohkecaaaDoor
open Go Go.Fw
@[simp] theorem or_0_0 : binE .or (.int .i64 0) (.int .i64 0) = some (.int .i64 0) := by kernel_rfl
@[simp] theorem or_0_1 : binE .or (.int .i64 0) (.int .i64 1) = some (.int .i64 1) := by kernel_rfl
@[simp] theorem or_0_3 : binE .or (.int .i64 0) (.int .i64 3) = some (.int .i64 3) := by kernel_rfl
@[simp] theorem or_0_5 : binE .or (.int .i64 0) (.int .i64 5) = some (.int .i64 5) := by kernel_rfl
@[simp] theorem or_0_7 : binE .or (.int .i64 0) (.int .i64 7) = some (.int .i64 7) := by kernel_rfl
@[simp] theorem or_0_15 : binE .or (.int .i64 0) (.int .i64 15) = some (.int .i64 15) := by kernel_rfl
@[simp] theorem or_1_0 : binE .or (.int .i64 1) (.int .i64 0) = some (.int .i64 1) := by kernel_rfl
@[simp] theorem or_1_1 : binE .or (.int .i64 1) (.int .i64 1) = some (.int .i64 1) := by kernel_rfl
@[simp] theorem or_1_3 : binE .or (.int .i64 1) (.int .i64 3) = some (.int .i64 3) := by kernel_rfl
@[simp] theorem or_1_5 : binE .or (.int .i64 1) (.int .i64 5) = some (.int .i64 5) := by kernel_rfl
@[simp] theorem or_1_7 : binE .or (.int .i64 1) (.int .i64 7) = some (.int .i64 7) := by kernel_rfl
@[simp] theorem or_1_15 : binE .or (.int .i64 1) (.int .i64 15) = some (.int .i64 15) := by kernel_rfl
@[simp] theorem or_3_0 : binE .or (.int .i64 3) (.int .i64 0) = some (.int .i64 3) := by kernel_rfl
@[simp] theorem or_3_1 : binE .or (.int .i64 3) (.int .i64 1) = some (.int .i64 3) := by kernel_rfl
@[simp] theorem or_3_3 : binE .or (.int .i64 3) (.int .i64 3) = some (.int .i64 3) := by kernel_rfl
@[simp] theorem or_3_5 : binE .or (.int .i64 3) (.int .i64 5) = some (.int .i64 7) := by kernel_rfl
@[simp] theorem or_3_7 : binE .or (.int .i64 3) (.int .i64 7) = some (.int .i64 7) := by kernel_rfl
@[simp] theorem or_3_15 : binE .or (.int .i64 3) (.int .i64 15) = some (.int .i64 15) := by kernel_rfl
@[simp] theorem or_5_0 : binE .or (.int .i64 5) (.int .i64 0) = some (.int .i64 5) := by kernel_rfl
@[simp] theorem or_5_1 : binE .or (.int .i64 5) (.int .i64 1) = some (.int .i64 5) := by kernel_rfl
@[simp] theorem or_5_3 : binE .or (.int .i64 5) (.int .i64 3) = some (.int .i64 7) := by kernel_rfl
@[simp] theorem or_5_5 : binE .or (.int .i64 5) (.int .i64 5) = some (.int .i64 5) := by kernel_rfl
@[simp] theorem or_5_7 : binE .or (.int .i64 5) (.int .i64 7) = some (.int .i64 7) := by kernel_rfl
@[simp] theorem or_5_15 : binE .or (.int .i64 5) (.int .i64 15) = some (.int .i64 15) := by kernel_rfl
@[simp] theorem or_7_0 : binE .or (.int .i64 7) (.int .i64 0) = some (.int .i64 7) := by kernel_rfl
@[simp] theorem or_7_1 : binE .or (.int .i64 7) (.int .i64 1) = some (.int .i64 7) := by kernel_rfl
@[simp] theorem or_7_3 : binE .or (.int .i64 7) (.int .i64 3) = some (.int .i64 7) := by kernel_rfl
@[simp] theorem or_7_5 : binE .or (.int .i64 7) (.int .i64 5) = some (.int .i64 7) := by kernel_rfl
@[simp] theorem or_7_7 : binE .or (.int .i64 7) (.int .i64 7) = some (.int .i64 7) := by kernel_rfl
@[simp] theorem or_7_15 : binE .or (.int .i64 7) (.int .i64 15) = some (.int .i64 15) := by kernel_rfl
@[simp] theorem or_15_0 : binE .or (.int .i64 15) (.int .i64 0) = some (.int .i64 15) := by kernel_rfl
@[simp] theorem or_15_1 : binE .or (.int .i64 15) (.int .i64 1) = some (.int .i64 15) := by kernel_rfl
@[simp] theorem or_15_3 : binE .or (.int .i64 15) (.int .i64 3) = some (.int .i64 15) := by kernel_rfl
@[simp] theorem or_15_5 : binE .or (.int .i64 15) (.int .i64 5) = some (.int .i64 15) := by kernel_rfl
@[simp] theorem or_15_7 : binE .or (.int .i64 15) (.int .i64 7) = some (.int .i64 15) := by kernel_rfl
@[simp] theorem or_15_15 : binE .or (.int .i64 15) (.int .i64 15) = some (.int .i64 15) := by kernel_rfl
@[simp] theorem an_0_0 : binE .and (.int .i64 0) (.int .i64 0) = some (.int .i64 0) := by kernel_rfl
@[simp] theorem an_0_1 : binE .and (.int .i64 0) (.int .i64 1) = some (.int .i64 0) := by kernel_rfl
@[simp] theorem an_0_2 : binE .and (.int .i64 0) (.int .i64 2) = some (.int .i64 0) := by kernel_rfl
@[simp] theorem an_0_3 : binE .and (.int .i64 0) (.int .i64 3) = some (.int .i64 0) := by kernel_rfl
@[simp] theorem an_0_4 : binE .and (.int .i64 0) (.int .i64 4) = some (.int .i64 0) := by kernel_rfl
@[simp] theorem an_0_5 : binE .and (.int .i64 0) (.int .i64 5) = some (.int .i64 0) := by kernel_rfl
@[simp] theorem an_0_7 : binE .and (.int .i64 0) (.int .i64 7) = some (.int .i64 0) := by kernel_rfl
@[simp] theorem an_0_15 : binE .and (.int .i64 0) (.int .i64 15) = some (.int .i64 0) := by kernel_rfl
@[simp] theorem an_1_0 : binE .and (.int .i64 1) (.int .i64 0) = some (.int .i64 0) := by kernel_rfl
@[simp] theorem an_1_1 : binE .and (.int .i64 1) (.int .i64 1) = some (.int .i64 1) := by kernel_rfl
@[simp] theorem an_1_2 : binE .and (.int .i64 1) (.int .i64 2) = some (.int .i64 0) := by kernel_rfl
@[simp] theorem an_1_3 : binE .and (.int .i64 1) (.int .i64 3) = some (.int .i64 1) := by kernel_rfl
@[simp] theorem an_1_4 : binE .and (.int .i64 1) (.int .i64 4) = some (.int .i64 0) := by kernel_rfl
@[simp] theorem an_1_5 : binE .and (.int .i64 1) (.int .i64 5) = some (.int .i64 1) := by kernel_rfl
@[simp] theorem an_1_7 : binE .and (.int .i64 1) (.int .i64 7) = some (.int .i64 1) := by kernel_rfl
@[simp] theorem an_1_15 : binE .and (.int .i64 1) (.int .i64 15) = some (.int .i64 1) := by kernel_rfl
@[simp] theorem an_3_0 : binE .and (.int .i64 3) (.int .i64 0) = some (.int .i64 0) := by kernel_rfl
@[simp] theorem an_3_1 : binE .and (.int .i64 3) (.int .i64 1) = some (.int .i64 1) := by kernel_rfl
@[simp] theorem an_3_2 : binE .and (.int .i64 3) (.int .i64 2) = some (.int .i64 2) := by kernel_rfl
@[simp] theorem an_3_3 : binE .and (.int .i64 3) (.int .i64 3) = some (.int .i64 3) := by kernel_rfl
@[simp] theorem an_3_4 : binE .and (.int .i64 3) (.int .i64 4) = some (.int .i64 0) := by kernel_rfl
@[simp] theorem an_3_5 : binE .and (.int .i64 3) (.int .i64 5) = some (.int .i64 1) := by kernel_rfl
@[simp] theorem an_3_7 : binE .and (.int .i64 3) (.int .i64 7) = some (.int .i64 3) := by kernel_rfl
@[simp] theorem an_3_15 : binE .and (.int .i64 3) (.int .i64 15) = some (.int .i64 3) := by kernel_rfl
@[simp] theorem an_5_0 : binE .and (.int .i64 5) (.int .i64 0) = some (.int .i64 0) := by kernel_rfl
@[simp] theorem an_5_1 : binE .and (.int .i64 5) (.int .i64 1) = some (.int .i64 1) := by kernel_rfl
@[simp] theorem an_5_2 : binE .and (.int .i64 5) (.int .i64 2) = some (.int .i64 0) := by kernel_rfl
@[simp] theorem an_5_3 : binE .and (.int .i64 5) (.int .i64 3) = some (.int .i64 1) := by kernel_rfl
@[simp] theorem an_5_4 : binE .and (.int .i64 5) (.int .i64 4) = some (.int .i64 4) := by kernel_rfl
@[simp] theorem an_5_5 : binE .and (.int .i64 5) (.int .i64 5) = some (.int .i64 5) := by kernel_rfl
@[simp] theorem an_5_7 : binE .and (.int .i64 5) (.int .i64 7) = some (.int .i64 5) := by kernel_rfl
@[simp] theorem an_5_15 : binE .and (.int .i64 5) (.int .i64 15) = some (.int .i64 5) := by kernel_rfl
@[simp] theorem an_7_0 : binE .and (.int .i64 7) (.int .i64 0) = some (.int .i64 0) := by kernel_rfl
@[simp] theorem an_7_1 : binE .and (.int .i64 7) (.int .i64 1) = some (.int .i64 1) := by kernel_rfl
@[simp] theorem an_7_2 : binE .and (.int .i64 7) (.int .i64 2) = some (.int .i64 2) := by kernel_rfl
@[simp] theorem an_7_3 : binE .and (.int .i64 7) (.int .i64 3) = some (.int .i64 3) := by kernel_rfl
@[simp] theorem an_7_4 : binE .and (.int .i64 7) (.int .i64 4) = some (.int .i64 4) := by kernel_rfl
@[simp] theorem an_7_5 : binE .and (.int .i64 7) (.int .i64 5) = some (.int .i64 5) := by kernel_rfl
@[simp] theorem an_7_7 : binE .and (.int .i64 7) (.int .i64 7) = some (.int .i64 7) := by kernel_rfl
@[simp] theorem an_7_15 : binE .and (.int .i64 7) (.int .i64 15) = some (.int .i64 7) := by kernel_rfl
@[simp] theorem an_15_0 : binE .and (.int .i64 15) (.int .i64 0) = some (.int .i64 0) := by kernel_rfl
@[simp] theorem an_15_1 : binE .and (.int .i64 15) (.int .i64 1) = some (.int .i64 1) := by kernel_rfl
@[simp] theorem an_15_2 : binE .and (.int .i64 15) (.int .i64 2) = some (.int .i64 2) := by kernel_rfl
@[simp] theorem an_15_3 : binE .and (.int .i64 15) (.int .i64 3) = some (.int .i64 3) := by kernel_rfl
@[simp] theorem an_15_4 : binE .and (.int .i64 15) (.int .i64 4) = some (.int .i64 4) := by kernel_rfl
@[simp] theorem an_15_5 : binE .and (.int .i64 15) (.int .i64 5) = some (.int .i64 5) := by kernel_rfl
@[simp] theorem an_15_7 : binE .and (.int .i64 15) (.int .i64 7) = some (.int .i64 7) := by kernel_rfl
@[simp] theorem an_15_15 : binE .and (.int .i64 15) (.int .i64 15) = some (.int .i64 15) := by kernel_rfl

def fitRows : List (List Int) := [[0, 0, 0, 0, 0, 0], [0, 1, 1, 1, 1, 0], [0, 1, 1, 0, 0, 0], [0, 1, 0, 1, 0, 0], [0, 1, 0, 0, 0, 0], [0, 0, 0, 0, 0, 0]]
def joinRows : List (List Int) := [[0, 1, 2, 3, 4, 5], [1, 1, 2, 3, 4, 5], [2, 2, 2, 4, 4, 5], [3, 3, 4, 3, 4, 5], [4, 4, 4, 4, 4, 5], [5, 5, 5, 5, 5, 5]]
def cellsOfRows (zss : List (List Int)) : Array Value := (zss.map fun zs => zs.map fun z => Value.int .i64 z).flatten.toArray
theorem fitCells : cellsOfRows fitRows = #[.int .i64 0, .int .i64 0, .int .i64 0, .int .i64 0, .int .i64 0, .int .i64 0, .int .i64 0, .int .i64 1, .int .i64 1, .int .i64 1, .int .i64 1, .int .i64 0, .int .i64 0, .int .i64 1, .int .i64 1, .int .i64 0, .int .i64 0, .int .i64 0, .int .i64 0, .int .i64 1, .int .i64 0, .int .i64 1, .int .i64 0, .int .i64 0, .int .i64 0, .int .i64 1, .int .i64 0, .int .i64 0, .int .i64 0, .int .i64 0, .int .i64 0, .int .i64 0, .int .i64 0, .int .i64 0, .int .i64 0, .int .i64 0] := by rfl
theorem joinCells : cellsOfRows joinRows = #[.int .i64 0, .int .i64 1, .int .i64 2, .int .i64 3, .int .i64 4, .int .i64 5, .int .i64 1, .int .i64 1, .int .i64 2, .int .i64 3, .int .i64 4, .int .i64 5, .int .i64 2, .int .i64 2, .int .i64 2, .int .i64 4, .int .i64 4, .int .i64 5, .int .i64 3, .int .i64 3, .int .i64 4, .int .i64 3, .int .i64 4, .int .i64 5, .int .i64 4, .int .i64 4, .int .i64 4, .int .i64 4, .int .i64 4, .int .i64 5, .int .i64 5, .int .i64 5, .int .i64 5, .int .i64 5, .int .i64 5, .int .i64 5] := by rfl

structure Tabs (h : Hp) : Prop where
  fit : ∃ E f, h[0]? = some (.cells (cellsOfRows fitRows) E f)
  join : ∃ E f, h[1]? = some (.cells (cellsOfRows joinRows) E f)

def isMode (a : Int) : Bool := decide (1 ≤ a) && decide (a ≤ 5)
def covers (a : Int) : Int := if a = 1 then 1 else if a = 2 then 3 else if a = 3 then 5 else if a = 4 then 7 else if a = 5 then 15 else 0
def fit (a b : Int) : Bool := isMode a && (isMode b && decide (((fitRows.getD a.toNat []).getD b.toNat 0) = 1))
def join (a b : Int) : Int := if 0 ≤ a ∧ a ≤ 5 ∧ 0 ≤ b ∧ b ≤ 5 then (joinRows.getD a.toNat []).getD b.toNat 0 else 0

theorem c45 (h : Hp) (a : Int) : CallsH Tryd.prog 45 #[.int .i64 a] h fun v h' => v = .bool (isMode a) ∧ h' = h := by
  refine f45.ok ?_
  unfold f45.T
  by_cases h1 : 1 ≤ a <;> by_cases h2 : a ≤ 5 <;> simp [isMode, h1, h2]
theorem c46 (h : Hp) (a : Int) : CallsH Tryd.prog 46 #[.int .i64 a] h fun v h' => v = .bool (isMode a) ∧ h' = h := by
  refine f46.ok ?_
  unfold f46.T
  by_cases h1 : 1 ≤ a <;> by_cases h2 : a ≤ 5 <;> simp [isMode, h1, h2]
theorem c47 (h : Hp) (a : Int) : CallsH Tryd.prog 47 #[.int .i64 a] h fun v h' => v = .int .i64 (covers a) ∧ h' = h := by
  refine f47.ok ?_
  unfold f47.T
  by_cases h1 : a = 1
  · simp [covers, h1]
  by_cases h2 : a = 2
  · simp [covers, h2]
  by_cases h3 : a = 3
  · simp [covers, h3]
  by_cases h4 : a = 4
  · simp [covers, h4]
  by_cases h5 : a = 5
  · simp [covers, h5]
  simp [covers, h1, h2, h3, h4, h5]

theorem mode_cases {a : Int} (h : isMode a = true) : a = 1 ∨ a = 2 ∨ a = 3 ∨ a = 4 ∨ a = 5 := by
  simp [isMode] at h; omega

theorem c14 (h : Hp) (t : Tabs h) (a b : Int) : CallsH Tryd.prog 14 #[.int .i64 a, .int .i64 b] h fun v h' => v = .bool (fit a b) ∧ h' = h := by
  obtain ⟨E, f, ht⟩ := t.fit
  rw [fitCells] at ht
  refine f14.ok ?_
  unfold f14.T
  refine (c45 h a).mono ?_
  rintro v h1 ⟨rfl, rfl⟩
  cases ha : isMode a
  · simp [fit, ha]
  · simp only [isB_bool, beq_self_eq_true, guardT_true, cond_true]
    refine (c45 h1 b).mono ?_
    rintro v h2 ⟨rfl, rfl⟩
    cases hb : isMode b
    · simp [fit, ha, hb]
    · rcases mode_cases ha with rfl | rfl | rfl | rfl | rfl <;> rcases mode_cases hb with rfl | rfl | rfl | rfl | rfl <;> simp [ldS_at ht] <;> decide

theorem c15 (h : Hp) (a b : Int) : CallsH Tryd.prog 15 #[.int .i64 a, .int .i64 b] h fun v h' => v = .bool (fit a b) ∧ h' = h := by
  refine f15.ok ?_
  unfold f15.T
  refine (c46 h a).mono ?_
  rintro v h1 ⟨rfl, rfl⟩
  cases ha : isMode a
  · simp [fit, ha]
  · simp only [isB_bool, unE_not, bnd_some, Bool.not_true, beq_self_eq_true, guardT_true, cond_true]
    refine (c46 h1 b).mono ?_
    rintro v h2 ⟨rfl, rfl⟩
    cases hb : isMode b
    · simp [fit, ha, hb]
    · simp
      refine (c47 h2 a).mono ?_
      rintro v h3 ⟨rfl, rfl⟩
      refine (c47 h3 b).mono ?_
      rintro v h4 ⟨rfl, rfl⟩
      rcases mode_cases ha with rfl | rfl | rfl | rfl | rfl <;> rcases mode_cases hb with rfl | rfl | rfl | rfl | rfl <;> simp [covers, isB_undef] <;> decide

theorem c16 (h : Hp) (t : Tabs h) (a b : Int) : CallsH Tryd.prog 16 #[.int .i64 a, .int .i64 b] h fun v h' => v = .int .i64 (join a b) ∧ h' = h := by
  obtain ⟨E, f, ht⟩ := t.join
  rw [joinCells] at ht
  refine f16.ok ?_
  unfold f16.T
  by_cases h1 : a < 0
  · simp [h1, join]; omega
  by_cases h2 : a ≥ 6
  · simp [h1, h2, join]; omega
  by_cases h3 : b < 0
  · simp [h1, h2, h3, join]; omega
  by_cases h4 : b ≥ 6
  · simp [h1, h2, h3, h4, join]; omega
  have ha : a = 0 ∨ a = 1 ∨ a = 2 ∨ a = 3 ∨ a = 4 ∨ a = 5 := by omega
  have hb : b = 0 ∨ b = 1 ∨ b = 2 ∨ b = 3 ∨ b = 4 ∨ b = 5 := by omega
  rcases ha with rfl | rfl | rfl | rfl | rfl | rfl <;> rcases hb with rfl | rfl | rfl | rfl | rfl | rfl <;> simp [ldS_at ht] <;> decide

theorem join_no {a b : Int} (h : a < 0 ∨ a > 5 ∨ b < 0 ∨ b > 5) : join a b = 0 := by
  unfold join
  rw [if_neg (by omega)]

/-- The loop of the reference's Joins: it stops at the first mode that covers m. -/
theorem c17_L1 {h : Hp} {m : Int} {r : Int} (hm : (m = 1 ∧ r = 1) ∨ (m = 3 ∧ r = 2) ∨ (m = 5 ∧ r = 3) ∨ (m = 7 ∧ r = 4) ∨ (m = 15 ∧ r = 5)) {R : Value → Hp → Prop} (hR : R (.int .i64 r) h) : f17.L1 h (.int .i64 m) R := by
  unfold f17.L1
  refine ⟨fun l h' => ∃ i : Int, l = [.int .i64 i] ∧ 1 ≤ i ∧ i ≤ r ∧ h' = h, fun l _ => match l with | [.int _ n] => (6 - n).toNat | _ => 0, ⟨1, rfl, by omega, by omega, rfl⟩, ?_⟩
  intro t30 t31 t34 t35 t36 t37 t38 t39 t40 t4 t32 t33 t6 h5
  rintro ⟨i, hl, h1, h2, rfl⟩
  obtain rfl : t6 = .int .i64 i := by simpa using hl
  have h5' : decide (i ≤ 5) = true := by simp; omega
  simp only [bin_leq, bnd_some, condT_bool, h5', if_true]
  refine (c47 h5 i).mono ?_
  rintro v h6 ⟨rfl, rfl⟩
  rcases hm with ⟨rfl, rfl⟩ | ⟨rfl, rfl⟩ | ⟨rfl, rfl⟩ | ⟨rfl, rfl⟩ | ⟨rfl, rfl⟩
  · obtain rfl : i = 1 := by omega
    simpa [covers] using hR
  · obtain rfl | rfl : i = 1 ∨ i = 2 := by omega
    · simp [covers, i64_id]
    · simpa [covers] using hR
  · obtain rfl | rfl | rfl : i = 1 ∨ i = 2 ∨ i = 3 := by omega
    · simp [covers, i64_id]
    · simp [covers, i64_id]
    · simpa [covers] using hR
  · obtain rfl | rfl | rfl | rfl : i = 1 ∨ i = 2 ∨ i = 3 ∨ i = 4 := by omega
    · simp [covers, i64_id]
    · simp [covers, i64_id]
    · simp [covers, i64_id]
    · simpa [covers] using hR
  · obtain rfl | rfl | rfl | rfl | rfl : i = 1 ∨ i = 2 ∨ i = 3 ∨ i = 4 ∨ i = 5 := by omega
    · simp [covers, i64_id]
    · simp [covers, i64_id]
    · simp [covers, i64_id]
    · simp [covers, i64_id]
    · simpa [covers] using hR

theorem c17_T {h : Hp} {a b : Int} (ha : a = 0 ∨ a = 1 ∨ a = 2 ∨ a = 3 ∨ a = 4 ∨ a = 5) (hb : b = 0 ∨ b = 1 ∨ b = 2 ∨ b = 3 ∨ b = 4 ∨ b = 5) {R : Value → Hp → Prop} (hR : R (.int .i64 (join a b)) h) :
    bnd (binE .or (.int .i64 (covers a)) (.int .i64 (covers b))) fun t27 => bnd (binE .eql t27 (.int .i64 0)) fun t29 => condT t29 (R (.int .i64 0) h) (f17.L1 h t27 R) := by
  rcases ha with rfl | rfl | rfl | rfl | rfl | rfl <;> rcases hb with rfl | rfl | rfl | rfl | rfl | rfl <;> simp [covers] <;> first | exact hR | exact c17_L1 (by decide) hR

theorem c17 (h : Hp) (a b : Int) : CallsH Tryd.prog 17 #[.int .i64 a, .int .i64 b] h fun v h' => v = .int .i64 (join a b) ∧ h' = h := by
  refine f17.ok ?_
  unfold f17.T
  have no : ∀ x, x ≠ 0 → isMode x = false → x < 0 ∨ x > 5 := fun x h1 h2 => by simp [isMode] at h2; omega
  have yes : ∀ x, isMode x = true → x = 0 ∨ x = 1 ∨ x = 2 ∨ x = 3 ∨ x = 4 ∨ x = 5 := fun x h => .inr (mode_cases h)
  have fin : ∀ (ha : a = 0 ∨ isMode a = true) (hb : b = 0 ∨ isMode b = true), CallsH Tryd.prog 47 #[.int .i64 a] h fun t24 h_3 => CallsH Tryd.prog 47 #[.int .i64 b] h_3 fun t26 h_4 =>
      bnd (binE .or t24 t26) fun t27 => bnd (binE .eql t27 (.int .i64 0)) fun t29 => condT t29 ((fun v h' => v = Value.int .i64 (join a b) ∧ h' = h) (.int .i64 0) h_4) (f17.L1 h_4 t27 (fun v h' => v = Value.int .i64 (join a b) ∧ h' = h)) := fun ha hb => by
    refine (c47 h a).mono ?_
    rintro v h3 ⟨rfl, rfl⟩
    refine (c47 h3 b).mono ?_
    rintro v h4 ⟨rfl, rfl⟩
    exact c17_T (R := fun v h' => v = Value.int .i64 (join a b) ∧ h' = h4) (ha.elim .inl (yes a)) (hb.elim .inl (yes b)) ⟨rfl, rfl⟩
  have tail : (a = 0 ∨ isMode a = true) → 
      bnd (bif isB (.bool false) false then binE .neq (bif isB (.bool false) false then (.int .i64 b) else undef) (.int .i64 0) else some undef) fun t16 =>
      guardT (isB (bif isB (.bool false) false then t16 else undef) true) (fun K => CallsH Tryd.prog 46 #[(bif isB (bif isB (.bool false) false then t16 else undef) true then (.int .i64 b) else undef)] h K) h fun t19 h_2 =>
      bnd (bif isB (bif isB (.bool false) false then t16 else undef) true then unE .not t19 else some undef) fun t20 =>
      bnd (bif isB (.bool false) false then ((asB (bif isB (.bool false) false then t16 else undef)).map fun t => bif t then t20 else (.bool false)) else some undef) fun t21 =>
      bnd ((asB (.bool false)).map fun t => bif t then (.bool true) else t21) fun t22 =>
      condT t22 ((fun v h' => v = Value.int .i64 (join a b) ∧ h' = h) (.int .i64 0) h_2) (
        CallsH Tryd.prog 47 #[.int .i64 a] h_2 fun t24 h_3 => CallsH Tryd.prog 47 #[.int .i64 b] h_3 fun t26 h_4 =>
        bnd (binE .or t24 t26) fun t27 => bnd (binE .eql t27 (.int .i64 0)) fun t29 => condT t29 ((fun v h' => v = Value.int .i64 (join a b) ∧ h' = h) (.int .i64 0) h_4) (f17.L1 h_4 t27 (fun v h' => v = Value.int .i64 (join a b) ∧ h' = h))) := fun ha => by
    by_cases hb0 : b = 0
    · have := fin ha (.inl hb0)
      simpa [hb0] using this
    · simp only [isB_bool, beq_self_eq_true, cond_true, bin_neq, bnd_some, ne_eq, hb0, not_false_eq_true, decide_true, guardT_true]
      refine (c46 h b).mono ?_
      rintro v h2 ⟨rfl, rfl⟩
      cases hb : isMode b
      · have := no b hb0 hb
        simp [join]; omega
      · have := fin ha (.inr hb)
        simpa using this
  by_cases ha0 : a = 0
  · have := tail (.inl ha0)
    simpa [ha0] using this
  · simp only [isB_bool, beq_self_eq_true, cond_true, bin_neq, bnd_some, ne_eq, ha0, not_false_eq_true, decide_true, guardT_true]
    refine (c46 h a).mono ?_
    rintro v h2 ⟨rfl, rfl⟩
    cases ha : isMode a
    · simp [isB_undef, join_no (a := a) (b := b) (by have := no a ha0 ha; omega)]
    · have := tail (.inr ha)
      simpa using this
end Go.Proofs.YtkiakofohkecaaaDoor
