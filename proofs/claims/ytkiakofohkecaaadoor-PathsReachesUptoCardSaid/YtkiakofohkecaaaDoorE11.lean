/- The reference's next: the least one in sight. No condition but that the list is read in memory as told. -/
import Derived.Test.YtkiakofohkecaaaDoorE10
namespace Go.Proofs.YtkiakofohkecaaaDoor
open Go Go.Fw

def lessS (a b : Seen) : Bool := decide (a.sum < b.sum) || (decide (a.sum = b.sum) && decide (a.id < b.id))
instance : Inhabited Seen := ⟨⟨0, 0⟩⟩
def snth (l : List Seen) (k : Nat) : Seen := l.getD k default
theorem snth_get {l : List Seen} {k : Nat} (h : k < l.length) : snth l k = l[k] := by simp [snth, h]

/-- k is a least one of the things before n. -/
def LeastTo (l : List Seen) (n k : Nat) : Prop := k < n ∧ ∀ j, j < n → lessS (snth l j) (snth l k) = false
def XInv (l : List Seen) (h : Hp) (vs : List Value) (h' : Hp) : Prop := ∃ k i : Nat, vs = [.int .i64 k, .int .i64 i] ∧ i ≤ l.length ∧ LeastTo l i k ∧ h' = h
def muF (n : Nat) (l : List Value) (_ : Hp) : Nat := match l with | [_, .int _ m] => n - m.toNat | _ => 0

theorem next_spec {h : Hp} {v : Value} {l : List Seen} (r : RowV h 2 v (l.map Seen.enc)) (h0 : 0 < l.length) (hn : l.length ≤ 1099511627776) {R : Value → Hp → Prop} (hR : ∀ k : Nat, LeastTo l l.length k → R (.int .i64 k) h) : CallsH Tryd.prog 75 #[v] h R := by
  have rd : ∀ j : Nat, j < l.length → ∃ b o, idxE 2 v (.int .i64 (j : Int)) = some (.pointer (some ⟨b, o, none⟩)) ∧ ldS h (.pointer (some ⟨b, o, none⟩)) = some (.int .i64 (snth l j).id) ∧ ldS h (.pointer (some ⟨b, o + 1, none⟩)) = some (.int .i64 (snth l j).sum) := fun j hj => by
    obtain ⟨b, o, e, r0, r1⟩ := seen_read r hj
    exact ⟨b, o, e, by rw [snth_get hj]; exact r0, by rw [snth_get hj]; exact r1⟩
  refine f75.ok ?_
  unfold f75.T f75.L1
  have l0 : LeastTo l 1 0 := by
    refine ⟨by omega, fun j hj => ?_⟩
    obtain rfl : j = 0 := by omega
    simp [lessS]
  refine ⟨XInv l h, muF l.length, ⟨0, 1, rfl, by omega, l0, rfl⟩, ?_⟩
  intro t5 t6 t7 t8 t11 t12 t13 t14 t15 t16 t17 t18 t19 t20 t21 t22 t23 t24 t25 t26 t27 t28 t29 t30 t31 t32 t33 t34 t35 t36 t37 t38 t39 t40 t41 t42 t43 t44 t45 t46 t47 t48 t3 t9 t10 t4 h1
  rintro ⟨k, i, hl, hi, hF, rfl⟩
  obtain ⟨rfl, rfl⟩ : t3 = .int .i64 k ∧ t4 = .int .i64 i := by simpa using hl
  simp only [seen_len r, bin_lss, bnd_some, condT_bool]
  by_cases hlt : i < l.length
  · have hdec : decide ((i : Int) < (l.length : Int)) = true := by simp; omega
    have w1 : IntKind.i64.wrap ((i : Int) + 1) = ((i + 1 : Nat) : Int) := by rw [i64_id (by omega) (by omega)]; omega
    have nxt : ∀ k' : Nat, LeastTo l (i + 1) k' → f75.J1 (.int .i64 (i : Int)) (XInv l h1) (.int .i64 (k' : Int)) h1 (muF l.length) (.int .i64 (k : Int)) h1 := fun k' hF' => by
      unfold f75.J1
      simp only [bin_add, bnd_some, w1]
      exact ⟨⟨k', i + 1, rfl, by omega, hF', rfl⟩, by simp only [muF, Int.toNat_natCast]; omega⟩
    obtain ⟨bi, oi, ei, ri0, ri1⟩ := rd i hlt
    obtain ⟨bk, ok, ek, rk0, rk1⟩ := rd k (by have := hF.1; omega)
    obtain ⟨hk, hmin⟩ := hF
    have yes : lessS (snth l i) (snth l k) = true → LeastTo l (i + 1) i := fun hb => ⟨by omega, fun j hj => by
      by_cases e : j = i
      · subst e; simp [lessS]
      · have := hmin j (by omega)
        simp [lessS] at hb this ⊢
        omega⟩
    have no : lessS (snth l i) (snth l k) = false → LeastTo l (i + 1) k := fun hb => ⟨by omega, fun j hj => by
      by_cases e : j = i
      · subst e; exact hb
      · exact hmin j (by omega)⟩
    generalize hsi : snth l i = si at *
    generalize hsk : snth l k = sk at *
    by_cases h1 : si.sum < sk.sum
    · have := nxt _ (yes (by simp [lessS, h1]))
      simpa [hdec, hlt, ei, ek, ri1, rk1, h1, isB_undef] using this
    · by_cases h2 : si.sum = sk.sum
      · by_cases h3 : si.id < sk.id
        · have := nxt _ (yes (by simp [lessS, h2, h3]))
          simpa [hdec, hlt, ei, ek, ri1, rk1, ri0, rk0, h2, h3, isB_undef] using this
        · have := nxt _ (no (by simp [lessS, h2]; omega))
          simpa [hdec, hlt, ei, ek, ri1, rk1, ri0, rk0, h2, h3, isB_undef] using this
      · have := nxt _ (no (by simp [lessS, h1, h2]))
        simpa [hdec, hlt, ei, ek, ri1, rk1, h1, h2, isB_undef] using this
  · have hdec : decide ((i : Int) < (l.length : Int)) = false := by simp; omega
    obtain rfl : i = l.length := by omega
    simp only [hdec, Bool.false_eq_true, if_false]
    exact hR k hF
end Go.Proofs.YtkiakofohkecaaaDoor
