/- The reference's lists of nodes with sums: is a node settled, what is in sight. No condition but that the lists are read in memory as told. -/
import Derived.Test.YtkiakofohkecaaaDoorE8
namespace Go.Proofs.YtkiakofohkecaaaDoor
open Go Go.Fw

structure Seen where
  id : Int
  sum : Int
def Seen.enc (s : Seen) : List Value := [.int .i64 s.id, .int .i64 s.sum]

theorem seen_read {h : Hp} {v : Value} {l : List Seen} (r : RowV h 2 v (l.map Seen.enc)) {j : Nat} (hj : j < l.length) :
    ∃ b o, idxE 2 v (.int .i64 (j : Int)) = some (.pointer (some ⟨b, o, none⟩)) ∧ ldS h (.pointer (some ⟨b, o, none⟩)) = some (.int .i64 l[j].id) ∧ ldS h (.pointer (some ⟨b, o + 1, none⟩)) = some (.int .i64 l[j].sum) := by
  obtain ⟨b, o, e, _, hr⟩ := r.get (i := j) (x := (l[j]).enc) (by simp [hj]) .i64
  have h0 := (hr h (Fr.refl _ _)).1
  exact ⟨b, o, e, by simpa [Seen.enc] using h0 0 (by omega), by simpa [Seen.enc] using h0 1 (by omega)⟩
theorem seen_len {h : Hp} {v : Value} {l : List Seen} (r : RowV h 2 v (l.map Seen.enc)) : lenE v = some (.int .i64 l.length) := by obtain ⟨a, cap, rfl, _⟩ := r; simp

/-- None before the place i is of this id. -/
def NInv (l : List Seen) (t : Int) (h : Hp) (vs : List Value) (h' : Hp) : Prop := ∃ i : Nat, vs = [.int .i64 i] ∧ i ≤ l.length ∧ (∀ s ∈ l.take i, s.id ≠ t) ∧ h' = h
theorem NInv.next {l : List Seen} {t : Int} {h : Hp} {i : Nat} (hi : i < l.length) (h1 : ∀ s ∈ l.take i, s.id ≠ t) (h2 : l[i].id ≠ t) : NInv l t h [.int .i64 ((i + 1 : Nat) : Int)] h := by
  refine ⟨i + 1, rfl, by omega, fun s hs => ?_, rfl⟩
  rw [List.take_add_one] at hs
  rcases List.mem_append.1 hs with hs | hs
  · exact h1 s hs
  · simp [hi] at hs
    subst hs
    exact h2

theorem settled_spec {h : Hp} {v : Value} {l : List Seen} (r : RowV h 2 v (l.map Seen.enc)) (t : Int) (hn : l.length ≤ 1099511627776) {R : Value → Hp → Prop} (hR : R (.bool (decide (∃ s ∈ l, s.id = t))) h) : CallsH Tryd.prog 73 #[v, .int .i64 t] h R := by
  refine f73.ok ?_
  unfold f73.T f73.L1
  refine ⟨NInv l t h, muI l.length, ⟨0, rfl, by omega, by simp, rfl⟩, ?_⟩
  intro t6 t7 t8 t9 t12 t13 t14 t15 t16 t17 t18 t4 t10 t11 t5 h1
  rintro ⟨i, hl, hi, hno, rfl⟩
  obtain rfl : t5 = .int .i64 i := by simpa using hl
  simp only [seen_len r, bin_lss, bnd_some, condT_bool]
  by_cases hlt : i < l.length
  · have hdec : decide ((i : Int) < (l.length : Int)) = true := by simp; omega
    have w1 : IntKind.i64.wrap ((i : Int) + 1) = ((i + 1 : Nat) : Int) := by rw [i64_id (by omega) (by omega)]; omega
    obtain ⟨b, o, e, r0, _⟩ := seen_read r hlt
    by_cases he : l[i].id = t
    · have hd : decide (∃ s ∈ l, s.id = t) = true := decide_eq_true ⟨l[i], by simp, he⟩
      rw [hd] at hR
      simpa [hdec, e, r0, he, hlt] using hR
    · have inv := NInv.next (h := h1) hlt hno he
      have mu := muI_lt h1 h1 hlt
      simp only [hdec, if_true, e, bnd_some, fldE_ptr, Nat.add_zero, r0, bin_eql, he, decide_false, condT_bool, Bool.false_eq_true, if_false, bin_add, w1]
      exact ⟨inv, mu⟩
  · have hdec : decide ((i : Int) < (l.length : Int)) = false := by simp; omega
    obtain rfl : i = l.length := by omega
    have hd : decide (∃ s ∈ l, s.id = t) = false := decide_eq_false fun ⟨s, hs, e⟩ => hno s (by rwa [List.take_length]) e
    rw [hd] at hR
    simpa [hdec] using hR
end Go.Proofs.YtkiakofohkecaaaDoor
