/- pathsFirst: the place of the first thing that no other goes before. Condition: the list is read in memory as told. -/
import Derived.Test.YtkiakofohkecaaaHx10
import Derived.Test.YtkiakofohkecaaaFw16
namespace Go.Proofs.Ytkiakofohkecaaa
open Go Go.Fw

def Item.enc2 (x : Item) : List Value := [.int .i64 x.key, .int .i64 x.tag]
def ltSide (down : Bool) (a b : Item) : Bool := if down then ltDown a b else ltUp a b

/-- k is the first of the things before n that none of these goes before; -1: there is none. -/
def FirstTo (down : Bool) (ws : List Item) (n : Nat) (k : Int) : Prop :=
  (n = 0 ∧ k = -1) ∨ ∃ m : Nat, k = m ∧ m < n ∧ (∀ j, j < n → ltSide down (nth ws j) (nth ws m) = false) ∧ ∀ j, j < m → ltSide down (nth ws m) (nth ws j) = true

def FInv (down : Bool) (ws : List Item) (h : Hp) (l : List Value) (h' : Hp) : Prop := ∃ (k : Int) (i : Nat), l = [.int .i64 k, .int .i64 i] ∧ i ≤ ws.length ∧ FirstTo down ws i k ∧ h' = h
def muF (n : Nat) (l : List Value) (_ : Hp) : Nat := match l with | [_, .int _ m] => n - m.toNat | _ => 0

theorem first_spec {h : Hp} {v : Value} {ws : List Item} (r : RowV h 2 v (ws.map Item.enc2)) (down : Bool) (hn : ws.length ≤ 1099511627776) {R : Value → Hp → Prop} (hR : ∀ k, FirstTo down ws ws.length k → R (.int .i64 k) h) :
    CallsH Try.prog 11 #[v, .bool down] h R := by
  have hlen : lenE v = some (.int .i64 ws.length) := by obtain ⟨a, cap, rfl, _⟩ := r; simp
  have rd : ∀ j : Nat, j < ws.length → ∃ b o, idxE 2 v (.int .i64 (j : Int)) = some (.pointer (some ⟨b, o, none⟩)) ∧ ldS h (.pointer (some ⟨b, o, none⟩)) = some (.int .i64 (nth ws j).key) := fun j hj => by
    obtain ⟨b, o, e, _, hr⟩ := r.get (i := j) (x := (ws[j]).enc2) (by simp [hj]) .i64
    exact ⟨b, o, e, by rw [nth_get hj]; simpa [Item.enc2] using (hr h (Fr.refl _ _)).1 0 (by omega)⟩
  refine f11.ok ?_
  unfold f11.T f11.L1
  refine ⟨FInv down ws h, muF ws.length, ⟨-1, 0, rfl, by omega, .inl ⟨rfl, rfl⟩, rfl⟩, ?_⟩
  intro t7 t8 t9 t10 t13 t14 t15 t16 t17 t18 t19 t20 t21 t22 t23 t24 t25 t26 t27 t28 t29 t30 t31 t32 t33 t34 t35 t36 t37 t38 t39 t40 t41 t42 t43 t44 t45 t46 t47 t48 t5 t11 t12 t6 h1
  rintro ⟨k, i, hl, hi, hF, rfl⟩
  obtain ⟨rfl, rfl⟩ : t5 = .int .i64 k ∧ t6 = .int .i64 i := by simpa using hl
  simp only [hlen, bin_lss, bnd_some, condT_bool]
  by_cases hlt : i < ws.length
  · have hdec : decide ((i : Int) < (ws.length : Int)) = true := by simp; omega
    have w1 : IntKind.i64.wrap ((i : Int) + 1) = ((i + 1 : Nat) : Int) := by rw [wrap_id (by omega) (by omega)]; omega
    have nxt : ∀ k', FirstTo down ws (i + 1) k' → f11.J1 (.int .i64 (i : Int)) (FInv down ws h1) (.int .i64 k') h1 (muF ws.length) (.int .i64 k) h1 := fun k' hF' => by
      unfold f11.J1
      simp only [bin_add, bnd_some, w1]
      exact ⟨⟨k', i + 1, rfl, by omega, hF', rfl⟩, by simp only [muF, Int.toNat_natCast]; omega⟩
    simp only [hdec, if_true]
    obtain ⟨bi, oi, ei, ri⟩ := rd i hlt
    rcases hF with ⟨rfl, rfl⟩ | ⟨m, rfl, hm, hmin, hst⟩
    · have n0 : FirstTo down ws (0 + 1) ((0 : Nat) : Int) := by
        refine .inr ⟨0, rfl, by omega, fun j hj => ?_, fun j hj => by omega⟩
        obtain rfl : j = 0 := by omega
        cases down <;> simp [ltSide, ltUp, ltDown]
      have := nxt _ n0
      cases down <;> simpa [isB_undef] using this
    · obtain ⟨bm, om, em, rm⟩ := rd m (by omega)
      have hneg : ¬ ((m : Int) < 0) := by omega
      by_cases hb : ltSide down (nth ws i) (nth ws m) = true
      · have nF : FirstTo down ws (i + 1) ((i : Nat) : Int) := by
          refine .inr ⟨i, rfl, by omega, fun j hj => ?_, fun j hj => ?_⟩
          · by_cases e : j = i
            · subst e; cases down <;> simp [ltSide, ltUp, ltDown]
            · have := hmin j (by omega)
              cases down <;> simp [ltSide, ltUp, ltDown] at hb this ⊢ <;> omega
          · have := hmin j (by omega)
            cases down <;> simp [ltSide, ltUp, ltDown] at hb this ⊢ <;> omega
        have := nxt _ nF
        cases down <;> simp [ltSide, ltUp, ltDown] at hb <;> simpa [isB_undef, hneg, ei, ri, em, rm, hb] using this
      · have nF : FirstTo down ws (i + 1) ((m : Nat) : Int) := by
          refine .inr ⟨m, rfl, by omega, fun j hj => ?_, hst⟩
          by_cases e : j = i
          · subst e; simpa using hb
          · exact hmin j (by omega)
        have := nxt _ nF
        cases down <;> simp [ltSide, ltUp, ltDown] at hb <;> simpa [isB_undef, hneg, ei, ri, em, rm, show ¬ (nth ws i).key < (nth ws m).key ∨ True from .inr trivial, Int.not_lt.2 hb] using this
  · have hdec : decide ((i : Int) < (ws.length : Int)) = false := by simp; omega
    obtain rfl : i = ws.length := by omega
    simp only [hdec, Bool.false_eq_true, if_false]
    exact hR k hF
end Go.Proofs.Ytkiakofohkecaaa
