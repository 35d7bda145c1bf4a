/- What Push moves up. No condition but that the heap struct is as told. -/
import Derived.Test.YtkiakofohkecaaaDoorE2
namespace Go.Proofs.YtkiakofohkecaaaDoor
open Go Go.Fw

theorem fill_item (k t w : Int) : fillS [(0, 2), (2, 1)] #[(.int .i64 0), (.int .i64 0), (.int .i64 0)] [(0, .agg #[.int .i64 k, .int .i64 t]), (1, .int .i64 w)] = some #[.int .i64 k, .int .i64 t, .int .i64 w] := by kernel_rfl
theorem fill_one (k t w : Int) : fillR 3 #[(.int .i64 0), (.int .i64 0), (.int .i64 0)] [(0, .agg #[.int .i64 k, .int .i64 t, .int .i64 w])] = some #[.int .i64 k, .int .i64 t, .int .i64 w] := by kernel_rfl

theorem elem150 : ElemOk Tryd.prog 150 154 3 24 := .of (z := .agg #[.int .i64 0, .int .i64 0, .int .i64 0]) (by kernel_rfl) (by kernel_rfl) (by kernel_rfl)

def aheadL (lt : Item → Item → Bool) (l : List Item) (i j : Nat) : Bool := match l[i]?, l[j]? with | some a, some b => aheadB lt a b | _, _ => false

def siftUp (lt : Item → Item → Bool) (l : List Item) (i : Nat) : List Item :=
  if 0 < i ∧ aheadL lt l i ((i - 1) / 2) = true then siftUp lt (swp l i ((i - 1) / 2)) ((i - 1) / 2) else l
termination_by i
decreasing_by omega

theorem swp_len {α : Type} (l : List α) (i j : Nat) : (swp l i j).length = l.length := by unfold swp; split <;> simp

theorem wrap_id {n : Int} (h0 : -9223372036854775808 ≤ n) (h1 : n ≤ 9223372036854775807) : IntKind.i64.wrap n = n := IntWalk.i64_in n ⟨h0, h1⟩

theorem up_L1 {h0 : Hp} {p b cap : Nat} {less : Value} {its0 : List Item} {ck : Int} {L : List (Nat × Obj)} {lt : Item → Item → Bool} (ok : LessOk L less lt) (hL : Has h0 L) (hp : ∀ x ∈ L, x.1 ≠ b) (H : HeapAt h0 p less its0 ck b cap) {i0 : Nat} (hi0 : i0 < its0.length) (hlen : its0.length ≤ 4611686018427387904) {R : Value → Hp → Prop}
    (hR : ∀ h', HeapAt h' p less (siftUp lt its0 i0) ck b cap → Fr h0 h' [b] → R (.tuple #[]) h') : f69.L1 (.int .i64 i0) h0 (.pointer (some ⟨p, 0, none⟩)) R := by
  unfold f69.L1
  refine ⟨fun l h => ∃ (i : Nat) (its : List Item), l = [.int .i64 i] ∧ i < its.length ∧ its.length = its0.length ∧ HeapAt h p less its ck b cap ∧ Fr h0 h [b] ∧ siftUp lt its i = siftUp lt its0 i0,
    fun l _ => match l with | [.int _ n] => n.toNat | _ => 0, ⟨i0, its0, rfl, hi0, rfl, H, Fr.refl _ _, rfl⟩, ?_⟩
  intro t35 t36 t37 t38 t39 t40 t41 t42 t43 t44 t48 t49 t50 t51 t52 t53 t45 t46 t47 t4 h6
  rintro ⟨i, its, hl, hi, hl2, H, f, hs⟩
  obtain rfl : t4 = .int .i64 i := by simpa using hl
  by_cases hpos : 0 < i
  · have w1 : IntKind.i64.wrap ((i : Int) - 1) = ((i - 1 : Nat) : Int) := by rw [wrap_id (by omega) (by omega)]; omega
    have w2 : IntKind.i64.wrap (((i - 1 : Nat) : Int).tdiv 2) = (((i - 1) / 2 : Nat) : Int) := by
      rw [Int.tdiv_eq_ediv_of_nonneg (by omega), wrap_id (by omega) (by omega)]; omega
    have hj : (i - 1) / 2 < its.length := by omega
    have hgt : decide ((i : Int) > 0) = true := by simp; omega
    simp only [bin_gtr, bnd_some, hgt, isB_bool, beq_self_eq_true, cond_true, bin_sub, w1, bin_quo, asB_bool, Option.map_some, guardT_true]
    simp only [show ¬ (2 : Int) = 0 by omega, if_false, bnd_some, w2]
    refine (ahead_spec H ok (hL.fr f (fun x hx => by simp [hp x hx])) hi hj).mono ?_
    rintro v h7 ⟨rfl, f7⟩
    have H7 : HeapAt h7 p less its ck b cap := ⟨f7.get H.top (by simp), H.row.fr f7 (by simp), H.ne⟩
    have hal : aheadL lt its i ((i - 1) / 2) = aheadB lt its[i] its[(i - 1) / 2] := by simp [aheadL, hi, hj]
    cases ha : aheadB lt its[i] its[(i - 1) / 2]
    · simp
      refine hR h7 ?_ (f.then (f7.mono (by simp)))
      rw [← hs, siftUp, if_neg (by simp [hal, ha])]
      exact H7
    · simp
      refine (swap_spec H7 hi hj).mono ?_
      rintro v h8 ⟨H8, f8, _⟩
      refine ⟨⟨(i - 1) / 2, by omega, swp its i ((i - 1) / 2), by rw [swp_len]; exact hj, by rw [swp_len]; exact hl2, H8, (f.then (f7.mono (by simp))).then f8, ?_⟩, by omega⟩
      rw [← hs, siftUp.eq_1 lt its i, if_pos ⟨hpos, by rw [hal]; exact ha⟩]
  · obtain rfl : i = 0 := by omega
    simp
    refine hR h6 ?_ f
    rw [← hs, siftUp, if_neg (by simp)]
    exact H
end Go.Proofs.YtkiakofohkecaaaDoor
