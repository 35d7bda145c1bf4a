/- Pop: the first thing is taken out, the last put in its place and moved down. No condition but that the heap's struct is as told. -/
import Derived.Test.YtkiakofohkecaaaDoorE4
namespace Go.Proofs.YtkiakofohkecaaaDoor
open Go Go.Fw

def best (lt : Item → Item → Bool) (l : List Item) (i j : Nat) : Nat := if j < l.length ∧ aheadL lt l j i = true then j else i
theorem best_lt {lt : Item → Item → Bool} {l : List Item} {i j : Nat} (h : i < l.length) : best lt l i j < l.length := by unfold best; split; omega; exact h
theorem best_or (lt : Item → Item → Bool) (l : List Item) (i j : Nat) : best lt l i j = i ∨ (best lt l i j = j ∧ j < l.length) := by unfold best; split; exact .inr ⟨rfl, by omega⟩; exact .inl rfl
def pick (lt : Item → Item → Bool) (l : List Item) (i : Nat) : Nat := best lt l (best lt l i (2 * i + 1)) (2 * i + 2)
theorem pick_or (lt : Item → Item → Bool) (l : List Item) (i : Nat) : pick lt l i = i ∨ (i < pick lt l i ∧ pick lt l i < l.length) := by
  unfold pick
  rcases best_or lt l (best lt l i (2 * i + 1)) (2 * i + 2) with h | ⟨h, h'⟩
  · rw [h]
    rcases best_or lt l i (2 * i + 1) with h | ⟨h, h'⟩
    · exact .inl h
    · right; omega
  · right; omega
def siftDown (lt : Item → Item → Bool) (l : List Item) (i : Nat) : List Item :=
  if _h : pick lt l i = i then l else siftDown lt (swp l i (pick lt l i)) (pick lt l i)
termination_by l.length - i
decreasing_by
  rcases pick_or lt l i with h' | h'
  · contradiction
  · rw [swp_len]; omega

theorem len_spec {h : Hp} {p : Nat} {less : Value} {its : List Item} {ck : Int} {bl : List Nat} (H : HeapE h p less its ck bl) {R : Value → Hp → Prop} (hR : R (.int .i64 its.length) h) : CallsH Tryd.prog 83 #[.pointer (some ⟨p, 0, none⟩)] h R := by
  refine f83.ok ?_
  unfold f83.T
  rcases H with ⟨rfl, rfl, top⟩ | ⟨b, cap, rfl, H⟩
  · simpa [ldS_at top] using hR
  · simpa [ldS_at H.top] using hR

theorem fill_two (a b : Int) : (fillR 1 #[(.int .i64 0), (.int .i64 0)] [(0, .int .i64 a), (1, .int .i64 b)]).map Value.agg = some (.agg #[.int .i64 a, .int .i64 b]) := by kernel_rfl

theorem down_L1 {h0 : Hp} {p b cap q2 q6 : Nat} {less : Value} {its0 : List Item} {ck : Int} {L : List (Nat × Obj)} {lt : Item → Item → Bool} (ok : LessOk L less lt) (hL : Has h0 L) (hp : ∀ x ∈ L, x.1 ≠ b) (H : HeapAt h0 p less its0 ck b cap) (hlen : its0.length < 1099511627776)
    {x y : Value} {k t : Int} (g2 : h0[q2]? = some (.cells #[x, y] 134 (0, 0))) (g6 : h0[q6]? = some (.cells #[.int .i64 k, .int .i64 t] 134 (0, 0))) (n2 : q2 ≠ b) (n6 : q6 ≠ b) (np : q2 ≠ p) {R : Value → Hp → Prop}
    (hR : ∀ h', HeapAt h' p less (siftDown lt its0 0) ck b cap → Fr h0 h' [b, q2] → R (.tuple #[.agg #[.int .i64 k, .int .i64 t], .bool true]) h') :
    f70.L1 h0 (.int .i64 its0.length) (.pointer (some ⟨p, 0, none⟩)) (.pointer (some ⟨q6, 0, none⟩)) (.pointer (some ⟨q2, 0, none⟩)) R := by
  unfold f70.L1
  refine ⟨fun l h => ∃ (i : Nat) (its : List Item), l = [.int .i64 i] ∧ (i = 0 ∨ i < its.length) ∧ its.length = its0.length ∧ HeapAt h p less its ck b cap ∧ Fr h0 h [b] ∧ siftDown lt its i = siftDown lt its0 0,
    fun l _ => match l with | [.int _ n] => its0.length - n.toNat | _ => 0, ⟨0, its0, rfl, .inl rfl, rfl, H, Fr.refl _ _, rfl⟩, ?_⟩
  intro t47 t48 t49 t50 t51 t52 t53 t54 t56 t57 t10 t58 t59 t60 t61 t62 t63 t64 t65 t66 t67 t8 t68 t55 t69 t70 t71 t72 t3 t73 t74 t75 t76 t77 t7 h10
  rintro ⟨i, its, hl, hi, hl2, H1, f, hs⟩
  obtain rfl : t7 = .int .i64 i := by simpa using hl
  have w1 : IntKind.i64.wrap (2 * (i : Int)) = ((2 * i : Nat) : Int) := by rw [wrap_id (by omega) (by omega)]; omega
  have w2 : IntKind.i64.wrap (((2 * i : Nat) : Int) + 1) = ((2 * i + 1 : Nat) : Int) := by rw [wrap_id (by omega) (by omega)]; omega
  have w3 : IntKind.i64.wrap (((2 * i : Nat) : Int) + 2) = ((2 * i + 2 : Nat) : Int) := by rw [wrap_id (by omega) (by omega)]; omega
  simp only [bin_mul, bnd_some, w1, bin_add, w2, w3, fill_two]
  unfold f70.L2
  refine ⟨fun l h => ∃ (fi k : Nat), l = [.int .i64 fi, .int .i64 k] ∧ HeapAt h p less its ck b cap ∧ Fr h10 h [] ∧ ((k = 0 ∧ fi = i) ∨ (k = 1 ∧ fi = best lt its i (2 * i + 1)) ∨ (k = 2 ∧ fi = pick lt its i)),
    fun l _ => match l with | [_, .int _ n] => 2 - n.toNat | _ => 0, ⟨i, 0, rfl, H1, Fr.refl _ _, .inl ⟨rfl, rfl⟩⟩, ?_⟩
  intro t56 t57 t10 t58 t59 t60 t61 t62 t63 t64 t65 t66 t67 t8 t68 t55 h11
  rintro ⟨fi, kk, hl', H2, f2, hk⟩
  obtain ⟨rfl, rfl⟩ : t8 = .int .i64 fi ∧ t55 = .int .i64 kk := by simpa using hl'
  have hL2 : Has h11 L := (hL.fr f (by simpa using hp)).fr f2 (by simp)
  by_cases h2 : kk = 2
  · -- the end of the inner loop
    obtain rfl : fi = pick lt its i := by omega
    subst h2
    by_cases he : pick lt its i = i
    · have hsd : siftDown lt its i = its := by rw [siftDown, dif_pos he]
      have g6' := f2.get (f.get g6 (by simpa using n6)) (by simp)
      have g2' := f2.get (f.get g2 (by simpa using n2)) (by simp)
      have e1 : stE 2 h11 (.pointer (some ⟨q2, 0, none⟩)) (.agg #[.int .i64 k, .int .i64 t]) = some (h11.setIfInBounds q2 (.cells #[.int .i64 k, .int .i64 t] 134 (0, 0))) := by
        rw [stE_at _ g2']; simp [splice]
      have g2'' := get_set (o' := .cells #[.int .i64 k, .int .i64 t] 134 (0, 0)) g2'
      have f3 : Fr h11 _ [b, q2] := Fr.set h11 q2 (.cells #[.int .i64 k, .int .i64 t] 134 (0, 0)) (fun _ => by simp) (by rw [g2']; rfl)
      have f3' : Fr h11 _ [q2] := Fr.set h11 q2 (.cells #[.int .i64 k, .int .i64 t] 134 (0, 0)) (fun _ => by simp) (by rw [g2']; rfl)
      have lt0 := lt_of_get g2'
      simp [he, ldA_at g6', e1, ldA_at g2'']
      refine hR _ ?_ (((f.mono (fun c _ hm => by simp at hm ⊢; exact .inl hm)).then (f2.mono (by simp))).then f3)
      rw [← hs, hsd]
      exact ⟨f3'.get H2.top (by simpa using np.symm), H2.row.fr f3' (by simpa using n2.symm), H2.ne⟩
    · have hpk : i < pick lt its i ∧ pick lt its i < its.length := (pick_or lt its i).resolve_left he
      have he' : ¬ ((pick lt its i : Nat) : Int) = (i : Int) := by omega
      simp [he']
      refine (swap_spec H2 (i := i) (j := pick lt its i) (by omega) hpk.2).mono ?_
      rintro v h3 ⟨H3, f3, _⟩
      refine ⟨⟨pick lt its i, rfl, _, .inr (by rw [swp_len]; exact hpk.2), by rw [swp_len]; exact hl2, H3, (f.then (f2.mono (by simp))).then f3, ?_⟩, by omega⟩
      rw [← hs, siftDown.eq_1 lt its i, dif_neg he]
  · -- one of the two below
    obtain ⟨j, hj, hb⟩ : ∃ j : Nat, (kk = 0 ∧ j = 2 * i + 1 ∧ fi = i ∨ kk = 1 ∧ j = 2 * i + 2 ∧ fi = best lt its i (2 * i + 1)) ∧ True := by
      rcases hk with ⟨rfl, rfl⟩ | ⟨rfl, rfl⟩ | ⟨rfl, rfl⟩
      · exact ⟨2 * fi + 1, .inl ⟨rfl, rfl, rfl⟩, trivial⟩
      · exact ⟨2 * i + 2, .inr ⟨rfl, rfl, rfl⟩, trivial⟩
      · exact absurd rfl h2
    have hkk : kk = 0 ∨ kk = 1 := by omega
    have hidx : idxV none 2 1 (.agg #[.int .i64 ((2 * i + 1 : Nat) : Int), .int .i64 ((2 * i + 2 : Nat) : Int)]) (.int .i64 (kk : Int)) = some (.int .i64 (j : Int)) := by
      rcases hj with ⟨rfl, rfl, _⟩ | ⟨rfl, rfl, _⟩ <;> simp
    have w4 : IntKind.i64.wrap ((kk : Int) + 1) = ((kk + 1 : Nat) : Int) := by rw [wrap_id (by omega) (by omega)]; omega
    have hlt2 : decide ((kk : Int) < 2) = true := by simp; omega
    have next : ∀ {h12 : Hp} (m : Nat), m = best lt its fi j → HeapAt h12 p less its ck b cap → Fr h11 h12 [] →
        f70.J1 (.int .i64 kk) (fun l h => ∃ (fi k : Nat), l = [.int .i64 fi, .int .i64 k] ∧ HeapAt h p less its ck b cap ∧ Fr h10 h [] ∧ ((k = 0 ∧ fi = i) ∨ (k = 1 ∧ fi = best lt its i (2 * i + 1)) ∨ (k = 2 ∧ fi = pick lt its i))) (.int .i64 m) h12
          (fun l _ => match l with | [_, .int _ n] => 2 - n.toNat | _ => 0) (.int .i64 fi) h11 := fun {h12} m hm H12 f12 => by
      unfold f70.J1
      simp only [bin_add, bnd_some, w4]
      refine ⟨⟨m, kk + 1, rfl, H12, f2.then f12, ?_⟩, by simp; omega⟩
      rcases hj with ⟨rfl, rfl, rfl⟩ | ⟨rfl, rfl, rfl⟩
      · exact .inr (.inl ⟨rfl, hm⟩)
      · exact .inr (.inr ⟨rfl, hm⟩)
    simp only [bin_lss, bnd_some, condT_bool, hlt2, if_true, hidx]
    by_cases hjl : j < its.length
    · have hjl' : decide ((j : Int) < (its0.length : Int)) = true := by simp; omega
      have hfi : fi < its.length := by
        rcases hj with ⟨rfl, rfl, rfl⟩ | ⟨rfl, rfl, rfl⟩
        · omega
        · exact best_lt (by omega)
      simp only [hjl', isB_bool, beq_self_eq_true, guardT_true, cond_true, asB_bool, Option.map_some, bnd_some]
      refine (ahead_spec H2 ok hL2 hjl hfi).mono ?_
      rintro v h12 ⟨rfl, f12⟩
      have H12 : HeapAt h12 p less its ck b cap := ⟨f12.get H2.top (by simp), H2.row.fr f12 (by simp), H2.ne⟩
      have hal : aheadL lt its j fi = aheadB lt its[j] its[fi] := by simp [aheadL, hjl, hfi]
      cases ha : aheadB lt its[j] its[fi]
      · simp only [bnd_some, condT_bool, Bool.false_eq_true, if_false]
        exact next fi (by rw [best, if_neg (by simp [hal, ha])]) H12 f12
      · simp only [bnd_some, condT_bool, if_true]
        exact next j (by rw [best, if_pos ⟨hjl, by rw [hal]; exact ha⟩]) H12 f12
    · have hjl' : decide ((j : Int) < (its0.length : Int)) = false := by simp; omega
      simp only [hjl', isB_bool, guardT_false, cond_false, asB_bool, Option.map_some, bnd_some, condT_bool, Bool.false_eq_true, if_false, show (false == true) = false from rfl]
      exact next fi (by rw [best, if_neg (by omega)]) H2 (Fr.refl _ _)
end Go.Proofs.YtkiakofohkecaaaDoor
