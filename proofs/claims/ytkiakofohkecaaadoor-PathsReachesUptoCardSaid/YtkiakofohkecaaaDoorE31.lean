/- pathsApart, whole. No condition but that the memory is as told. -/
import Derived.Test.YtkiakofohkecaaaDoorE30
namespace Go.Proofs.YtkiakofohkecaaaDoor
open Go Go.Fw

theorem ints_len' (l : List Int) : (ints l).length = l.length := by simp [ints]
theorem row_front {h : Hp} {b cap : Nat} {l ys : List Int} (r : RowAt h 2 1 b cap (ints (l ++ ys))) : RowAt h 2 1 b cap (ints l) := by
  have := r.take l.length
  rwa [ints_app, List.take_left' (ints_len' l)] at this
/-- What is behind a list's own end is written: the list reads as it did. -/
theorem held_grow {h h' : Hp} {q : Nat} {its : List It} {f : Nat → It → List Int} (H : Held h its f) (A : Apart h q its) {i : Nat} {it : It} (hi : its[i]? = some it) {b cap : Nat} {ys : List Int} (F : Fr h h' [b]) (r : RowAt h' 2 1 b cap (ints (f i it ++ ys)))
    (hb : it.bl = [b] ∧ (∃ n, it.v = .slice (some ⟨b, 0, none⟩) n cap) ∨ b ∉ allB its) : Held h' its f := by
  rcases hb with ⟨hb, n, hv⟩ | hb
  · have ow := H i it hi
    have hn : n = (f i it).length := by
      rcases ow with ⟨e, _, _⟩ | ⟨b', cap', e, _, _⟩
      · rw [hv] at e; cases e
      · rw [hv] at e; simp only [Value.slice.injEq] at e; rw [e.2.1, ints_len']
    have o' : OwnS h' 2 1 it.v (ints (f i it)) it.bl := .inr ⟨b, cap, by rw [hv, hn, ints_len'], row_front r, hb⟩
    rw [← hb] at F
    exact (H.one A hi F o').eq fun j jt hj => by
      by_cases e : j = i
      · subst e; obtain rfl := Option.some.inj (hi.symm.trans hj); simp
      · simp [e]
  · exact H.fr F fun jt hj b' hb' hm => by simp at hm; subst hm; exact hb (mem_all hj hb')

theorem apart_L4 {h h4 : Hp} {q : Nat} {its : List It} {i : Nat} {it : It} (hi : its[i]? = some it) (A : Apart h4 q its) (H : Held h4 its (fun j it => marks j it.xs.length)) (F : Fr h h4 (allB its)) (hq : ∀ b ∈ allB its, b < h.size) {I3 : List Value → Hp → Prop} {μ3 : List Value → Hp → Nat}
    (hI : ∀ h2, P3 h q its [.int .i64 ((i + 1 : Nat) : Int)] h2 → I3 [.int .i64 ((i + 1 : Nat) : Int)] h2 ∧ μ3 [.int .i64 ((i + 1 : Nat) : Int)] h2 < μ3 [.int .i64 (i : Int)] h4) : f25.L4 it.v h4 (.int .i64 (i : Int)) I3 μ3 := by
  have hlt := (List.getElem?_eq_some_iff.1 hi).1
  have hn := A.len
  have hx := A.each it (List.mem_of_getElem? hi)
  have hmem := List.mem_of_getElem? hi
  have lt4 := H.lt
  have hql : q < h4.size := A.row.lt
  unfold f25.L4
  refine ⟨P4 h h4 q its i, muF 64, ⟨0, it.v, it, rfl, by omega, hi, A, H, F, Nat.le_refl _, .inl ⟨rfl, rfl⟩⟩, ?_⟩
  intro t46_1 t47_1 t50_1 t51_1 t52_1 t6_1 t48_1 t49_1 t7_1 h5
  rintro ⟨k, u, it', hv, hk, hi', A5, H5, F5, hs5, hu⟩
  obtain rfl := Option.some.inj (hi.symm.trans hi')
  obtain ⟨rfl, rfl⟩ : t6_1 = u ∧ t7_1 = .int .i64 k := by simpa using hv
  have hall : ∀ b, h4.size ≤ b → b ∉ allB its := fun b hb hm => by have := lt4 b hm; omega
  have nq : ∀ b, it.bl = [b] ∨ h4.size ≤ b → q ≠ b := fun b hb e => by
    subst e
    rcases hb with hb | hb
    · exact A5.out (mem_all hmem (by rw [hb]; simp))
    · omega
  simp only [bin_lss, bnd_some, condT_bool]
  by_cases hkl : k < 64
  · have hdec : decide ((k : Int) < 64) = true := by simp; omega
    simp only [hdec, if_true, fill_int, bnd_some, nw_eq]
    have f6 := Fr.push h5 (.cells #[.int .i64 (-7)] 2 (0, 0)) []
    have g6 := get_new h5 (.cells #[.int .i64 (-7)] 2 (0, 0))
    generalize h5.push (.cells #[.int .i64 (-7)] 2 (0, 0)) = h6 at *
    have f6s := f6.size
    have H6 := H5.fr f6 (by simp)
    have A6 := A5.fr f6 (by simp)
    -- the next turn, whatever the append did
    have nxt : ∀ (h7 : Hp) (b cap : Nat) (ys : List Int), RowAt h7 2 1 b cap (ints (marks i it.xs.length ++ ys)) → Fr h6 h7 [b] → ys.length = k + 1 → (it.bl = [b] ∧ (∃ n, it.v = .slice (some ⟨b, 0, none⟩) n cap) ∨ h4.size ≤ b) →
        bnd (binE .add (.int .i64 (k : Int)) (.int .i64 1)) fun t49_2 => P4 h h4 q its i [.slice (some ⟨b, 0, none⟩) (ints (marks i it.xs.length ++ ys)).length cap, t49_2] h7 ∧ muF 64 [.slice (some ⟨b, 0, none⟩) (ints (marks i it.xs.length ++ ys)).length cap, t49_2] h7 < muF 64 [t6_1, .int .i64 (k : Int)] h5 := by
      intro h7 b cap ys r7 f7 hy hb
      simp only [bin_add, bnd_some, w_suc (show k ≤ 1048576 by omega)]
      have f7s := f7.size
      refine ⟨⟨k + 1, _, it, rfl, by omega, hi, A6.fr f7 (by simp; exact nq b (hb.imp_left And.left)), held_grow H6 A6 hi f7 r7 (hb.imp_right fun h => hall b h), F5.trans (f6.trans f7 (S := [b]) (by simp) (fun _ _ h => h)) (fun _ _ h => h) (fun c hc hm => ?_), by omega, .inr ⟨by omega, b, cap, ys, rfl, hy, r7, hb⟩⟩, by simp only [muF, Int.toNat_natCast]; omega⟩
      simp only [List.mem_singleton] at hm
      subst hm
      rcases hb with ⟨hb, _⟩ | hb
      · exact mem_all hmem (by rw [hb]; simp)
      · have := F.size; omega
    rcases hu with ⟨rfl, rfl⟩ | ⟨h0, b, cap, ys, rfl, hy, r5, hb⟩
    · refine own_app2 elem28 (H6 i it hi) (seg_one g6) (by simp) (by simp) (by simp [ints, marks_len]; omega) (by simp [ints, marks_len]; omega) fun h7 b cap r7 f7 hb => ?_
      have e7 : ints (marks i it.xs.length) ++ [[.int .i64 (-7)]] = ints (marks i it.xs.length ++ [-7]) := by simp [ints]
      rw [e7] at r7 ⊢
      have f7' : Fr h6 h7 [b] := by
        rcases hb with ⟨hb, _⟩ | ⟨_, hb⟩
        · rwa [hb] at f7
        · exact hb.mono (by simp)
      exact nxt h7 b cap [-7] r7 f7' (by simp) (hb.imp_right fun h => by omega)
    · have r6 := r5.fr f6 (by simp)
      refine append_row2 elem28 r6 (seg_one g6) (by simp) (by simp [ints, marks_len]; omega) (by simp [ints, marks_len]; omega) fun h7 b' cap' r7 f7 hb' => ?_
      have e7 : ints (marks i it.xs.length ++ ys) ++ [[.int .i64 (-7)]] = ints (marks i it.xs.length ++ (ys ++ [-7])) := by simp [ints]
      rw [e7] at r7 ⊢
      rcases hb' with ⟨rfl, rfl⟩ | ⟨hb', f7'⟩
      · exact nxt h7 b' cap' (ys ++ [-7]) r7 f7 (by simp; omega) hb
      · exact nxt h7 b' cap' (ys ++ [-7]) r7 (f7'.mono (by simp)) (by simp; omega) (.inr (by omega))
  · have hdec : decide ((k : Int) < 64) = false := by simp; omega
    obtain rfl : k = 64 := by omega
    rcases hu with ⟨h0, _⟩ | ⟨_, b, cap, ys, rfl, hy, r5, hb⟩
    · omega
    · have hln : (ints (marks i it.xs.length ++ ys)).length = it.xs.length + 64 := by simp [ints, marks_len, hy]
      have w1 : IntKind.i64.wrap (((ints (marks i it.xs.length ++ ys)).length : Int) - 1) = ((it.xs.length + 63 : Nat) : Int) := by rw [hln, i64_id (by omega) (by omega)]; omega
      have hget : (marks i it.xs.length ++ ys)[it.xs.length + 63]? = some (ys[63]'(by omega)) := by
        rw [List.getElem?_append_right (by rw [marks_len]; omega), marks_len]
        have : it.xs.length + 63 - it.xs.length = 63 := by omega
        rw [this]; simp
      obtain ⟨h6, s6, r6, f6, _⟩ := r5.put (i := it.xs.length + 63) (o := 0) (x := [.int .i64 (ys[63]'(by omega))]) (vs := [.int .i64 (-8)]) (v := .int .i64 (-8)) (by simp only [ints, List.getElem?_map, hget]; rfl) (by simp) (by simp) (by simp)
      have s6' : stE 1 h5 (.pointer (some ⟨b, 0 + ((it.xs.length + 63 : Nat) : Int).toNat * 1, none⟩)) (.int .i64 (-8)) = some h6 := by
        have e : 0 + ((it.xs.length + 63 : Nat) : Int).toNat * 1 = (it.xs.length + 63) * 1 + 0 := by rw [Int.toNat_natCast]; omega
        rw [e]; exact s6
      have hlt2 : (0 ≤ ((it.xs.length + 63 : Nat) : Int) ∧ ((it.xs.length + 63 : Nat) : Int) < ((ints (marks i it.xs.length ++ ys)).length : Int)) := by rw [hln]; omega
      simp only [hdec, Bool.false_eq_true, if_false, lenE_sl, bnd_some, bin_sub, w1, idxE_sl, if_pos hlt2, s6', bin_add, w_suc (show i ≤ 1048576 by omega)]
      have er : (ints (marks i it.xs.length ++ ys)).set (it.xs.length + 63) [.int .i64 (-8)] = ints (marks i it.xs.length ++ ys.set 63 (-8)) := by
        rw [ints_set, List.set_append_right _ _ (by rw [marks_len]; omega), marks_len]
        have : it.xs.length + 63 - it.xs.length = 63 := by omega
        rw [this]
      have r6' : RowAt h6 2 1 b cap (ints (marks i it.xs.length ++ ys.set 63 (-8))) := by
        rw [← er]
        simpa using r6
      refine hI h6 ⟨i + 1, rfl, by omega, A5.fr f6 (by simp; exact nq b (hb.imp_left And.left)), held_grow H5 A5 hi f6 r6' (hb.imp_right fun h => hall b h), F5.trans f6 (fun _ _ h => h) fun c hc hm => ?_⟩
      simp only [List.mem_singleton] at hm
      subst hm
      rcases hb with ⟨hb, _⟩ | hb
      · exact mem_all hmem (by rw [hb]; simp)
      · have := F.size; omega

theorem apart_spec {h : Hp} {q : Nat} {its : List It} {cap : Nat} (A : Apart h q its) (H : Held h its fun _ it => it.xs) {R : Value → Hp → Prop} (hR : ∀ h', Fr h h' (allB its) → R (.bool true) h') : CallsH Tryd.prog 25 #[.slice (some ⟨q, 0, none⟩) its.length cap] h R := by
  have hq := H.lt
  have hn := A.len
  refine f25.ok ?_
  unfold f25.T f25.L1
  refine ⟨P1 h q its, muI its.length, ⟨0, rfl, by omega, A, by simpa using H, Fr.refl _ _⟩, ?_⟩
  intro t10 t11 t12 t13 t16 t17 t18 t19 t20 t21 t22 t25 t26 t27 t28 t29 t30 t31 t32 t33 t34 t35 t23 t24 t4 t14 t15 t3 h1
  rintro ⟨i, hv, hi, A1, H1, F1⟩
  obtain rfl : t3 = .int .i64 i := by simpa using hv
  simp only [lenE_sl, bnd_some, bin_lss, condT_bool]
  by_cases hlt : i < its.length
  · have hdec : decide ((i : Int) < (its.length : Int)) = true := by simp; omega
    simp only [hdec, if_true]
    exact apart_L2 (it := its[i]) (by simp [hlt]) A1 H1 F1 fun h2 p => ⟨p, muI_lt _ _ hlt⟩
  · have hdec : decide ((i : Int) < (its.length : Int)) = false := by simp; omega
    obtain rfl : i = its.length := by omega
    simp only [hdec, Bool.false_eq_true, if_false]
    have H1' : Held h1 its (fun j it => marks j it.xs.length) := H1.eq fun j it hj => by
      have := (List.getElem?_eq_some_iff.1 hj).1
      simp [this]
    unfold f25.L3
    refine ⟨P3 h q its, muI its.length, ⟨0, rfl, by omega, A1, H1', F1⟩, ?_⟩
    intro t36 t37 t38 t39 t42 t43 t44 t45 t46 t47 t50 t51 t52 t6 t48 t49 t7 t53 t54 t55 t56 t57 t40 t41 t5 h4
    rintro ⟨i, hv, hi, A4, H4, F4⟩
    obtain rfl : t5 = .int .i64 i := by simpa using hv
    simp only [lenE_sl, bnd_some, bin_lss, condT_bool]
    by_cases hlt : i < its.length
    · have hdec : decide ((i : Int) < (its.length : Int)) = true := by simp; omega
      obtain ⟨o, e1, r1⟩ := A4.read (cap := cap) (i := i) (it := its[i]) (by simp [hlt])
      simp only [hdec, if_true, e1, r1, bnd_some]
      exact apart_L4 (by simp [hlt]) A4 H4 F4 hq fun h2 p => ⟨p, muI_lt _ _ hlt⟩
    · have hdec : decide ((i : Int) < (its.length : Int)) = false := by simp; omega
      simp only [hdec, Bool.false_eq_true, if_false]
      exact apart_L5 A4 H4 (hR h4 F4)
end Go.Proofs.YtkiakofohkecaaaDoor
