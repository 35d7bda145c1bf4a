/- pathsApart: lists, each of its own, written full and grown, do not touch each other. No condition but that the memory is as told. -/
import Derived.Test.YtkiakofohkecaaaDoorE26
import Derived.Test.YtkiakofohkecaaaDoorFw20
namespace Go.Proofs.YtkiakofohkecaaaDoor
open Go Go.Fw

structure It where
  v : Value
  xs : List Int
  bl : List Nat
def allB (its : List It) : List Nat := its.flatMap (·.bl)
def Held (h : Hp) (its : List It) (f : Nat → It → List Int) : Prop := ∀ (j : Nat) (it : It), its[j]? = some it → OwnS h 2 1 it.v (ints (f j it)) it.bl
/-- The lists lie apart, and the list of them apart from all. -/
structure Apart (h : Hp) (q : Nat) (its : List It) : Prop where
  row : Seg h 1 q 0 (its.map fun it => [it.v])
  out : q ∉ allB its
  dis : ∀ (i j : Nat) (it jt : It), its[i]? = some it → its[j]? = some jt → i ≠ j → ∀ b ∈ it.bl, b ∉ jt.bl
  len : its.length ≤ 1000
  each : ∀ it ∈ its, it.xs.length ≤ 1048576

section
variable {h h' : Hp} {q : Nat} {its : List It} {f g : Nat → It → List Int} {S : List Nat}
theorem mem_all {it : It} {b : Nat} (hi : it ∈ its) (hb : b ∈ it.bl) : b ∈ allB its := List.mem_flatMap.2 ⟨it, hi, hb⟩
theorem Held.fr (H : Held h its f) (F : Fr h h' S) (hS : ∀ it ∈ its, ∀ b ∈ it.bl, b ∉ S) : Held h' its f := fun j it hj => (H j it hj).fr F (hS it (List.mem_of_getElem? hj))
theorem Held.eq (H : Held h its f) (e : ∀ j it, its[j]? = some it → f j it = g j it) : Held h its g := fun j it hj => by rw [← e j it hj]; exact H j it hj
theorem Held.lt (H : Held h its f) : ∀ b ∈ allB its, b < h.size := fun b hb => by
  obtain ⟨it, hi, hb⟩ := List.mem_flatMap.1 hb
  obtain ⟨j, hj⟩ := List.getElem?_of_mem hi
  exact (H j it hj).lt b hb
theorem Apart.fr (A : Apart h q its) (F : Fr h h' S) (hS : q ∉ S) : Apart h' q its := ⟨A.row.fr F hS, A.out, A.dis, A.len, A.each⟩
/-- One list is written, the others are not. -/
theorem Held.one (H : Held h its f) (A : Apart h q its) {i : Nat} {it : It} (hi : its[i]? = some it) {l : List Int} (F : Fr h h' it.bl) (o : OwnS h' 2 1 it.v (ints l) it.bl) : Held h' its (fun j jt => if j = i then l else f j jt) := fun j jt hj => by
  by_cases e : j = i
  · subst e
    obtain rfl := Option.some.inj (hi.symm.trans hj)
    simpa using o
  · simp only [e, if_false]
    exact (H j jt hj).fr F fun b hb hb' => A.dis i j it jt hi hj (fun e' => e e'.symm) b hb' hb
theorem Apart.read (A : Apart h q its) {i cap : Nat} {it : It} (hi : its[i]? = some it) : ∃ o, idxE 1 (.slice (some ⟨q, 0, none⟩) its.length cap) (.int .i64 (i : Int)) = some (.pointer (some ⟨q, o, none⟩)) ∧ ldS h (.pointer (some ⟨q, o, none⟩)) = some it.v := by
  have hlt := (List.getElem?_eq_some_iff.1 hi).1
  refine ⟨0 + i * 1, by simp [hlt], ?_⟩
  have := A.row.one (i := i) (j := 0) (x := [it.v]) (by simp [hi]) (by omega)
  simpa using this
end
def mk (i k : Nat) : Int := -100000 * ((i + 1 : Nat) : Int) - (k : Int)
def marks (i n : Nat) : List Int := (List.range n).map (mk i)
theorem marks_len (i n : Nat) : (marks i n).length = n := by simp [marks]
def mix (i k : Nat) (xs : List Int) : List Int := marks i k ++ xs.drop k
theorem mix_len {i k : Nat} {xs : List Int} (h : k ≤ xs.length) : (mix i k xs).length = xs.length := by simp [mix, marks_len]; omega
theorem mix_set {i k : Nat} {xs : List Int} (h : k < xs.length) : (mix i k xs).set k (mk i k) = mix i (k + 1) xs := by
  have e : xs.drop k = xs[k] :: xs.drop (k + 1) := List.drop_eq_getElem_cons h
  rw [mix, mix, e, List.set_append_right _ _ (by simp [marks_len]), marks_len, Nat.sub_self, List.set_cons_zero, marks, marks, List.range_succ, List.map_append, List.append_assoc]
  rfl
theorem mix_end (i : Nat) (xs : List Int) : mix i xs.length xs = marks i xs.length := by simp [mix]
theorem ints_set (l : List Int) (k : Nat) (x : Int) : (ints l).set k [.int .i64 x] = ints (l.set k x) := by simp [ints, List.map_set]
theorem ints_app (a b : List Int) : ints (a ++ b) = ints a ++ ints b := by simp [ints]

theorem own_set {h : Hp} {v : Value} {l : List Int} {bl : List Nat} (o : OwnS h 2 1 v (ints l) bl) {k : Nat} (hk : k < l.length) (x : Int) :
    ∃ b o', bl = [b] ∧ idxE 1 v (.int .i64 (k : Int)) = some (.pointer (some ⟨b, o', none⟩)) ∧ ∃ h', stE 1 h (.pointer (some ⟨b, o', none⟩)) (.int .i64 x) = some h' ∧ OwnS h' 2 1 v (ints (l.set k x)) bl ∧ Fr h h' bl := by
  rcases o with ⟨rfl, hx, rfl⟩ | ⟨b, cap, rfl, r, rfl⟩
  · simp [ints] at hx; subst hx; simp at hk
  · obtain ⟨h', s', r', f', _⟩ := r.put (i := k) (o := 0) (x := [.int .i64 l[k]]) (vs := [.int .i64 x]) (v := .int .i64 x) (by simp [ints, hk]) (by simp) (by simp) (by simp)
    refine ⟨b, k * 1 + 0, rfl, by simp [ints, hk], h', s', .inr ⟨b, cap, by simp [ints], ?_, rfl⟩, f'⟩
    have := r'
    simp only [List.take_zero, List.nil_append, List.length_singleton, List.drop_succ_cons, List.drop_nil, List.append_nil, Nat.zero_add] at this
    rwa [ints_set] at this

/-! ## the first look: each is written full -/
def P1 (h : Hp) (q : Nat) (its : List It) (vs : List Value) (h' : Hp) : Prop := ∃ i : Nat, vs = [.int .i64 i] ∧ i ≤ its.length ∧ Apart h' q its ∧ Held h' its (fun j it => if j < i then marks j it.xs.length else it.xs) ∧ Fr h h' (allB its)
def P2 (h : Hp) (q : Nat) (its : List It) (i : Nat) (vs : List Value) (h' : Hp) : Prop := ∃ k : Nat, vs = [.int .i64 k] ∧ (∀ it, its[i]? = some it → k ≤ it.xs.length) ∧ Apart h' q its ∧ Held h' its (fun j it => if j = i then mix i k it.xs else if j < i then marks j it.xs.length else it.xs) ∧ Fr h h' (allB its)
/-- The second: each is grown. -/
def P3 (h : Hp) (q : Nat) (its : List It) (vs : List Value) (h' : Hp) : Prop := ∃ i : Nat, vs = [.int .i64 i] ∧ i ≤ its.length ∧ Apart h' q its ∧ Held h' its (fun j it => marks j it.xs.length) ∧ Fr h h' (allB its)
def P4 (h h0 : Hp) (q : Nat) (its : List It) (i : Nat) (vs : List Value) (h' : Hp) : Prop := ∃ (k : Nat) (u : Value) (it : It), vs = [u, .int .i64 k] ∧ k ≤ 64 ∧ its[i]? = some it ∧ Apart h' q its ∧ Held h' its (fun j it => marks j it.xs.length) ∧ Fr h h' (allB its) ∧ h0.size ≤ h'.size ∧
  (k = 0 ∧ u = it.v ∨ 0 < k ∧ ∃ (b cap : Nat) (ys : List Int), u = .slice (some ⟨b, 0, none⟩) (ints (marks i it.xs.length ++ ys)).length cap ∧ ys.length = k ∧ RowAt h' 2 1 b cap (ints (marks i it.xs.length ++ ys)) ∧ (it.bl = [b] ∧ (∃ n, it.v = .slice (some ⟨b, 0, none⟩) n cap) ∨ h0.size ≤ b))
theorem w_mk {i k : Nat} (hi : i ≤ 1000) (hk : k ≤ 1048576) : IntKind.i64.wrap (IntKind.i64.wrap (-100000 * ((i + 1 : Nat) : Int)) - (k : Int)) = mk i k := by
  rw [i64_id (n := -100000 * ((i + 1 : Nat) : Int)) (by omega) (by omega), i64_id (by omega) (by omega)]; rfl
theorem w_suc {i : Nat} (hi : i ≤ 1048576) : IntKind.i64.wrap ((i : Int) + 1) = ((i + 1 : Nat) : Int) := by rw [i64_id (by omega) (by omega)]; omega

theorem apart_L6 {h9 : Hp} {q : Nat} {its : List It} {cap i : Nat} {it : It} (hi : its[i]? = some it) (A : Apart h9 q its) (H : Held h9 its (fun j it => marks j it.xs.length)) {R : Value → Hp → Prop} {I5 : List Value → Hp → Prop} {μ5 : List Value → Hp → Nat}
    (hI : I5 [.int .i64 ((i + 1 : Nat) : Int)] h9 ∧ μ5 [.int .i64 ((i + 1 : Nat) : Int)] h9 < μ5 [.int .i64 (i : Int)] h9) : f25.L6 h9 (.slice (some ⟨q, 0, none⟩) its.length cap) (.int .i64 (i : Int)) R I5 μ5 := by
  have hlt := (List.getElem?_eq_some_iff.1 hi).1
  have hn := A.len
  have hx := A.each it (List.mem_of_getElem? hi)
  obtain ⟨o, e1, r1⟩ := A.read (cap := cap) hi
  have ow := H i it hi
  unfold f25.L6
  refine ⟨WInv2 it.xs.length h9, muI it.xs.length, ⟨0, rfl, by omega, rfl⟩, ?_⟩
  intro t64_1 t65_1 t66_1 t67_1 t68_1 t69_1 t70_1 t73_1 t74_1 t75_1 t76_1 t77_1 t78_1 t79_1 t80_1 t81_1 t82_1 t83_1 t84_1 t85_1 t2_1 t71_1 t72_1 t9_1 h10
  rintro ⟨k, hv, hk, rfl⟩
  obtain rfl : t9_1 = .int .i64 k := by simpa using hv
  have hln : (ints (marks i it.xs.length)).length = it.xs.length := by simp [ints, marks_len]
  simp only [e1, r1, bnd_some, ow.lenE, bin_lss, condT_bool, hln]
  by_cases hkl : k < it.xs.length
  · have hdec : decide ((k : Int) < (it.xs.length : Int)) = true := by simp; omega
    obtain ⟨b2, o2, e2, r2⟩ := ints_read ow.rowv (j := k) (k := mk i k) (by simp [marks, hkl])
    have hd : decide (mk i k ≠ mk i k) = false := by simp
    simp only [hdec, if_true, e2, r2, bnd_some, bin_add, w_suc (show i ≤ 1048576 by omega), bin_mul, bin_sub, w_mk (show i ≤ 1000 by omega) (show k ≤ 1048576 by omega), bin_neq, hd, condT_bool, Bool.false_eq_true, if_false, w_suc (show k ≤ 1048576 by omega)]
    exact ⟨⟨k + 1, rfl, by omega, rfl⟩, muI_lt _ _ hkl⟩
  · have hdec : decide ((k : Int) < (it.xs.length : Int)) = false := by simp; omega
    simp only [hdec, Bool.false_eq_true, if_false, bin_add, bnd_some, w_suc (show i ≤ 1048576 by omega)]
    exact hI

theorem apart_L5 {h4 : Hp} {q : Nat} {its : List It} {cap : Nat} (A : Apart h4 q its) (H : Held h4 its (fun j it => marks j it.xs.length)) {R : Value → Hp → Prop} (hR : R (.bool true) h4) : f25.L5 h4 (.slice (some ⟨q, 0, none⟩) its.length cap) R := by
  unfold f25.L5
  refine ⟨WInv2 its.length h4, muI its.length, ⟨0, rfl, by omega, rfl⟩, ?_⟩
  intro t58 t59 t60 t61 t64 t65 t66 t67 t68 t69 t70 t73 t74 t75 t76 t77 t78 t79 t80 t81 t82 t83 t84 t85 t2 t71 t72 t9 t62 t63 t8 h9
  rintro ⟨i, hv, hi, rfl⟩
  obtain rfl : t8 = .int .i64 i := by simpa using hv
  simp only [lenE_sl, bnd_some, bin_lss, condT_bool]
  by_cases hlt : i < its.length
  · have hdec : decide ((i : Int) < (its.length : Int)) = true := by simp; omega
    simp only [hdec, if_true]
    exact apart_L6 (it := its[i]) (by simp [hlt]) A H ⟨⟨i + 1, rfl, by omega, rfl⟩, muI_lt _ _ hlt⟩
  · have hdec : decide ((i : Int) < (its.length : Int)) = false := by simp; omega
    simp only [hdec, Bool.false_eq_true, if_false]
    exact hR

theorem apart_L2 {h h1 : Hp} {q : Nat} {its : List It} {cap i : Nat} {it : It} (hi : its[i]? = some it) (A : Apart h1 q its) (H : Held h1 its (fun j it => if j < i then marks j it.xs.length else it.xs)) (F : Fr h h1 (allB its)) {I1 : List Value → Hp → Prop} {μ1 : List Value → Hp → Nat}
    (hI : ∀ h2, P1 h q its [.int .i64 ((i + 1 : Nat) : Int)] h2 → I1 [.int .i64 ((i + 1 : Nat) : Int)] h2 ∧ μ1 [.int .i64 ((i + 1 : Nat) : Int)] h2 < μ1 [.int .i64 (i : Int)] h1) : f25.L2 h1 (.slice (some ⟨q, 0, none⟩) its.length cap) (.int .i64 (i : Int)) I1 μ1 := by
  have hlt := (List.getElem?_eq_some_iff.1 hi).1
  have hn := A.len
  have hx := A.each it (List.mem_of_getElem? hi)
  unfold f25.L2
  refine ⟨P2 h q its i, muI it.xs.length, ⟨0, rfl, by simp, A, H.eq fun j jt hj => ?_, F⟩, ?_⟩
  · by_cases e : j = i
    · subst e; simp [mix, marks]
    · simp [e]
  intro t16_1 t17_1 t18_1 t19_1 t20_1 t21_1 t22_1 t25_1 t26_1 t27_1 t28_1 t29_1 t30_1 t31_1 t32_1 t33_1 t34_1 t35_1 t23_1 t24_1 t4_1 h2
  rintro ⟨k, hv, hk, A2, H2, F2⟩
  obtain rfl : t4_1 = .int .i64 k := by simpa using hv
  have hk := hk it hi
  obtain ⟨o, e1, r1⟩ := A2.read (cap := cap) hi
  have ow := H2 i it hi
  simp only [if_true] at ow
  have hln : (ints (mix i k it.xs)).length = it.xs.length := by simp [ints, mix_len hk]
  simp only [e1, r1, bnd_some, ow.lenE, bin_lss, condT_bool, hln]
  by_cases hkl : k < it.xs.length
  · have hdec : decide ((k : Int) < (it.xs.length : Int)) = true := by simp; omega
    obtain ⟨b, o', hb, e2, h3, s3, o3, f3⟩ := own_set ow (k := k) (by rw [mix_len hk]; exact hkl) (mk i k)
    rw [mix_set hkl] at o3
    simp only [hdec, if_true, bin_add, bnd_some, w_suc (show i ≤ 1048576 by omega), bin_mul, bin_sub, w_mk (show i ≤ 1000 by omega) (show k ≤ 1048576 by omega), e2, s3, w_suc (show k ≤ 1048576 by omega)]
    have hmem := List.mem_of_getElem? hi
    refine ⟨⟨k + 1, rfl, fun jt hj => by obtain rfl := Option.some.inj (hi.symm.trans hj); omega, A2.fr f3 fun hq => A2.out (mem_all hmem hq), (H2.one A2 hi f3 o3).eq fun j jt hj => ?_, F2.trans f3 (fun _ _ h => h) fun c _ hc => mem_all hmem hc⟩, muI_lt _ _ hkl⟩
    by_cases e : j = i
    · subst e; obtain rfl := Option.some.inj (hi.symm.trans hj); simp
    · simp [e]
  · have hdec : decide ((k : Int) < (it.xs.length : Int)) = false := by simp; omega
    obtain rfl : k = it.xs.length := by omega
    simp only [hdec, Bool.false_eq_true, if_false, bin_add, bnd_some, w_suc (show i ≤ 1048576 by omega)]
    refine hI h2 ⟨i + 1, rfl, by omega, A2, H2.eq fun j jt hj => ?_, F2⟩
    by_cases e : j = i
    · subst e; obtain rfl := Option.some.inj (hi.symm.trans hj); simp [mix_end]
    · have : (j < i + 1) = (j < i) := by simp; omega
      simp [e, this]
end Go.Proofs.YtkiakofohkecaaaDoor
