/- PathsHeap: two heaps in turns; the law tells true and leaves the memory that it was given alone. Condition: at most 1048576 steps. -/
import Derived.Test.YtkiakofohkecaaaHx14
namespace Go.Proofs.Ytkiakofohkecaaa
open Go Go.Fw

structure Step where
  second : Bool
  pop : Bool
  key : Int
def Step.enc (s : Step) : List Value := [.bool s.pop, .bool s.second, .int .i64 s.key]

/-- The state between two steps, seen from the side sd. -/
def HSt (h : Hp) (q : Nat) (sd : Bool) (pa pb : Nat) (h' : Hp) (i : Nat) : Prop :=
  ∃ (na nb : Nat) (va vb : Value) (Sa Sb : List Nat), Side h' sd pa va i na Sa ∧ Side h' (!sd) pb vb i nb Sb ∧ h'[q]? = some (.cells (two sd va vb) 29 (0, 0)) ∧ q ∉ Sa ∧ q ∉ Sb ∧ (∀ b ∈ Sa, b ∉ Sb) ∧ Fr h h' [] ∧ (∀ b ∈ Sa, h.size ≤ b) ∧ (∀ b ∈ Sb, h.size ≤ b) ∧ h.size ≤ q
theorem two_not (sd : Bool) (a b : Value) : two (!sd) b a = two sd a b := by cases sd <;> rfl
theorem HSt.swap {h h' : Hp} {q pa pb i : Nat} {sd : Bool} (s : HSt h q sd pa pb h' i) : HSt h q (!sd) pb pa h' i := by
  obtain ⟨na, nb, va, vb, Sa, Sb, s1, s2, hq, q1, q2, d, f, n1, n2, n3⟩ := s
  exact ⟨nb, na, vb, va, Sb, Sa, s2, by rwa [Bool.not_not], by rwa [two_not], q2, q1, fun b hb ha => d b ha hb, f, n2, n1, n3⟩
/-- One side has gone on. -/
theorem HSt.step {h hj h' : Hp} {q pa pb i na nb n' : Nat} {sd : Bool} {va vb v' : Value} {Sa Sb S' : List Nat} (s2 : Side hj (!sd) pb vb i nb Sb) (q1 : q ∉ Sa) (q2 : q ∉ Sb) (d : ∀ b ∈ Sa, b ∉ Sb) (f : Fr h hj []) (n1 : ∀ b ∈ Sa, h.size ≤ b) (n2 : ∀ b ∈ Sb, h.size ≤ b) (n3 : h.size ≤ q) (_ : Side hj sd pa va i na Sa) (hqj : q < hj.size)
    (s' : Side h' sd pa v' (i + 1) n' S') (hq' : h'[q]? = some (.cells (two sd v' vb) 29 (0, 0))) (f' : Fr hj h' (q :: Sa)) (b' : ∀ b ∈ S', b ∈ Sa ∨ hj.size ≤ b) : HSt h q sd pa pb h' (i + 1) := by
  have hs := f.size
  have l2 := s2.lt
  refine ⟨n', nb, v', vb, S', Sb, s', (s2.fr f' (fun b hb hm => ?_)).more, hq', fun hm => ?_, q2, fun b hb hm => ?_, f.news f' (fun c hc => ?_), fun b hb => ?_, n2, n3⟩
  · rcases List.mem_cons.1 hm with rfl | hm
    · exact q2 hb
    · exact d b hm hb
  · rcases b' q hm with h | h
    · exact q1 h
    · omega
  · rcases b' b hb with h | h
    · exact d b h hm
    · have := l2 b hm; omega
  · rcases List.mem_cons.1 hc with rfl | hc
    · exact n3
    · exact n1 c hc
  · rcases b' b hb with h | h
    · exact n1 b h
    · omega

theorem heap_J2 {h hj h4 : Hp} {q p0 p1 i : Nat} (st : HSt h q false p0 p1 hj (i + 1)) {R : Value → Hp → Prop} {I1 : List Value → Hp → Prop} {μ1 : List Value → Hp → Nat} (hi : i ≤ 1048576)
    (hI : I1 [.int .i64 ((i + 1 : Nat) : Int)] hj ∧ μ1 [.int .i64 ((i + 1 : Nat) : Int)] hj < μ1 [.int .i64 (i : Int)] h4) :
    f3.J2 (.pointer (some ⟨p0, 0, none⟩)) hj (.pointer (some ⟨q, 0, none⟩)) (.pointer (some ⟨p1, 0, none⟩)) R (.int .i64 (i : Int)) I1 μ1 h4 := by
  obtain ⟨na, nb, va, vb, Sa, Sb, s1, s2, hq, _⟩ := st
  have w1 : IntKind.i64.wrap ((i : Int) + 1) = ((i + 1 : Nat) : Int) := by rw [wrap_id (by omega) (by omega)]; omega
  have hq' : hj[q]? = some (.cells #[va, vb] 29 (0, 0)) := hq
  have fin : f3.J1 (.bool false) R hj (.int .i64 (i : Int)) I1 μ1 h4 := by
    unfold f3.J1
    simp only [condT_bool, Bool.false_eq_true, if_false, bin_add, bnd_some, w1]
    exact hI
  unfold f3.J2
  refine ⟨?_, ?_, ?_, ?_⟩
  · refine s1.Len ?_
    simp [ldS_at hq', s1.len]
    refine s2.Len ?_
    simpa [ldS_at hq', s2.len] using fin
  · simp [ldS_at hq', s1.len]
    refine s1.Len ?_
    simp
    refine s2.Len ?_
    simpa [ldS_at hq', s2.len] using fin
  · refine s1.Len ?_
    simp [ldS_at hq', s1.len]
    refine s2.Len ?_
    simpa [ldS_at hq', s2.len] using fin
  · simp [ldS_at hq', s1.len]
    refine s1.Len ?_
    simp [ldS_at hq']
    refine s2.Len ?_
    simpa [ldS_at hq', s2.len] using fin

theorem heap_J3 {h ho hj h4 : Hp} {q q7 pa pb p0 p1 i : Nat} {sd : Bool} (s : Step) (st : HSt h q sd pa pb ho i) (ff : Fr ho hj []) (n7 : ho.size ≤ q7) (hi : i ≤ 1048576) (g7 : hj[q7]? = some (.cells #[.bool s.pop, .bool s.second, .int .i64 s.key] 31 (0, 0))) {R : Value → Hp → Prop} {I1 : List Value → Hp → Prop} {μ1 : List Value → Hp → Nat}
    (hI : ∀ h', HSt h q sd pa pb h' (i + 1) → f3.J2 (.pointer (some ⟨p0, 0, none⟩)) h' (.pointer (some ⟨q, 0, none⟩)) (.pointer (some ⟨p1, 0, none⟩)) R (.int .i64 (i : Int)) I1 μ1 h4) :
    f3.J3 (.pointer (some ⟨q7, 0, none⟩)) hj (.int .i64 (i : Int)) (.pointer (some ⟨pa, 0, none⟩)) (.pointer (some ⟨q, 0, none⟩)) (.int .i64 ((jn sd : Nat) : Int)) (.pointer (some ⟨p0, 0, none⟩)) (.pointer (some ⟨p1, 0, none⟩)) R I1 μ1 h4 := by
  obtain ⟨na, nb, va, vb, Sa, Sb, s1, s2, hq, q1, q2, d, f, n1, n2, n3⟩ := st
  have n7' : q7 ∉ Sa := fun hm => by have := s1.lt q7 hm; omega
  replace s1 := s1.fr ff (by simp)
  replace s2 := s2.fr ff (by simp)
  replace hq := ff.get hq (by simp)
  replace f := f.then ff
  have lq := lt_of_get hq
  unfold f3.J3
  simp only [fldE_ptr, bnd_some, ldS_at g7, Nat.zero_add, List.getElem?_toArray, List.getElem?_cons_succ, List.getElem?_cons_zero, unE_not, condT_bool]
  cases hp : s.pop
  · simp only [Bool.not_false, if_true, fill_entry, bnd_some]
    exact push_step (q7 := q7) s1 hi hq q1 g7 n7' (K := fun h' => f3.J2 (.pointer (some ⟨p0, 0, none⟩)) h' (.pointer (some ⟨q, 0, none⟩)) (.pointer (some ⟨p1, 0, none⟩)) R (.int .i64 (i : Int)) I1 μ1 h4)
      fun h' v' S' s' hq' f' b' => hI h' (HSt.step s2 q1 q2 d f n1 n2 n3 s1 lq s' hq' f' b')
  · simp only [Bool.not_true, Bool.false_eq_true, if_false]
    exact pop_step s1 hi hq q1 (K := fun h' => f3.J2 (.pointer (some ⟨p0, 0, none⟩)) h' (.pointer (some ⟨q, 0, none⟩)) (.pointer (some ⟨p1, 0, none⟩)) R (.int .i64 (i : Int)) I1 μ1 h4)
      fun h' v' n' S' s' hq' f' b' => hI h' (HSt.step s2 q1 q2 d f n1 n2 n3 s1 lq s'.more hq' f' b')

def HInv (h : Hp) (q p0 p1 N : Nat) (l : List Value) (h' : Hp) : Prop := ∃ i : Nat, l = [.int .i64 i] ∧ i ≤ N ∧ HSt h q false p0 p1 h' i

theorem HSt.fr {h h' h'' : Hp} {q pa pb i : Nat} {sd : Bool} (s : HSt h q sd pa pb h' i) (f' : Fr h' h'' []) : HSt h q sd pa pb h'' i := by
  obtain ⟨na, nb, va, vb, Sa, Sb, s1, s2, hq, q1, q2, d, f, n1, n2, n3⟩ := s
  exact ⟨na, nb, va, vb, Sa, Sb, s1.fr f' (by simp), s2.fr f' (by simp), f'.get hq (by simp), q1, q2, d, f.then f', n1, n2, n3⟩

theorem heap_spec {h : Hp} {v : Value} {ss : List Step} (r : RowV h 3 v (ss.map Step.enc)) (hn : ss.length ≤ 1048576) {R : Value → Hp → Prop} (hR : ∀ h', Fr h h' [] → R (.bool true) h') : CallsH Try.prog 3 #[v] h R := by
  have hlen : lenE v = some (.int .i64 ss.length) := by obtain ⟨a, cap, rfl, _⟩ := r; simp
  refine f3.ok ?_
  unfold f3.T
  refine new_spec fun H0 => ?_
  have f1 := Fr.push h (.cells #[.func (.func 7) #[] #[], .slice none 0 0, .int .i64 0] 45 (0, 0)) []
  have z1 : (h.push (.cells #[.func (.func 7) #[] #[], .slice none 0 0, .int .i64 0] 45 (0, 0))).size = h.size + 1 := by simp
  generalize h.push (.cells #[.func (.func 7) #[] #[], .slice none 0 0, .int .i64 0] 45 (0, 0)) = h1 at *
  refine new_spec fun H1 => ?_
  have f2 := Fr.push h1 (.cells #[.func (.func 8) #[] #[], .slice none 0 0, .int .i64 0] 45 (0, 0)) []
  have z2 : (h1.push (.cells #[.func (.func 8) #[] #[], .slice none 0 0, .int .i64 0] 45 (0, 0))).size = h1.size + 1 := by simp
  generalize h1.push (.cells #[.func (.func 8) #[] #[], .slice none 0 0, .int .i64 0] 45 (0, 0)) = h2 at *
  simp [nw_eq]
  have f3' := Fr.push h2 (.cells #[.slice none 0 0, .slice none 0 0] 29 (0, 0)) []
  have q3 := get_new h2 (.cells #[.slice none 0 0, .slice none 0 0] 29 (0, 0))
  unfold f3.L1
  have ho : HeapOk (aheadB ltUp) [] := fun j _ hj => by simp at hj
  have st0 : HSt h h2.size false h.size h1.size (h2.push (.cells #[.slice none 0 0, .slice none 0 0] 29 (0, 0))) 0 := by
    refine ⟨0, 0, .slice none 0 0, .slice none 0 0, [h.size], [h1.size], ⟨[], 0, [], [], [], rfl, by simp, (H0.fr f2 (by simp) (by simp)).fr f3' (by simp) (by simp), .nil _ _ _, .refl _, fun j _ hj => by simp at hj, by simp, by simp, by simp, by simp, rfl, by simp⟩,
      ⟨[], 0, [], [], [], rfl, by simp, H1.fr f3' (by simp) (by simp), .nil _ _ _, .refl _, fun j _ hj => by simp at hj, by simp, by simp, by simp, by simp, rfl, by simp⟩, q3, by simp; omega, by simp; omega, by simp; omega, (f1.then f2).then f3', by simp, by simp; omega, by omega⟩
  refine ⟨HInv h h2.size h.size h1.size ss.length, muI ss.length, ⟨0, rfl, by omega, st0⟩, ?_⟩
  intro t22 t23 t24 t25 t28 t29 t30 t31 t7 t32 t33 t34 t35 t8 t9 t36 t37 t38 t39 t40 t41 t42 t43 t44 t45 t46 t47 t48 t49 t50 t51 t52 t53 t54 t55 t57 t58 t56 t59 t60 t10 t11 t61 t62 t63 t64 t65 t66 t12 t67 t68 t69 t70 t71 t72 t73 t74 t75 t76 t77 t78 t79 t80 t81 t82 t83 t84 t85 t86 t87 t88 t89 t90 t91 t92 t93 t94 t95 t96 t97 t98 t99 t100 t101 t102 t13 t103 t104 t105 t106 t107 t108 t109 t110 t111 t112 t113 t114 t115 t116 t117 t118 t119 t120 t121 t122 t123 t124 t125 t126 t2 t26 t27 t6 h4
  rintro ⟨i, hl, hi, st⟩
  obtain rfl : t6 = .int .i64 i := by simpa using hl
  have f4 : Fr h h4 [] := by obtain ⟨_, _, _, _, _, _, _, _, _, _, _, _, f, _⟩ := st; exact f
  simp only [hlen, bin_lss, bnd_some, condT_bool]
  by_cases hlt : i < ss.length
  · have hdec : decide ((i : Int) < (ss.length : Int)) = true := by simp; omega
    obtain ⟨eb, eo, ee, _, er⟩ := r.get (i := i) (x := (ss[i]).enc) (by simp [hlt]) .i64
    have er1 : ldA 3 h4 (.pointer (some ⟨eb, eo, none⟩)) = some (.agg #[.bool ss[i].pop, .bool ss[i].second, .int .i64 ss[i].key]) := (er h4 f4).2
    have g5 := get_new h4 (.cells #[.bool false, .bool false, .int .i64 0] 31 (0, 0))
    have e6 : stE 3 (h4.push (.cells #[.bool false, .bool false, .int .i64 0] 31 (0, 0))) (.pointer (some ⟨h4.size, 0, none⟩)) (.agg #[.bool ss[i].pop, .bool ss[i].second, .int .i64 ss[i].key]) = some ((h4.push (.cells #[.bool false, .bool false, .int .i64 0] 31 (0, 0))).setIfInBounds h4.size (.cells #[.bool ss[i].pop, .bool ss[i].second, .int .i64 ss[i].key] 31 (0, 0))) := by
      rw [stE_at _ g5]; simp [splice]
    have f6 := ((Fr.refl h4 []).new (.cells #[.bool false, .bool false, .int .i64 0] 31 (0, 0))).set_new (Nat.le_refl _) (.cells #[.bool ss[i].pop, .bool ss[i].second, .int .i64 ss[i].key] 31 (0, 0))
    have g6 := get_set (o' := .cells #[.bool ss[i].pop, .bool ss[i].second, .int .i64 ss[i].key] 31 (0, 0)) g5
    simp only [hdec, if_true, ee, bnd_some, er1, nw_eq, ptr0_eq, e6, fldE_ptr, Nat.zero_add]
    generalize hq7 : h4.size = q7 at *
    generalize (h4.push (.cells #[.bool false, .bool false, .int .i64 0] 31 (0, 0))).setIfInBounds q7 (.cells #[.bool ss[i].pop, .bool ss[i].second, .int .i64 ss[i].key] 31 (0, 0)) = h6 at *
    simp only [ldS_at g6, List.getElem?_toArray, List.getElem?_cons_succ, List.getElem?_cons_zero, bnd_some, condT_bool]
    have j2 : ∀ h', HSt h h2.size false h.size h1.size h' (i + 1) → f3.J2 (.pointer (some ⟨h.size, 0, none⟩)) h' (.pointer (some ⟨h2.size, 0, none⟩)) (.pointer (some ⟨h1.size, 0, none⟩)) R (.int .i64 (i : Int)) (HInv h h2.size h.size h1.size ss.length) (muI ss.length) h4 :=
      fun h' st' => heap_J2 st' (by omega) ⟨⟨i + 1, rfl, by omega, st'⟩, muI_lt h4 h' hlt⟩
    split
    · exact heap_J3 (sd := true) (pa := h1.size) (pb := h.size) ss[i] st.swap f6 (by omega) (by omega) g6 fun h' st' => j2 h' st'.swap
    · exact heap_J3 (sd := false) (pa := h.size) (pb := h1.size) ss[i] st f6 (by omega) (by omega) g6 fun h' st' => j2 h' st'
  · have hdec : decide ((i : Int) < (ss.length : Int)) = false := by simp; omega
    simp only [hdec, Bool.false_eq_true, if_false]
    exact hR _ f4
end Go.Proofs.Ytkiakofohkecaaa
