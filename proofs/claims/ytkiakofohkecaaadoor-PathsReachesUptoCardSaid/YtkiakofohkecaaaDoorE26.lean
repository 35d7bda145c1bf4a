/- Are the rows that were shown as they were: whole. No condition but that the memory is as told. -/
import Derived.Test.YtkiakofohkecaaaDoorE25
import Derived.Laws.StructEq
namespace Go.Proofs.YtkiakofohkecaaaDoor
open Go Go.Fw
theorem fs62 : (Tryd.prog.fieldsOf 62).toList.map (fun f => (f.name == "_", f.type, f.offset)) = [(false, 2, 0), (false, 2, 1), (false, 2, 2)] := by kernel_rfl
theorem u62 : Tryd.prog.underlying 62 = some (.struct (Tryd.prog.fieldsOf 62)) := by kernel_rfl
theorem u2 : Tryd.prog.underlying 2 = some (.int .i64) := by kernel_rfl
theorem eqf {w : World} {d : Nat} (xs : Array Value) {fs : List Field} (n : ∀ f ∈ fs, (f.name == "_") = false) (t : ∀ f ∈ fs, f.type = 2) (o : ∀ f ∈ fs, ∃ k : Int, xs[f.offset]? = some (.int .i64 k)) : (Op.eqFields (d + 1) xs xs fs).run Tryd.prog w = .ok true w := by
  induction fs with
  | nil => simp [Op.eqFields]
  | cons f fs ih =>
    have hn : f.name ≠ "_" := by simpa using n f (by simp)
    have ht := t f (by simp)
    obtain ⟨k, hk⟩ := o f (by simp)
    have hp : (part 2 xs f.offset).run Tryd.prog w = .ok (.int .i64 k) w := by
      simp [part, isAgg, run_underlying u2, Result.andThen, hk]
    have hi := run_equalIn_int (P := Tryd.prog) w d 2 .i64 .i64 k k u2
    have ih' := ih (fun f hf => n f (by simp [hf])) (fun f hf => t f (by simp [hf])) fun f hf => o f (by simp [hf])
    simp [Op.eqFields, hn, ht, hp, hi, Result.andThen, ih']
theorem neq_arc (x : Arc) {a b : Operand} {K : Value → Prop} (hK : K (.bool false)) :
    prS Tryd.prog (binS .neq 62 a b (.agg #[.int .i64 x.edge, .int .i64 x.to, .int .i64 x.weight]) (.agg #[.int .i64 x.edge, .int .i64 x.to, .int .i64 x.weight])) K := by
  refine ⟨_, fun w => ?_, hK⟩
  have hg : Tryd.prog.eqGuardType Tryd.prog.depth 62 = false := by kernel_rfl
  have hs : Tryd.prog.stoodInHeld 62 = false := by kernel_rfl
  have h3 := fs62
  have hf : ∀ f ∈ (Tryd.prog.fieldsOf 62).toList, (f.name == "_", f.type, f.offset) ∈ [(false, 2, 0), (false, 2, 1), (false, 2, 2)] := fun f hf => by rw [← h3]; exact List.mem_map.2 ⟨f, hf, rfl⟩
  have hq : (Op.equalIn 10000 62 (.agg #[.int .i64 x.edge, .int .i64 x.to, .int .i64 x.weight]) (.agg #[.int .i64 x.edge, .int .i64 x.to, .int .i64 x.weight])).run Tryd.prog w = .ok true w := by
    rw [run_equalIn_struct (d := 9999) _ _ _ _ u62 hs]
    refine eqf (d := 9998) _ (fun f h => ?_) (fun f h => ?_) fun f h => ?_
    · have := hf f h; simp at this; rcases this with h | h | h <;> simp [h]
    · have := hf f h; simp at this; rcases this with h | h | h <;> simp [h]
    · have := hf f h; simp at this; rcases this with h | h | h <;> simp [h]
  unfold binS
  simp [run_eqGuard_agg w _ _ _ _ _ _ hg, run_neq_struct, hq, Result.andThen]

def WInv (n : Nat) (h : Hp) (vs : List Value) (h' : Hp) : Prop := ∃ i : Nat, vs = [.int .i64 i] ∧ i ≤ n ∧ Fr h h' []
def WInv2 (n : Nat) (h : Hp) (vs : List Value) (h' : Hp) : Prop := ∃ i : Nat, vs = [.int .i64 i] ∧ i ≤ n ∧ h' = h

set_option maxHeartbeats 2000000 in
theorem whole_spec {h0 h : Hp} {rows : List NRow} {tail : Bool} {v t1 : Value} {q : Nat} {gs : List GRow} {bla blg : List Nat} {Em : Nat} {fm : Nat × Nat} (net : NetOk h0 v rows) (hm : h0[2]? = some (.cells #[.int .i64 (-71), .int .i64 (-72), .int .i64 (-73)] Em fm))
    (H : ShownAt h0 rows tail v q gs bla blg h) (ra : RowV h 1 t1 (ints (gs.map (·.id)))) (hn : gs.length ≤ 1099511627776) {R : Value → Hp → Prop} (hR : ∀ h', Fr h h' [] → R (.bool true) h') :
    CallsH Tryd.prog 21 #[.pointer (some ⟨q, 0, none⟩), t1] h R := by
  obtain ⟨av, gv, e, oa, og⟩ := H.top
  refine f21.ok ?_
  unfold f21.T
  simp only [nilE_ptr, bnd_some, fldE_ptr, Nat.zero_add, ldS_at e, List.getElem?_toArray, List.getElem?_cons_succ, List.getElem?_cons_zero]
  refine ids_spec oa.rowv ra (by simpa using hn) ?_
  have hlg : (gs.map fun g => [g.val rows tail]).length = gs.length := by simp
  simp only [decide_true, unE_not, Bool.not_true, bnd_some, isB_bool, beq_self_eq_true, cond_true, cond_false, nilE_ptr, fldE_ptr, Nat.zero_add, ldS_at e, List.getElem?_toArray, List.getElem?_cons_succ, List.getElem?_cons_zero, og.lenE, ints_len ra, bin_neq, asB_bool, Option.map_some]
  have hd : decide (((gs.map fun g => [g.val rows tail]).length : Int) ≠ ((gs.map (·.id)).length : Int)) = false := by simp
  simp only [hd, condT_bool, Bool.false_eq_true, if_false]
  unfold f21.L1
  refine ⟨WInv gs.length h, muI gs.length, ⟨0, rfl, by omega, Fr.refl _ _⟩, ?_⟩
  intro t26 t27 t28 t29 t33 t34 t35 t36 t37 t38 t39 t40 t41 t32 t42 t43 t6 t7 t44 t45 t46 t47 t48 t49 t50 t51 t52 t53 t54 t55 t56 t57 t58 t59 t60 t61 t62 t63 t64 t65 t66 t67 t68 t69 t70 t71 t72 t73 t74 t75 t76 t77 t78 t79 t80 t81 t82 t83 t84 t85 t86 t87 t88 t89 t90 t93 t94 t95 t96 t97 t98 t99 t100 t101 t102 t103 t104 t105 t106 t107 t4 t91 t92 t8 t30 t31 t5 h2
  rintro ⟨i, hv, hi, f2⟩
  obtain rfl : t5 = .int .i64 i := by simpa using hv
  have ra2 := ra.fr f2
  have e2 := f2.get e (by simp)
  have og2 := og.fr f2 (by simp)
  simp only [ints_len ra2, bnd_some, bin_lss, condT_bool]
  by_cases hlt : i < gs.length
  · have hdec : decide ((i : Int) < ((gs.map (·.id)).length : Int)) = true := by simp; omega
    have w1 : IntKind.i64.wrap ((i : Int) + 1) = ((i + 1 : Nat) : Int) := by rw [i64_id (by omega) (by omega)]; omega
    have l2 : ldA 2 h2 (.pointer (some ⟨q, 0, none⟩)) = some (.agg #[v, .bool tail]) := by rw [ldA_at e2]; simp
    obtain ⟨b1, o1, e1, r1⟩ := ints_read ra2 (j := i) (k := gs[i].id) (by simp [hlt])
    simp only [hdec, if_true, nilE_ptr, bnd_some, fldE_ptr, Nat.zero_add, l2, e1, r1]
    refine of_specB net (H.base.then f2) gs[i].id fun h3 v3 hB f3 => ?_
    obtain ⟨B, rB, _⟩ := hB
    have rv := rB.rowv
    have e3 := f3.get e2 (by simp)
    have og3 := og2.fr f3 (by simp)
    have hal := ofL_len net tail gs[i].id
    have F3 : Fr h h3 [] := f2.then f3
    have own := ((H.each gs[i] (by simp)).fr F3 (by simp)).seg
    have hol : (ownL rows tail gs[i].id).length = (ofL rows tail gs[i].id).1.length + 2 := by simp [ownL]
    have ownv : RowV h3 3 (gs[i].val rows tail) (ownL rows tail gs[i].id) := ⟨_, gs[i].cap, rfl, fun _ => ⟨gs[i].b, 0, rfl, own⟩⟩
    have hol' : lenE (gs[i].val rows tail) = some (.int .i64 (((ofL rows tail gs[i].id).1.length + 2 : Nat) : Int)) := by simp [GRow.val, hol]
    -- the given list
    obtain ⟨b4, o4, e4, _, rd4⟩ := og3.rowv.get (i := i) (x := [gs[i].val rows tail]) (by simp [hlt]) .i64
    have r4 : ldS h3 (.pointer (some ⟨b4, o4, none⟩)) = some (gs[i].val rows tail) := by simpa using (rd4 h3 (Fr.refl _ _)).1 0 (by omega)
    have m3 := (H.base.then F3).get hm (by simp)
    have l3 : ldA 3 h3 (.pointer (some ⟨2, 0, none⟩)) = some (.agg #[.int .i64 markA.edge, .int .i64 markA.to, .int .i64 markA.weight]) := by rw [ldA_at m3]; simp [markA]
    have rdo : ∀ (j : Nat) (x : Arc), (ownL rows tail gs[i].id)[j]? = some x.enc → ∃ b o, idxE 3 (gs[i].val rows tail) (.int .i64 (j : Int)) = some (.pointer (some ⟨b, o, none⟩)) ∧ ldA 3 h3 (.pointer (some ⟨b, o, none⟩)) = some (.agg #[.int .i64 x.edge, .int .i64 x.to, .int .i64 x.weight]) := fun j x hx => by
      obtain ⟨b, o, e, _, rd⟩ := ownv.get hx .i64
      exact ⟨b, o, e, (rd h3 (Fr.refl _ _)).2⟩
    obtain ⟨b5, o5, e5, r5⟩ := rdo (ofL rows tail gs[i].id).1.length markA (by simp [ownL])
    obtain ⟨b6, o6, e6, r6⟩ := rdo ((ofL rows tail gs[i].id).1.length + 1) markA (by simp [ownL])
    obtain ⟨a3, c3, rfl, x3⟩ := id rv
    have hml : ((ofL rows tail gs[i].id).1.map Arc.enc).length = (ofL rows tail gs[i].id).1.length := by simp
    have w2 : IntKind.i64.wrap (((ofL rows tail gs[i].id).1.length : Int) + 2) = (((ofL rows tail gs[i].id).1.length + 2 : Nat) : Int) := by rw [i64_id (by omega) (by omega)]; omega
    have w3 : IntKind.i64.wrap (((ofL rows tail gs[i].id).1.length : Int) + 1) = (((ofL rows tail gs[i].id).1.length + 1 : Nat) : Int) := by rw [i64_id (by omega) (by omega)]; omega
    have hlen3 : lenE (.slice a3 ((ofL rows tail gs[i].id).1.map Arc.enc).length c3) = some (.int .i64 (ofL rows tail gs[i].id).1.length) := by simp
    generalize hvv : Value.slice a3 ((ofL rows tail gs[i].id).1.map Arc.enc).length c3 = vv at *
    generalize hgv : gs[i].val rows tail = gvv at *
    simp only [extE_tuple, nilE_ptr, bnd_some, fldE_ptr, Nat.zero_add, ldS_at e3, List.getElem?_toArray, List.getElem?_cons_succ, List.getElem?_cons_zero, e4, r4, hol', hlen3, bin_add, w2, bin_neq, ne_eq, not_true_eq_false, decide_false, isB_bool, beq_self_eq_true, cond_true, cond_false, e5, r5, l3, guardT_true]
    refine neq_arc markA ?_
    simp only [asB_bool, Option.map_some, cond_false, bnd_some, isB_bool, beq_self_eq_true, cond_true, nilE_ptr, fldE_ptr, Nat.zero_add, ldS_at e3, List.getElem?_toArray, List.getElem?_cons_succ, List.getElem?_cons_zero, e4, r4, hlen3, bin_add, w3, e6, r6, l3, guardT_true]
    refine neq_arc markA ?_
    simp only [asB_bool, Option.map_some, cond_false, bnd_some, condT_bool, Bool.false_eq_true, if_false]
    unfold f21.L2
    refine ⟨WInv2 (ofL rows tail gs[i].id).1.length h3, muI (ofL rows tail gs[i].id).1.length, ⟨0, rfl, by omega, rfl⟩, ?_⟩
    intro t87_1 t88_1 t89_1 t90_1 t93_1 t94_1 t95_1 t96_1 t97_1 t98_1 t99_1 t100_1 t101_1 t102_1 t103_1 t104_1 t105_1 t106_1 t107_1 t4_1 t91_1 t92_1 t8_1 h6
    rintro ⟨j, hv, hj, rfl⟩
    obtain rfl : t8_1 = .int .i64 j := by simpa using hv
    simp only [hlen3, bnd_some, bin_lss, condT_bool]
    by_cases hjl : j < (ofL rows tail gs[i].id).1.length
    · have hdec2 : decide ((j : Int) < ((ofL rows tail gs[i].id).1.length : Int)) = true := by simp; omega
      have w4 : IntKind.i64.wrap ((j : Int) + 1) = ((j + 1 : Nat) : Int) := by rw [i64_id (by omega) (by omega)]; omega
      obtain ⟨b7, o7, e7, r7⟩ := rdo j (ofL rows tail gs[i].id).1[j] (by simp [ownL, List.getElem?_append_left, hjl])
      obtain ⟨b8, o8, e8, _, rd8⟩ := rv.get (i := j) (x := ((ofL rows tail gs[i].id).1[j]).enc) (by simp [hjl]) .i64
      have r8 := (rd8 h6 (Fr.refl _ _)).2
      simp only [Arc.enc] at r8
      simp only [hdec2, if_true, nilE_ptr, bnd_some, fldE_ptr, Nat.zero_add, ldS_at e3, List.getElem?_toArray, List.getElem?_cons_succ, List.getElem?_cons_zero, e4, r4, e7, r7, e8, r8]
      refine neq_arc _ ?_
      simp only [condT_bool, Bool.false_eq_true, if_false, bin_add, bnd_some, w4]
      exact ⟨⟨j + 1, rfl, by omega, rfl⟩, muI_lt _ _ hjl⟩
    · have hdec2 : decide ((j : Int) < ((ofL rows tail gs[i].id).1.length : Int)) = false := by simp; omega
      simp only [hdec2, Bool.false_eq_true, if_false, bin_add, bnd_some, w1]
      exact ⟨⟨i + 1, rfl, by omega, F3⟩, muI_lt _ _ hlt⟩
  · have hdec : decide ((i : Int) < ((gs.map (·.id)).length : Int)) = false := by simp; omega
    simp only [hdec, Bool.false_eq_true, if_false]
    exact hR h2 f2
end Go.Proofs.YtkiakofohkecaaaDoor
