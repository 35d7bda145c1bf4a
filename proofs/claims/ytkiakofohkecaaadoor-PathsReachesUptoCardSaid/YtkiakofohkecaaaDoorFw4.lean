/- The framework, part 4: every operation, in one theorem. No condition. -/
import Derived.Test.YtkiakofohkecaaaDoorFw3
namespace Go.Fw
open Go

section
variable {P : Program} {K : Value → Hp → Prop} {w : World}

theorem fine_bnd {x : Option Value} {s : Sem Value} (hx : bnd x fun v => K v w.heap) (hs : ∀ v, x = some v → s.run P w = .ok v w) : Fine P K w ((do pure (.value (← s)) : Sem Next).run P w) :=
  let ⟨v, hv, hk⟩ := hx; fine_val (hs v hv) hk

theorem heap_push (w : World) (o : Obj) : ({ w with heap := w.heap.push o } : World).heap = w.heap.push o := rfl

theorem fine_al {s : Sem Value} {c : Array Value} {E : TypeId} {mk : Nat → Value} (hs : s.run P w = .ok (mk w.heap.size) { w with heap := w.heap.push (.cells c E (0, 0)) })
    (h : K (mk w.heap.size) (w.heap.push (.cells c E (0, 0)))) : Fine P K w ((do pure (.value (← s)) : Sem Next).run P w) :=
  (good_v hs ⟨rfl, rfl, rfl⟩ h).fine

theorem run_convI {s d : TypeId} {ks k : IntKind} (hs : P.underlying s = some (.int ks)) (hd : P.underlying d = some (.int k)) {x v : Value} (h : cvI k x = some v) : (convert s d x).run P w = .ok v w := by
  unfold cvI at h
  split at h
  · obtain rfl := Option.some.inj h
    simp only [convert, Sem.run_bind, run_underlying hs, run_underlying hd, Result.andThen_ok, Conv.intToInt, Sem.run_pure]
  · simp at h

theorem run_len_res {t ty : TypeId} {args : Array Operand} {at_ : Array TypeId} {ρ : Operand → Value} {x : Operand} (ht : at_[0]? = some t) (hx : args[0]? = some x)
    (h : (resLen P t (ρ x) (Builtin.len_ at_ ty (args.map ρ))).run P w.heap K) : Fine P K w ((do pure (.value (← Builtin.len_ at_ ty (args.map ρ))) : Sem Next).run P w) := by
  have hx' : (args.map ρ)[0]? = some (ρ x) := by simp [hx]
  unfold resLen at h
  split at h
  · rename_i e hu
    refine fine_bnd h fun v hv => ?_
    unfold lenE at hv
    split at hv
    · rename_i a n c hxv
      obtain rfl := Option.some.inj hv
      rw [hxv] at hx'
      simp only [Builtin.len_, ht, hx', Sem.run_bind, run_underlying hu, Result.andThen_ok, Sem.run_pure]
    · simp at hv
  · rename_i hu
    refine fine_bnd h fun v hv => ?_
    unfold lenS at hv
    split at hv
    · rename_i s hxv
      obtain rfl := Option.some.inj hv
      rw [hxv] at hx'
      simp only [Builtin.len_, ht, hx', Sem.run_bind, run_underlying hu, Result.andThen_ok, Sem.run_pure]
    · simp at hv
  · rename_i n e hu
    refine fine_val ?_ h
    simp only [Builtin.len_, ht, hx', Sem.run_bind, run_underlying hu, Result.andThen_ok, Sem.run_pure]
  · exact (good_rds h).fine

theorem run_unE {op : UnOp} {x v : Value} (h : unE op x = some v) : (Op.unary op x).run P w = .ok v w := by
  unfold unE at h
  split at h
  · obtain rfl := Option.some.inj h; simp [Op.unary, Op.intArith]
  · obtain rfl := Option.some.inj h; simp [Op.unary]
  · simp at h

theorem run_bin_res {op : BinOp} {t : TypeId} {x y : Operand} {a b : Value} (h : (resBin P op t x y a b).run P w.heap K) : Fine P K w ((do pure (.value (← binS op t x y a b)) : Sem Next).run P w) := by
  unfold resBin at h
  split at h
  · exact fine_bnd h fun v hv => run_binE hv w
  · exact fine_bnd h fun v hv => run_binE hv w
  · rename_i hu; exact fine_bnd h fun v hv => run_binB hu hv w
  · rename_i hu; exact fine_bnd h fun v hv => run_nilBin (k := .p) hu trivial (fun h => by cases h) hv w
  · rename_i hu; exact fine_bnd h fun v hv => run_nilBin (k := .s) hu trivial (fun h => by cases h) hv w
  · rename_i hu; exact fine_bnd h fun v hv => run_nilBin (k := .m) hu trivial (fun h => by cases h) hv w
  · rename_i hu; exact fine_bnd h fun v hv => run_nilBin (k := .f) hu trivial (fun h => by cases h) hv w
  · rename_i hu
    split at h
    · rename_i hc; exact fine_bnd h fun v hv => run_nilBin (k := .i) hu trivial (fun _ => hc) hv w
    · exact (good_prs h).fine
  · exact (good_prs h).fine

theorem run_buildSlice_res {t : TypeId} {n : Nat} {ps : Array (Nat × Value)} (h : (resBuildSlice P t n ps.toList).run P w.heap K) : Fine P K w ((do pure (.value (← Instr.buildSlice t n ps)) : Sem Next).run P w) := by
  unfold resBuildSlice at h
  split at h
  · rename_i elem hu
    split at h
    · rename_i z m hz hm
      split at h
      · rename_i hle
        obtain ⟨c, hc, hk⟩ := h
        obtain ⟨zv, hzc, hzr⟩ := run_zero hz
        rw [Bool.and_eq_true] at hle
        have hle' : ¬ n * m > 2 ^ 24 := by have := Nat.le_of_ble_eq_true hle.1; omega
        refine fine_al (c := c) (E := elem) (mk := fun b => .slice (some ⟨b, 0, none⟩) n n) ?_ hk
        simp only [Instr.buildSlice, Sem.run_bind, run_underlying hu, Result.andThen_ok, run_szO hm, if_neg hle']
        have zeq : ∀ (z : Array Value) n, 0 < z.size → zeros z n = (Array.range n).map (z[· % z.size]!) := fun z n hz => by
          apply Array.ext_getElem?
          intro i
          simp only [zeros, List.getElem?_toArray, List.getElem?_map, Array.getElem?_map, Array.getElem?_range]
          by_cases hi : i < n
          · have hm := Nat.mod_lt i hz
            simp [hi, List.getD_eq_getElem?_getD, getElem!_pos, hm]
          · simp [hi]
        simp only [fillR] at hc
        by_cases h0 : n * m = 0
        · have hb : Nat.beq (n * m) 0 = true := by simp [h0]
          have hz0 : zeros #[] (n * m) = (Array.range (n * m)).map ((#[] : Array Value)[· % (#[] : Array Value).size]!) := by rw [h0]; simp [zeros]
          simp only [hb, cond_true, hz0] at hc
          simp only [if_pos h0, Sem.run_pure, Result.andThen_ok, hc, Sem.run_bind, newRow, run_newObj]
        · have hb : Nat.beq (n * m) 0 = false := by
            cases hb : Nat.beq (n * m) 0
            · rfl
            · exact absurd (Nat.eq_of_beq_eq_true hb) h0
          rw [hb, cond_false] at hc
          have hzs : 0 < z.size := by simpa [hb] using hle.2
          rw [zeq z _ hzs] at hc
          simp only [if_neg h0, Sem.run_bind, hzr, Sem.run_pure, Result.andThen_ok, hzc, hc, newRow, run_newObj]
      · exact h.elim
    · exact h.elim
  · exact h.elim

theorem fine_call {c : Call} {ty : TypeId} {ρ : Operand → Value} (h : (resCall P c ty ρ).run P w.heap K) : Fine P K w ((do let d ← resolve ρ c ty; invoke d.target d.args : Sem Next).run P w) := by
  obtain ⟨ce, args, at_⟩ := c
  unfold resCall at h
  simp only [mapA_eq] at h
  cases ce with
  | value f => exact callV_fine h
  | invoke r m =>
    obtain ⟨f, as, w', hr, hs, hk⟩ := h w rfl
    have e1 : (do let d ← resolve ρ ⟨.invoke r m, args, at_⟩ ty; invoke d.target d.args : Sem Next).run P w = (callMethod (ρ r) m (args.map ρ)).run P w := by
      have x0 : (#[ρ r] ++ args.map ρ)[0]? = some (ρ r) := by rw [Array.getElem?_append]; rfl
      have x1 : (#[ρ r] ++ args.map ρ).extract 1 (#[ρ r] ++ args.map ρ).size = args.map ρ := by
        apply Array.ext_getElem?
        intro i
        simp only [Array.getElem?_extract, Array.size_append, List.size_toArray, List.length_cons, List.length_nil, Array.getElem?_append]
        by_cases hi : i < (args.map ρ).size
        · rw [if_pos (by omega), if_neg (by omega)]; congr 1; omega
        · rw [if_neg (by omega), Array.getElem?_eq_none (by omega)]
      simp only [resolve, Sem.run_bind, Sem.run_pure, Result.andThen_ok, invoke, x0, x1]
    rw [e1, hr]
    exact ⟨hs, hk⟩
  | builtin b =>
    cases b <;> simp only at h <;> first
      | (exact h.elim)
      | exact (good_prs h).fine
      | exact (good_efs h).fine
      | (split at h
         · rename_i t x ht hx
           exact run_len_res ht hx h
         · exact h.elim)

theorem res_fine {o : Oper} {ρ : Operand → Value} (h : (res P o ρ).run P w.heap K) : Fine P K w ((execOp ρ o).run P w) := by
  obtain ⟨dst, op, ty, pos, aft, gd⟩ := o
  cases op <;> simp only [res, mapA_eq] at h <;> simp only [execOp] <;> first
    | exact h.elim
    | (exact ⟨.refl w, h⟩)
    | exact (good_prs h).fine
    | exact (good_rds h).fine
    | exact (good_efs h).fine
    | exact (good_efu h).fine
    | exact fine_call h
    | exact run_bin_res h
    | exact fine_bnd h fun v hv => run_unE hv
    | skip
  case pick c a b =>
    obtain ⟨v, hv, hk⟩ := h
    simp only [Option.map_eq_some_iff] at hv
    obtain ⟨t, ht, rfl⟩ := hv
    unfold asB at ht
    split at ht
    · rename_i t' hc
      obtain rfl := Option.some.inj ht
      rw [hc]
      simp only [asBool, Sem.run_bind, Sem.run_pure, Result.andThen_ok]
      exact ⟨.refl w, by cases t' <;> exact hk⟩
    · simp at ht
  case alloc t =>
    split at h
    · rename_i z hz
      obtain ⟨zv, hzc, hzr⟩ := run_zero hz
      refine fine_al (c := z) (E := t) (mk := ptr0) ?_ h
      simp only [Instr.alloc, Sem.run_bind, hzr, Result.andThen_ok, newVar, newRow, hzc, run_newObj, Sem.run_pure]
      rfl
    · exact h.elim
  case build t ps =>
    have e : (ps.toList.map fun (i, x) => (i, ρ x)) = (ps.map fun (i, x) => (i, ρ x)).toList := by simp
    rw [e] at h
    generalize hr : resBuild P t (ps.map fun (i, x) => (i, ρ x)).toList = r at h
    cases r with
    | pure x => exact fine_bnd h fun v hv => run_build hr hv
    | bad => exact h.elim
    | _ => exfalso; unfold resBuild at hr; (repeat' split at hr) <;> simp at hr
  case buildSlice t n ps =>
    have e : (ps.toList.map fun (i, x) => (i, ρ x)) = (ps.map fun (i, x) => (i, ρ x)).toList := by simp
    rw [e] at h
    exact run_buildSlice_res h
  case load t a =>
    split at h
    · rename_i n hn; exact fine_bnd h fun v hv => run_ldA hn hv
    · rename_i hn; exact fine_bnd h fun v hv => run_ldS hn hv
    · exact h.elim
  case store t a x =>
    split at h
    · rename_i n hn
      obtain ⟨h', hh, hk⟩ := h
      obtain ⟨w', hr, hs, rfl⟩ := run_stE hn hh
      exact (good_u hr hs hk).fine
    · exact h.elim
  case nilCheck x =>
    obtain ⟨v, hv, hk⟩ := h
    generalize ρ x = y at hv ⊢
    unfold nilE at hv
    split at hv <;> first
      | (simp at hv; done)
      | skip
    rename_i h1 h2 h3 h4
    obtain rfl := Option.some.inj hv
    split <;> first
      | exact (h1 rfl).elim
      | exact (h2 rfl).elim
      | exact (h3 rfl).elim
      | exact (h4 _ _ _ rfl).elim
      | exact ⟨.refl w, hk⟩
  case convert s d x =>
    unfold resConv at h
    split at h
    · rename_i hs hd; exact fine_bnd h fun v hv => run_convI hs hd hv
    · exact (good_efs h).fine
  case makeMap t r =>
    cases r with
    | none =>
      simp only [Option.map_none, Instr.makeMap, Sem.run_bind, run_newObj, Result.andThen_ok, Sem.run_pure]
      exact ⟨⟨rfl, rfl, rfl⟩, h⟩
    | some r => exact (good_efs h).fine
  case slice t x lo hi mx =>
    unfold resSlice at h
    split at h
    · exact (good_prs h).fine
    · rename_i hm
      rw [hm]
      split at h
      · rename_i hu
        split at h
        · rename_i n hn; exact fine_bnd h fun v hv => run_sliceE hu hn hv
        · exact h.elim
      · rename_i hu; exact fine_bnd h fun v hv => run_sliceS hu hv
      · exact (good_prs h).fine
  case fieldAddr s x f =>
    unfold resField at h
    split at h
    · rename_i hu
      split at h
      · rename_i hf
        split at h
        · rename_i hm; exact fine_bnd h fun v hv => run_fldE hu hf hm hv
        · exact h.elim
      · exact h.elim
    · exact h.elim
  case field s x f =>
    unfold resFieldV at h
    split at h
    · rename_i hu
      split at h
      · rename_i hf
        split at h
        · rename_i hk; exact fine_bnd h fun v hv => run_fieldE hu hf hk hv
        · exact h.elim
      · exact h.elim
    · exact h.elim
  case indexAddr t x i =>
    unfold resIndexA at h
    split at h
    · rename_i hu
      split at h
      · rename_i hn; exact fine_bnd h fun v hv => run_idxE hu hn hv
      · exact h.elim
    · rename_i hu
      split at h
      · rename_i hn; exact fine_bnd h fun v hv => run_idxA hu hn hv
      · exact h.elim
    · exact h.elim
  case index t x i =>
    unfold resIndexV at h
    split at h
    · rename_i hu
      split at h
      · rename_i hn hk; exact fine_bnd h fun v hv => run_idxV hu hn hk hv
      · exact h.elim
    · rename_i hu; exact fine_bnd h fun v hv => run_idxS hu hv
    · exact h.elim
  case extract t i =>
    refine fine_bnd h fun v hv => ?_
    unfold extE at hv
    split at hv
    · rename_i hx; rw [hx]; simp only [Instr.extract, hv, Sem.run_pure]
    · simp at hv

end
end Go.Fw
