/- The framework, part 3: each operation, seen on the heap alone, is what the model does (second half). No condition. -/
import Derived.Test.YtkiakofohkecaaaDoorFw2
namespace Go.Fw
open Go

/-- What is owed of a run of one operation, a call of a Go function among them. -/
def Fine (P : Program) (K : Value → Hp → Prop) (w : World) : Result Next → Prop
  | .ok (.value v) w' => same w w' ∧ K v w'.heap
  | .ok .skip w' => same w w' ∧ K undef w'.heap
  | .ok (.enter f args) w' => same w w' ∧ CallsH P f args w'.heap K
  | _ => False

section
variable {P : Program} {K : Value → Hp → Prop} {w : World}

theorem Good.fine {r : Result Next} (h : Good K w r) : Fine P K w r := by
  unfold Good at h
  split at h <;> first | exact h | exact h.elim

theorem fine_val {s : Sem Value} {v : Value} (h : s.run P w = .ok v w) (hk : K v w.heap) : Fine P K w ((do pure (.value (← s)) : Sem Next).run P w) :=
  (good_v h (.refl w) hk).fine

theorem run_part {t : TypeId} {k : Option Nat} (h : ldK P t = some k) {cs : Array Value} {off : Nat} {v : Value} (hv : partE k off cs = some v) : (part t cs off).run P w = .ok v w := by
  unfold partE at hv
  cases k with
  | none => simp only at hv; simp [part, ldK_none h, hv]
  | some n => simp only [Option.some.injEq] at hv; simp [part, (ldK_some h w).1, (ldK_some h w).2, hv]

theorem run_asIntOf (k : IntKind) (n : Int) : (asIntOf (.int k n)).run P w = .ok (k, n) w := rfl

theorem run_idxE {t elem : TypeId} {n : Nat} (hu : P.underlying t = some (.slice elem)) (hn : szO P elem = some n) {x i v : Value} (h : idxE n x i = some v) : (Instr.indexAt t x i).run P w = .ok v w := by
  unfold idxE at h
  split at h
  · rename_i b o len cap k m
    split at h
    · rename_i hb
      obtain rfl := Option.some.inj h
      simp only [Instr.indexAt, Sem.run_bind, run_asIntOf, Result.andThen_ok, run_underlying hu, Sem.run_pure]
      rw [if_pos hb]
      simp only [Sem.run_bind, run_szO hn, Result.andThen_ok, Sem.run_pure, add_none]
    · simp at h
  · simp at h

theorem run_idxA {t elem : TypeId} {len n : Nat} (hu : P.underlying t = some (.array len elem)) (hn : szO P elem = some n) {x i v : Value} (h : idxA len n x i = some v) : (Instr.indexAt t x i).run P w = .ok v w := by
  unfold idxA at h
  split at h
  · rename_i b o k m
    split at h
    · rename_i hb
      obtain rfl := Option.some.inj h
      simp only [Instr.indexAt, Sem.run_bind, run_asIntOf, Result.andThen_ok, run_underlying hu, Sem.run_pure, Instr.sureAddr]
      rw [if_pos hb]
      simp only [Sem.run_bind, run_szO hn, Result.andThen_ok, Sem.run_pure, add_none]
    · simp at h
  · simp at h

theorem run_idxV {t elem : TypeId} {len n : Nat} {kd : Option Nat} (hu : P.underlying t = some (.array len elem)) (hn : szO P elem = some n) (hk : ldK P elem = some kd) {x i v : Value} (h : idxV kd len n x i = some v) :
    (Instr.index t x i).run P w = .ok v w := by
  unfold idxV at h
  split at h
  · rename_i cs k m
    split at h
    · rename_i hb
      simp only [Instr.index, Sem.run_bind, run_asIntOf, Result.andThen_ok, run_underlying hu]
      rw [if_pos hb]
      simp only [Sem.run_bind, run_szO hn, Result.andThen_ok]
      exact run_part hk h
    · simp at h
  · simp at h

theorem run_idxS {t : TypeId} (hu : P.underlying t = some .string) {x i v : Value} (h : idxS x i = some v) : (Instr.index t x i).run P w = .ok v w := by
  unfold idxS at h
  split at h
  · rename_i s k m
    split at h
    · rename_i hb
      cases hs : s[m.toNat]? with
      | none => simp [hs] at h
      | some c =>
        simp only [hs, Option.map_some, Option.some.injEq] at h
        subst h
        simp only [Instr.index, Sem.run_bind, run_asIntOf, Result.andThen_ok, run_underlying hu, if_pos hb, hs, Sem.run_pure]
    · simp at h
  · simp at h

theorem run_fldE {s : TypeId} {fs : Array Field} {i m : Nat} {f : Field} (hu : P.underlying s = some (.struct fs)) (hf : fs[i]? = some f) (hm : szO P f.type = some (m + 1)) {x v : Value} (h : fldE f.offset x = some v) :
    (Instr.fieldAt s x i).run P w = .ok v w := by
  unfold fldE at h
  split at h
  · obtain rfl := Option.some.inj h
    simp only [Instr.fieldAt, Sem.run_bind, run_underlying hu, Result.andThen_ok, hf, Instr.sureAddr, Sem.run_pure, fieldPlace, run_szO hm]
    rw [if_neg (by omega)]
    simp [add_none]
  · simp at h

theorem run_fieldE {s : TypeId} {fs : Array Field} {i : Nat} {f : Field} {k : Option Nat} (hu : P.underlying s = some (.struct fs)) (hf : fs[i]? = some f) (hk : ldK P f.type = some k) {x v : Value} (h : fieldE k f.offset x = some v) :
    (Instr.field s x i).run P w = .ok v w := by
  unfold fieldE at h
  split at h
  · simp only [Instr.field, Sem.run_bind, run_underlying hu, Result.andThen_ok, hf, asAgg, Sem.run_pure]
    exact run_part hk h
  · simp at h

theorem run_bndE {y m : Nat} {v : Value} {code : BoundsCode} (h : bndE y v = some m) : (Instr.sliceBound v y code).run P w = .ok m w := by
  unfold bndE at h
  split at h
  · split at h
    · rename_i hb
      obtain rfl := Option.some.inj h
      simp only [Instr.sliceBound, Sem.run_bind, run_asIntOf, Result.andThen_ok, if_pos hb, Sem.run_pure]
    · simp at h
  · simp at h

theorem run_bounds {sl : Bool} {len cap l h : Nat} {lo hi : Option Value} (hh : hiE len cap hi = some h) (hl : loE h lo = some l) :
    (Instr.sliceBounds sl len cap lo hi none).run P w = .ok (l, h, cap) w := by
  cases hi with
  | none =>
    obtain rfl := Option.some.inj hh
    cases lo with
    | none => obtain rfl := Option.some.inj hl; simp [Instr.sliceBounds]
    | some v => simp only [loE] at hl; simp [Instr.sliceBounds, run_bndE hl]
  | some u =>
    simp only [hiE] at hh
    cases lo with
    | none => obtain rfl := Option.some.inj hl; simp [Instr.sliceBounds, run_bndE hh]
    | some v => simp only [loE] at hl; simp [Instr.sliceBounds, run_bndE hl, run_bndE hh]

theorem run_sliceE {t elem : TypeId} {n : Nat} (hu : P.underlying t = some (.slice elem)) (hn : szO P elem = some n) {x v : Value} {lo hi : Option Value} (h : sliceE n x lo hi = some v) :
    (Instr.sliceAt t x lo hi none).run P w = .ok v w := by
  unfold sliceE at h
  split at h
  · rename_i a len cap
    simp only [Option.bind_eq_some_iff] at h
    obtain ⟨m, hm, l, hl, hv⟩ := h
    obtain rfl := Option.some.inj hv
    simp only [Instr.sliceAt, Instr.slice, Sem.run_bind, run_underlying hu, Result.andThen_ok, run_bounds hm hl, run_szO hn, Sem.run_pure]
  · simp at h

theorem run_sliceS {t : TypeId} (hu : P.underlying t = some .string) {x v : Value} {lo hi : Option Value} (h : sliceS x lo hi = some v) :
    (Instr.sliceAt t x lo hi none).run P w = .ok v w := by
  unfold sliceS at h
  split at h
  · rename_i s
    simp only [Option.bind_eq_some_iff] at h
    obtain ⟨m, hm, l, hl, hv⟩ := h
    obtain rfl := Option.some.inj hv
    simp only [Instr.sliceAt, Instr.slice, Sem.run_bind, run_underlying hu, Result.andThen_ok, Option.isSome_none, Bool.false_eq_true, if_false, run_bounds hm hl, Sem.run_pure]
  · simp at h

theorem run_places {fs : List Field} {pl : List (Nat × Nat)} (h : places P fs = some pl) : (fs.mapM (fun f => do pure (f.offset, ← sizeOf f.type) : Field → Sem (Nat × Nat))).run P w = .ok pl w := by
  induction fs generalizing pl with
  | nil => simp [places] at h; subst h; simp
  | cons f r ih =>
    unfold places at h
    split at h
    · rename_i n l hn hl
      obtain rfl := Option.some.inj h
      simp only [List.mapM_cons, Sem.run_bind, run_szO hn, Result.andThen_ok, Sem.run_pure, ih hl]
    · simp at h

theorem run_build {t : TypeId} {ps : Array (Nat × Value)} {v : Value} {x : Option Value} (hr : resBuild P t ps.toList = .pure x) (hx : x = some v) : (Instr.build t ps).run P w = .ok v w := by
  subst hx
  unfold resBuild at hr
  split at hr
  · simp at hr
  · rename_i z hz
    obtain ⟨zv, hzc, hzr⟩ := run_zero hz
    split at hr
    · rename_i fs hu
      split at hr
      · rename_i pl hpl
        simp only [Res.pure.injEq, Option.map_eq_some_iff] at hr
        obtain ⟨cells, hc, rfl⟩ := hr
        have hm := run_places (w := w) hpl
        have hm' : (fs.mapM (fun f => do pure (f.offset, ← sizeOf f.type) : Field → Sem (Nat × Nat))).run P w = .ok pl.toArray w := by
          rw [Array.mapM_eq_mapM_toList]
          simp only [Sem.run_map, hm, Result.andThen_ok]
        simp only [Instr.build, Sem.run_bind, hzr, Result.andThen_ok, run_underlying hu, hm', hzc]
        simp only [fillS] at hc
        simp only [List.getElem?_toArray, hc, Sem.run_pure]
      · simp at hr
    · rename_i len elem hu
      split at hr
      · rename_i n hn
        simp only [Res.pure.injEq, Option.map_eq_some_iff] at hr
        obtain ⟨cells, hc, rfl⟩ := hr
        simp only [fillR] at hc
        simp only [Instr.build, Sem.run_bind, hzr, Result.andThen_ok, run_underlying hu, run_szO hn, hzc, hc, Sem.run_pure]
      · simp at hr
    · simp at hr

theorem callFunc_fine {f : FuncId} {args : Array Value} (ho : okF P f = true) (h : CallsH P f args w.heap K) : Fine P K w ((callFunc f args).run P w) := by
  unfold okF at ho
  split at ho
  · rename_i fn hf
    simp only [Bool.and_eq_true, Bool.not_eq_true', ] at ho
    simp only [callFunc, Sem.run_bind, run_program, Result.andThen_ok, hf, ho.1, ho.2, Bool.false_eq_true, if_false, Sem.run_pure]
    exact ⟨.refl w, h⟩
  · simp at ho

theorem callV_fine {f : Value} {args : Array Value} (h : callV P f args w.heap K) : Fine P K w ((do let d ← Deferred.ofValue f args; invoke d.target d.args : Sem Next).run P w) := by
  unfold callV at h
  split at h
  · rename_i g first cap
    split at h
    · rename_i ho
      simp only [Deferred.ofValue, Sem.run_bind, Sem.run_pure, Result.andThen_ok, invoke]
      have e : cat3 first args cap = first ++ args ++ cap := by simp [cat3]
      rw [e] at h
      exact callFunc_fine ho h
    · exact h.elim
  · exact h.elim

end
end Go.Fw
