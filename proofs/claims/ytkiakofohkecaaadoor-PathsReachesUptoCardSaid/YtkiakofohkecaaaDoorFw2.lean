/- The framework, part 2: each operation, seen on the heap alone, is what the model does. No condition. -/
import Derived.Test.YtkiakofohkecaaaDoorFw1
namespace Go.Fw
open Go

/-- What is owed of a run of one operation. -/
def Good (K : Value → Hp → Prop) (w : World) : Result Next → Prop
  | .ok (.value v) w' => same w w' ∧ K v w'.heap
  | .ok .skip w' => same w w' ∧ K undef w'.heap
  | _ => False

section
variable {P : Program}

theorem andThen_some {α β : Type} {r : Result α} {a : α} {w : World} {f : α → World → Result β} (h : r = .ok a w) : r.andThen f = f a w := by rw [h]; rfl

theorem run_szO {t : TypeId} {n : Nat} (h : szO P t = some n) (w : World) : (sizeOf t).run P w = .ok n w := by
  unfold szO at h
  cases hi : P.info? t with
  | none => simp [hi] at h
  | some i => simp [hi] at h; simp [sizeOf, typeInfo, hi, h]

theorem run_zero {t : TypeId} {z : Array Value} (h : zeroC P t = some z) : ∃ v, v.cells = z ∧ ∀ w, (zeroValue t).run P w = .ok v w := by
  unfold zeroC at h
  cases hi : P.info? t with
  | none => simp [hi] at h
  | some i =>
    cases hz : i.zero with
    | none => simp [hi, hz] at h
    | some v => simp [hi, hz] at h; exact ⟨v, h, fun w => by simp [zeroValue, typeInfo, hi, hz]⟩

theorem ldK_none {t : TypeId} (h : ldK P t = some none) (w : World) : (isAgg t).run P w = .ok false w := by
  unfold ldK at h
  cases hu : P.underlying t with
  | none => simp [hu] at h
  | some d =>
    cases d <;> simp only [hu] at h <;> first
      | (simp [isAgg, run_underlying hu]; done)
      | (split at h <;> simp at h)
theorem ldK_some {t : TypeId} {n : Nat} (h : ldK P t = some (some n)) (w : World) : (isAgg t).run P w = .ok true w ∧ (sizeOf t).run P w = .ok n w := by
  unfold ldK at h
  cases hu : P.underlying t with
  | none => simp [hu] at h
  | some d =>
    cases d <;> simp only [hu] at h <;> first
      | (simp at h; done)
      | (split at h
         · rename_i m hm
           obtain rfl : m = n := by simpa using h
           exact ⟨by simp [isAgg, run_underlying hu], run_szO hm w⟩
         · simp at h)

theorem add_none (b o n : Nat) : (⟨b, o, none⟩ : Addr).add n = ⟨b, o + n, none⟩ := by unfold Addr.add; split <;> simp_all

theorem run_ldS {t : TypeId} (h : ldK P t = some none) {w : World} {a x : Value} (hx : ldS w.heap a = some x) : (Instr.loadAt t a).run P w = .ok x w := by
  unfold ldS at hx
  split at hx
  · rename_i b o
    split at hx
    · rename_i c E fz hb
      have hc : w.cell? ⟨b, o, none⟩ = some x := by simp [World.cell?, hb]; simpa using hx
      simp [Instr.loadAt, Instr.sureAddr, loadVar, ldK_none h, hc]
    · simp at hx
  · simp at hx

theorem cells_extract {c : Array Value} {o n : Nat} (h : o + n ≤ c.size) : (c.extract o (o + n)).toList.length = n := by simp; omega

theorem run_ldA {t : TypeId} {n : Nat} (h : ldK P t = some (some n)) {w : World} {a x : Value} (hx : ldA n w.heap a = some x) : (Instr.loadAt t a).run P w = .ok x w := by
  unfold ldA at hx
  split at hx
  · rename_i b o
    split at hx
    · rename_i c E fz hb
      split at hx
      · rename_i hle
        have hl := run_loadCells_list (P := P) w ⟨b, o, none⟩ (c.extract o (o + n)).toList (fun j v hv => by
          rw [add_none]
          have hj : j < (c.extract o (o + n)).toList.length := (List.getElem?_eq_some_iff.1 hv).1
          rw [cells_extract hle] at hj
          simp only [World.cell?, hb, Option.isSome_none, Bool.false_eq_true, if_false]
          rw [← hv, Array.getElem?_toList, Array.getElem?_extract, if_pos (by omega)])
        rw [cells_extract hle] at hl
        obtain rfl : Value.agg (c.extract o (o + n)) = x := by simpa using hx
        simp only [Array.toArray_toList] at hl
        simp [Instr.loadAt, Instr.sureAddr, loadVar, (ldK_some h w).1, (ldK_some h w).2, hl]
      · simp at hx
    · simp at hx
  · simp at hx

theorem setRow_heap_eq {w : World} {b : Nat} {c cs : Array Value} {E : TypeId} (hb : w.heap[b]? = some (.cells c E (0, 0))) :
    (w.setRow b cs).heap = w.heap.setIfInBounds b (.cells cs E (0, 0)) := by
  apply Array.ext_getElem?
  intro i
  simp only [World.setRow, Array.getElem?_modify, Array.getElem?_setIfInBounds]
  by_cases hi : b = i
  · subst hi
    have : b < w.heap.size := (Array.getElem?_eq_some_iff.1 hb).1
    simp only [if_true, if_pos this, hb, Option.map_some]
  · simp [hi]

theorem run_stE {t : TypeId} {n : Nat} (h : szO P t = some n) {w : World} {a v : Value} {h' : Hp} (hx : stE n w.heap a v = some h') :
    ∃ w', (Instr.storeAt t a v).run P w = .ok () w' ∧ same w w' ∧ w'.heap = h' := by
  unfold stE at hx
  split at hx
  · rename_i b o
    split at hx
    · rename_i c E hb
      split at hx
      · rename_i hc
        obtain ⟨h1, h2, h3⟩ := hc
        obtain rfl := (Option.some.inj hx)
        have hst := run_storeCells_at P b o E v.cells.toList 0 c w hb (by simp; omega) (List.all_eq_true.1 h3)
        refine ⟨_, ?_, ?_, setRow_heap_eq hb⟩
        · simp only [Instr.storeAt, Instr.sureAddr, storeVar, Sem.run_bind, Sem.run_pure, Result.andThen_ok, run_szO h, h1, ne_eq, not_true_eq_false, if_false]
          simpa [splice] using hst
        · exact ⟨rfl, rfl, rfl⟩
      · simp at hx
    · simp at hx
  · simp at hx

theorem good_v {K : Value → Hp → Prop} {w w' : World} {s : Sem Value} {v : Value} (h : s.run P w = .ok v w') (hs : same w w') (hk : K v w'.heap) :
    Good K w ((do pure (.value (← s)) : Sem Next).run P w) := by
  simp only [Sem.run_bind, h, Result.andThen_ok, Sem.run_pure]; exact ⟨hs, hk⟩
theorem good_u {K : Value → Hp → Prop} {w w' : World} {s : Sem Unit} (h : s.run P w = .ok () w') (hs : same w w') (hk : K undef w'.heap) :
    Good K w ((do s; pure .skip : Sem Next).run P w) := by
  simp only [Sem.run_bind, h, Result.andThen_ok, Sem.run_pure]; exact ⟨hs, hk⟩

theorem good_prs {K : Value → Hp → Prop} {w : World} {s : Sem Value} (h : prS P s fun v => K v w.heap) : Good K w ((do pure (.value (← s)) : Sem Next).run P w) :=
  let ⟨_, hv, hk⟩ := h; good_v (hv w) (.refl w) hk
theorem good_rds {K : Value → Hp → Prop} {w : World} {s : Sem Value} (h : rdS P s w.heap fun v => K v w.heap) : Good K w ((do pure (.value (← s)) : Sem Next).run P w) :=
  let ⟨_, hv, hk⟩ := h; good_v (hv w rfl) (.refl w) hk
theorem good_efs {K : Value → Hp → Prop} {w : World} {s : Sem Value} (h : efS P s w.heap K) : Good K w ((do pure (.value (← s)) : Sem Next).run P w) :=
  let ⟨_, _, hr, hs, hk⟩ := h w rfl; good_v hr hs hk
theorem good_efu {K : Value → Hp → Prop} {w : World} {s : Sem Unit} (h : efS P s w.heap fun _ h' => K undef h') : Good K w ((do s; pure .skip : Sem Next).run P w) :=
  let ⟨_, _, hr, hs, hk⟩ := h w rfl; good_u hr hs hk

theorem run_binE {op : BinOp} {t : TypeId} {x y : Operand} {a b v : Value} (h : binE op a b = some v) (w : World) :
    (binS op t x y a b).run P w = .ok v w := by
  unfold binS
  unfold binE at h
  split at h
  · rename_i k n k' m
    cases op <;> simp only [intE] at h <;> first
      | (by_cases hk : k = k'
         · subst hk
           simp only [if_true] at h
           first
             | (obtain rfl := Option.some.inj h; simp [go_sem, Op.intArith, Op.intBits]; done)
             | (split at h
                · simp at h
                · rename_i hm; obtain rfl := Option.some.inj h; simp [go_sem, Op.intDiv, hm]; done)
         · simp [hk] at h)
      | (split at h
         · simp at h
         · rename_i hm; obtain rfl := Option.some.inj h; simp [go_sem, Op.shift, hm]; done)
  · rename_i s t'
    cases op <;> simp only [strE, cmpE] at h <;> first
      | (simp at h; done)
      | (obtain rfl := Option.some.inj h; simp only [eqGuard_at_string, Sem.run_bind, Sem.run_pure, Result.andThen_ok]; rfl)
      | (split at h
         · simp at h
         · rename_i hm
           obtain rfl := Option.some.inj h
           simp only [eqGuard_at_string, Sem.run_bind, Sem.run_pure, Result.andThen_ok]
           show (Op.stringOp .add s t').run P w = _
           unfold Op.stringOp
           rw [if_neg hm]
           rfl)
  · simp at h

theorem equal_of {t : TypeId} {x y : Value} {b : Bool} {w : World} (h : ∀ d, (Op.equalIn (d + 1) t x y).run P w = .ok b w) : (Op.equal t x y).run P w = .ok b w := h 9999

theorem run_eql_of {op : BinOp} {t : TypeId} {a b v : Value} {c : Bool} {w : World} (hop : op = .eql ∧ v = .bool c ∨ op = .neq ∧ v = .bool !c) (he : (Op.equal t a b).run P w = .ok c w)
    (hq : ∀ op, binOp op t a b = match op with | .eql => (do pure (.bool (← Op.equal t a b)) : Sem Value) | .neq => (do pure (.bool (!(← Op.equal t a b))) : Sem Value) | _ => binOp op t a b) :
    (binOp op t a b).run P w = .ok v w := by
  rcases hop with ⟨rfl, rfl⟩ | ⟨rfl, rfl⟩
  · rw [hq]; simp [he]
  · rw [hq]; simp [he]

theorem run_binB {op : BinOp} {t : TypeId} (hd : P.underlying t = some .bool) {x y : Operand} {a b v : Value} (h : binB op a b = some v) (w : World) :
    (binS op t x y a b).run P w = .ok v w := by
  unfold binS
  unfold binB at h
  split at h
  · rename_i c c'
    have he : (Op.equal t (.bool c) (.bool c')).run P w = .ok (c == c') w := equal_of fun d => by
      simp only [Op.equalIn, Sem.run_bind, run_underlying hd, Result.andThen_ok]
      rfl
    simp only [eqGuard_at_bool, Sem.run_bind, Sem.run_pure, Result.andThen_ok]
    refine run_eql_of (c := c == c') ?_ he (fun op => by cases op <;> rfl)
    cases op <;> simp only at h <;> first
      | (simp at h; done)
      | exact .inl ⟨rfl, (Option.some.inj h).symm⟩
      | exact .inr ⟨rfl, (Option.some.inj h).symm⟩
  · simp at h

def NilK.fits (k : NilK) (d : TypeDesc) : Prop :=
  match k, d with
  | .p, .pointer _ | .s, .slice _ | .m, .map _ _ | .f, .func _ _ _ | .i, .interface _ => True
  | _, _ => False

theorem run_nilBin {k : NilK} {op : BinOp} {t : TypeId} {d : TypeDesc} (hd : P.underlying t = some d) (hk : k.fits d) {x y : Operand} {a b v : Value} (hc : k = .i → (isConst x || isConst y) = true) (h : nilBin k op a b = some v) (w : World) :
    (binS op t x y a b).run P w = .ok v w := by
  obtain ⟨c, hn, hop⟩ : ∃ c, nilEq k a b = some c ∧ (op = .eql ∧ v = .bool c ∨ op = .neq ∧ v = .bool !c) := by
    unfold nilBin at h
    cases op <;> simp only at h <;> first
      | (simp at h; done)
      | (cases hn : nilEq k a b with
         | none => simp [hn] at h
         | some c => simp only [hn, Option.map_some] at h; first | exact ⟨c, rfl, .inl ⟨rfl, (Option.some.inj h).symm⟩⟩ | exact ⟨c, rfl, .inr ⟨rfl, (Option.some.inj h).symm⟩⟩)
  have hg : (eqGuard op t x y a b) = pure () := by
    unfold nilEq at hn
    split at hn <;> first
      | (rcases hop with ⟨rfl, _⟩ | ⟨rfl, _⟩ <;> rfl)
      | (simp at hn; done)
      | (have := hc rfl
         cases x <;> cases y <;> first
           | (simp [isConst] at this; done)
           | (rcases hop with ⟨rfl, _⟩ | ⟨rfl, _⟩ <;> rfl))
  have he : (Op.equal t a b).run P w = .ok c w := equal_of fun n => by
    unfold nilEq at hn
    split at hn <;> first
      | (simp at hn; done)
      | (cases d <;> first
          | exact hk.elim
          | (simp only [Op.equalIn, Sem.run_bind, run_underlying hd, Result.andThen_ok]
             obtain rfl := Option.some.inj hn
             rfl)
          | (rename_i o _
             cases o <;> (simp only [Op.equalIn, Sem.run_bind, run_underlying hd, Result.andThen_ok]
                          obtain rfl := Option.some.inj hn
                          rfl))
          | (rename_i o
             cases o <;> (simp only [Op.equalIn, Sem.run_bind, run_underlying hd, Result.andThen_ok]
                          obtain rfl := Option.some.inj hn
                          rfl)))
  unfold binS
  rw [hg]
  simp only [Sem.run_bind, Sem.run_pure, Result.andThen_ok]
  refine run_eql_of hop he (fun op => ?_)
  unfold nilEq at hn
  split at hn <;> first
    | (simp at hn; done)
    | (cases op <;> rfl)

end
end Go.Fw
