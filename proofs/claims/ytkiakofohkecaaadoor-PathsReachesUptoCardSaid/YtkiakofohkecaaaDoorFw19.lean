/- The framework, part 19: slices and structs that come in, by their cells: what their parts read as. No condition. -/
import Derived.Test.YtkiakofohkecaaaDoorFw18
namespace Go.Fw
open Go Go.ChangeShapes Go.WideShapes Go.ChangeAt Go.RowKit

section
variable {H : Type} {enc : TypeId × Value → H} {P : Program} {w : World} {base : Nat} {spare : Nat → Bool} {held : Bool}

/-- A slice, wherever it stands: its records, k cells each, and the data that they read as. -/
theorem open_cells {t e k fuel : Nat} {cs : List Value} {x : DataW H × List MemPlace} (ht : P.underlying t = some (.slice e)) (hc : P.cellsOf e = k) (hk : 0 < k) (h : DataW.trod enc P w base spare held fuel t cs = some x) :
    ∃ (v : Value) (xs : List (List Value)) (ys : List (DataW H)), cs = [v] ∧ RowV w.heap k v xs ∧ xs.length = ys.length ∧ (x.1 = .nil ∧ ys = [] ∨ ∃ sp, x.1 = .slice ys sp) ∧
      ∀ (i : Nat) (c : List Value), xs[i]? = some c → ∃ n y, ys[i]? = some y.1 ∧ DataW.trod enc P w base spare held n e c = some y := by
  rcases DataW.trod_slice ht h with ⟨rfl, rfl⟩ | ⟨a', len, cap, elems, rest, n, _, rfl, rfl, hb, hl, hm, hlen, hel, _, _⟩
  · exact ⟨_, [], [], rfl, ⟨none, 0, rfl, fun h => absurd rfl h⟩, rfl, .inl ⟨rfl, rfl⟩, fun i c hi => by simp at hi⟩
  · have each : ∀ i, i < len → ∃ cs y, w.cells? base (a'.add (i * k)) k = some cs ∧ elems[i]? = some y ∧ DataW.trod enc P w base spare held n e cs = some y := fun i hi => by
      have h1 := hel i hi
      rw [hc, List.getElem?_eq_getElem (by omega)] at h1
      obtain ⟨cs, h2, h3⟩ := Option.bind_eq_some_iff.1 h1
      exact ⟨cs, _, h2, by simp [hlen, hi], h3⟩
    refine ⟨_, (List.range len).map fun i => (w.cells? base (a'.add (i * k)) k).getD [], elems.map (·.1), rfl, ⟨some a', cap, by simp, fun hne => ?_⟩, by simp [hlen], .inr ⟨_, rfl⟩, fun i x hi => ?_⟩
    · have hl0 : 0 < len := by
        rcases Nat.eq_zero_or_pos len with h | h
        · subst h; simp at hne
        · exact h
      obtain ⟨b, o, sp⟩ := a'
      obtain ⟨cs0, _, hc0, _⟩ := each 0 hl0
      have h00 := (World.cells?_some hc0).2.2 0 hk
      have hsp : sp = none := by
        have h0l := (World.cells?_some hc0).2.1
        have h0s : cs0[0]? = some cs0[0] := by simp
        rw [h0s] at h00
        simpa [Addr.add] using World.cell?_spot h00
      subst hsp
      refine ⟨b, o, rfl, ?_⟩
      have cellAt : ∀ i, i < len → ∀ j, j < k → ∃ cs, w.cells? base ((⟨b, o, none⟩ : Addr).add (i * k)) k = some cs ∧ cs.length = k ∧ w.cell? ⟨b, o + i * k + j, none⟩ = cs[j]? := fun i hi j hj => by
        obtain ⟨cs, _, h2, _⟩ := each i hi
        refine ⟨cs, h2, (World.cells?_some h2).2.1, ?_⟩
        have := (World.cells?_some h2).2.2 j hj
        rwa [add_none, add_none] at this
      obtain ⟨c, E, f, hblk⟩ : ∃ c E f, w.heap[b]? = some (.cells c E f) := by
        obtain ⟨cs, _, hl', h1⟩ := cellAt 0 hl0 0 hk
        have h0s : cs[0]? = some cs[0] := by simp
        rw [h0s] at h1
        unfold World.cell? at h1
        simp at h1
        split at h1
        · rename_i c E f h; exact ⟨c, E, f, h⟩
        · cases h1
      have cellc : ∀ n, w.cell? ⟨b, n, none⟩ = c[n]? := fun n => by simp [World.cell?, hblk]
      refine ⟨c, E, f, hblk, ?_, ?_, ?_⟩
      · obtain ⟨cs, _, hl', h1⟩ := cellAt (len - 1) (by omega) (k - 1) (by omega)
        rw [cellc, show cs[k - 1]? = some (cs[k - 1]'(by omega)) by simp] at h1
        have := (Array.getElem?_eq_some_iff.1 h1).1
        simp only [List.length_map, List.length_range]
        have h2 : len * k = (len - 1) * k + k := by rw [← Nat.succ_mul]; congr 1; omega
        omega
      · intro x hx'
        obtain ⟨i, hi, rfl⟩ := List.mem_map.1 hx'
        obtain ⟨cs, h2, hl', _⟩ := cellAt i (by simpa using hi) 0 hk
        rw [h2]; exact hl'
      · intro i j x hi hj
        have hil : i < len := by have := (List.getElem?_eq_some_iff.1 hi).1; simpa using this
        obtain ⟨cs, h2, _, h1⟩ := cellAt i hil j hj
        simp [hil, h2] at hi
        subst hi
        rw [← cellc]; exact h1
    · have hil : i < len := by have := (List.getElem?_eq_some_iff.1 hi).1; simpa using this
      obtain ⟨cs, y, h2, he, h3⟩ := each i hil
      simp [hil, h2] at hi
      subst hi
      exact ⟨n, y, by simp [he], h3⟩

/-- A struct: its fields, by their types and places. -/
theorem open_fields {t fuel : Nat} {fs : Array Field} {tys : List (TypeId × Nat)} {cs : List Value} {x : DataW H × List MemPlace} (ht : P.underlying t = some (.struct fs)) (hf : fs.toList.map (fun f => (f.type, f.offset)) = tys) (h : DataW.trod enc P w base spare held fuel t cs = some x) :
    ∃ (ys : List (DataW H)) (n : Nat), x.1 = .agg ys ∧ cs.length = P.cellsOf t ∧ ys.length = tys.length ∧ ∀ (i : Nat) (ty : TypeId) (off : Nat), tys[i]? = some (ty, off) → ∃ y, ys[i]? = some y.1 ∧ DataW.trod enc P w base spare held n ty ((cs.drop off).take (P.cellsOf ty)) = some y := by
  obtain ⟨xs, n, _, rfl, hl, hlen, hfd⟩ := DataW.trod_struct ht h
  refine ⟨xs.map (·.1), n, rfl, hl, by rw [← hf]; simp [hlen], fun i ty off hi => ?_⟩
  rw [← hf, List.getElem?_map] at hi
  obtain ⟨f, hf1, hf2⟩ := Option.map_eq_some_iff.1 hi
  obtain ⟨rfl, rfl⟩ := Prod.mk.inj hf2
  have h1 := hfd i f (by simpa using hf1)
  have hix : i < xs.length := by
    have := (List.getElem?_eq_some_iff.1 hf1).1
    simp at this; omega
  rw [List.getElem?_eq_getElem hix] at h1
  exact ⟨xs[i], by simp [hix], h1⟩
end
end Go.Fw
