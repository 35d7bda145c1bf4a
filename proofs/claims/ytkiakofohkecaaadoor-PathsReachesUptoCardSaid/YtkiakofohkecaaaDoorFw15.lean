/- The framework, part 15: from a row's arguments to what a walk asks, and from what a walk gives to what a row asks. No condition. -/
import Derived.Test.YtkiakofohkecaaaDoorFw14
import Derived.WalkKit
import Derived.ProofKit
import Derived.OpenShut
import Derived.JoinedCond
import Derived.Carry
import Derived.WideKeyArgs
import Derived.ChangeArms
import Derived.DataReads
namespace Go.Fw
open Go Go.ChangeShapes Go.WideShapes Go.ChangeAt Go.RowKit

/-- A slice that comes in: its records, k cells each, each of which reads as a datum. -/
theorem open_rowv {H : Type} {enc : TypeId × Value → H} {P : Program} {w : World} {r : Reach} {base b0 : Nat} {spare : Nat → Bool} {held : Bool} {t e k : Nat} {v : Value} {d : DataW H} {ps : List MemPlace}
    (ht : P.underlying t = some (.slice e)) (hc : P.cellsOf e = k) (hv : Value.okWide P w r b0 t v) (h : DataW.Trod enc P w base spare held t v d ps) :
    ∃ (xs : List (List Value)) (es sp : List (DataW H)), (d = .nil ∧ xs = [] ∨ d = .slice es sp ∧ es.length = xs.length) ∧ (0 < k → RowV w.heap k v xs) ∧
      ∀ (i : Nat) (x : List Value), xs[i]? = some x → ∃ n y, DataW.trod enc P w base spare held n e x = some y := by
  obtain ⟨a, len, cap, rfl⟩ := okWide_slice ht hv
  obtain ⟨fuel, hf⟩ := h
  rcases DataW.trod_slice ht hf with ⟨hcs, hx⟩ | ⟨a', len', cap', elems, rest, n, _, hcs, hx, hb, hl, hm, hlen, hel, _, _⟩
  · simp only [Value.cells, List.cons.injEq, Value.slice.injEq, and_true] at hcs
    obtain ⟨rfl, rfl, rfl⟩ := hcs
    simp only [Prod.mk.injEq] at hx
    exact ⟨[], [], [], .inl ⟨hx.1, rfl⟩, fun _ => ⟨none, 0, rfl, fun h => absurd rfl h⟩, fun i x hi => by simp at hi⟩
  · simp only [Value.cells, List.cons.injEq, Value.slice.injEq, and_true] at hcs
    obtain ⟨rfl, rfl, rfl⟩ := hcs
    simp only [Prod.mk.injEq] at hx
    have each : ∀ i, i < len → ∃ cs y, w.cells? base (a'.add (i * k)) k = some cs ∧ DataW.trod enc P w base spare held n e cs = some y := fun i hi => by
      have h1 := hel i hi
      rw [hc, List.getElem?_eq_getElem (by omega)] at h1
      obtain ⟨cs, h2, h3⟩ := Option.bind_eq_some_iff.1 h1
      exact ⟨cs, _, h2, h3⟩
    refine ⟨(List.range len).map fun i => (w.cells? base (a'.add (i * k)) k).getD [], elems.map (·.1), rest.map (·.1), .inr ⟨hx.1, by simp [hlen]⟩, fun hk => ⟨some a', cap, by simp, fun hne => ?_⟩, fun i x hi => ?_⟩
    · have hl0 : 0 < len := by
        rcases Nat.eq_zero_or_pos len with h | h
        · subst h; simp at hne
        · exact h
      obtain ⟨b, o, sp⟩ := a'
      obtain ⟨cs0, _, hc0, _⟩ := each 0 hl0
      have h00 := (World.cells?_some hc0).2.2 0 hk
      have hsp : sp = none := by
        have h0l := (World.cells?_some hc0).2.1
        have h0s : cs0[0]? = some cs0[0] := by simp
        rw [h0s] at h00
        simpa [Addr.add] using World.cell?_spot h00
      subst hsp
      refine ⟨b, o, rfl, ?_⟩
      have cellAt : ∀ i, i < len → ∀ j, j < k → ∃ cs, w.cells? base ((⟨b, o, none⟩ : Addr).add (i * k)) k = some cs ∧ cs.length = k ∧ w.cell? ⟨b, o + i * k + j, none⟩ = cs[j]? := fun i hi j hj => by
        obtain ⟨cs, _, h2, _⟩ := each i hi
        refine ⟨cs, h2, (World.cells?_some h2).2.1, ?_⟩
        have := (World.cells?_some h2).2.2 j hj
        rwa [add_none, add_none] at this
      obtain ⟨c, E, f, hblk⟩ : ∃ c E f, w.heap[b]? = some (.cells c E f) := by
        obtain ⟨cs, _, hl', h1⟩ := cellAt 0 hl0 0 hk
        have h0s : cs[0]? = some cs[0] := by simp
        rw [h0s] at h1
        unfold World.cell? at h1
        simp at h1
        split at h1
        · rename_i c E f h; exact ⟨c, E, f, h⟩
        · cases h1
      have cellc : ∀ n, w.cell? ⟨b, n, none⟩ = c[n]? := fun n => by simp [World.cell?, hblk]
      refine ⟨c, E, f, hblk, ?_, ?_, ?_⟩
      · obtain ⟨cs, _, hl', h1⟩ := cellAt (len - 1) (by omega) (k - 1) (by omega)
        rw [cellc, show cs[k - 1]? = some (cs[k - 1]'(by omega)) by simp] at h1
        have := (Array.getElem?_eq_some_iff.1 h1).1
        simp only [List.length_map, List.length_range]
        have h2 : len * k = (len - 1) * k + k := by rw [← Nat.succ_mul]; congr 1; omega
        omega
      · intro x hx'
        obtain ⟨i, hi, rfl⟩ := List.mem_map.1 hx'
        obtain ⟨cs, h2, hl', _⟩ := cellAt i (by simpa using hi) 0 hk
        rw [h2]; exact hl'
      · intro i j x hi hj
        have hil : i < len := by have := (List.getElem?_eq_some_iff.1 hi).1; simpa using this
        obtain ⟨cs, h2, _, h1⟩ := cellAt i hil j hj
        simp [hil, h2] at hi
        subst hi
        rw [← cellc]; exact h1
    · have hil : i < len := by have := (List.getElem?_eq_some_iff.1 hi).1; simpa using this
      obtain ⟨cs, y, h2, h3⟩ := each i hil
      simp [hil, h2] at hi
      subst hi
      exact ⟨n, y, h3⟩

/-- The arguments read as they did, where nothing of theirs was turned. -/
theorem args_stay {H : Type} {enc : TypeId × Value → H} {P : Program} {W W' : World} (hl : laidOutB P = true) {sp : Nat → Bool} : ∀ {ts : List TypeId} {vs : List Value} {ds : List (DataW H)} {ps : List MemPlace},
    (∀ t ∈ ts, P.readableRec t = true ∧ t < P.types.size) → DataW.TrodAll enc P W 0 (fun _ => true) true ts vs ds ps → (∀ p ∈ ps, W.sameAt W' p) → (∀ p ∈ ps, sp p.block = true) → DataW.TrodAll enc P W' 0 sp true ts vs ds ps
  | [], [], [], _, _, h, _, _ => h
  | t :: ts, v :: vs, d :: ds, ps, ht, ⟨p, q, h1, h2, e⟩, hs, hsp => by
    subst e
    exact ⟨p, q, WideElems.Trod_stays hl (ht t (by simp)).1 (ht t (by simp)).2 h1 (fun x hx => hs x (by simp [hx])) (fun x hx => hsp x (by simp [hx])),
      args_stay hl (fun u hu => ht u (by simp [hu])) h2 (fun x hx => hs x (by simp [hx])) (fun x hx => hsp x (by simp [hx])), rfl⟩

/-- What a law's row asks behind the call: true, and the arguments as they were. -/
theorem law_post {H : Type} {enc : TypeId × Value → H} {P : Program} {s : ChangeSpec} {f : Func} {W W' : World} {args : Array Value} {ds gs : List (DataW H)} {before : List MemPlace} {tb : TypeId}
    (hW : DataW.Whole enc P f.params.toList s.vars false W args.toList ds gs before) (hvars : s.vars = []) (hfn : s.fn H (ds ++ gs) = { results := [.lit (.bool true)], args := ds }) (hres : f.resultTypes = #[tb]) (hb : P.underlying tb = some .bool)
    (hl : laidOutB P = true) (ht : ∀ t ∈ f.params.toList, P.readableRec t = true ∧ t < P.types.size) (hs : same W W') (fr : Fr W.heap W'.heap []) : s.post enc P f false true false false W args (.bool true) W' := by
  have hW' := hW
  obtain ⟨p, q, hA, hV, hpq, hfz, hnd⟩ := hW
  rw [hvars] at hV
  obtain ⟨rfl, rfl⟩ := trodVars_none hV
  rw [List.append_nil] at hpq
  subst hpq
  have hg : RowKit.Grown W W' := grown_of hs fr
  have hlt : ∀ x ∈ before, x.block < W.heap.size := fun x hx => hW'.lt x hx
  have hsame : ∀ x ∈ before, W.sameAt W' x := fun x hx => by
    have h1 := fr.keep x.block (hlt x hx) (by simp)
    cases x with
    | cell b o => simp only [MemPlace.block] at h1; simp [World.sameAt, World.cell?, h1]
    | map b => simpa [World.sameAt, MemPlace.block] using h1
  refine post_of_same (pa := before) (pv := []) hW' (fun _ _ _ => ?_) (fun sp hsp => ?_) (fun sp hsp => ?_) (by simp) (hg.frame _) hg.2.1 (ok_one hres rfl (okWide_bool_mk hb _))
  · rw [hres, hfn]; exact trodAll_cons_mk (shut_bool hb _) trodAll_mk0
  · rw [hfn]; exact args_stay hl ht hA hsame hsp
  · rw [hfn, hvars]; exact rfl
end Go.Fw
