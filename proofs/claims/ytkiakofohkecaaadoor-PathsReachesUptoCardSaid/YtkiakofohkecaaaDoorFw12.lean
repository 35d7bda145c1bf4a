/- The framework, part 12: package-level tables of integers, as a row lists them. No condition. -/
import Derived.Test.YtkiakofohkecaaaDoorFw11
import Derived.Lib.LaidTab
namespace Go.Fw
open Go

theorem flat_take {α : Type} {k : Nat} : ∀ (zss : List (List α)) (cs : List α), cs.length = zss.length * k → (∀ (i : Nat) (z : List α), zss[i]? = some z → (cs.drop (i * k)).take k = z) → cs = zss.flatten
  | [], cs, hl, _ => by simpa using hl
  | z :: zss, cs, hl, h => by
    have h0 := h 0 z (by simp)
    simp only [Nat.zero_mul, List.drop_zero] at h0
    have hr := flat_take (k := k) zss (cs.drop k) (by simp only [List.length_drop, hl, List.length_cons, Nat.add_mul]; omega) fun i z' hz => by
      have := h (i + 1) z' (by simpa using hz)
      rw [List.drop_drop, Nat.add_comm k, ← Nat.succ_mul]; exact this
    rw [List.flatten_cons, ← h0, ← hr, List.take_append_drop]

theorem cells_of_tab2 {H : Type} {enc : TypeId × Value → H} {P : Program} {w : World} {base : Nat} {sp : Nat → Bool} {held : Bool} {fuel : Nat} {t e e2 : TypeId} {n m : Nat} {k : IntKind} {cs : List Value} {zss : List (List Int)} {p : List MemPlace}
    (ht : P.underlying t = some (.array n e)) (he : P.underlying e = some (.array m e2)) (he2 : P.underlying e2 = some (.int k)) (hc2 : P.cellsOf e2 = 1) (hce : P.cellsOf e = m) (hct : P.cellsOf t = n * m)
    (h : DataW.trod enc P w base sp held fuel t cs = some (.agg (zss.map (Lib.tabData k)), p)) : cs = (zss.map fun zs => zs.map fun z => Value.int k z).flatten := by
  cases fuel with
  | zero => simp [DataW.trod] at h
  | succ fuel =>
    simp only [DataW.trod, ht, hct, hce] at h
    split at h
    · rename_i hl
      obtain ⟨xs, hm, hx⟩ := Option.map_eq_some_iff.1 h
      have hxs : xs.map (·.1) = zss.map (Lib.tabData (H := H) k) := by
        have := congrArg Prod.fst hx
        simpa using this
      have hxl : xs.length = n := by simpa using Lib.mapM_length hm
      have hzl : zss.length = n := by
        have := congrArg List.length hxs
        simp at this
        omega
      refine flat_take (k := m) _ cs (by simp [hl, hzl]) fun i z hz => ?_
      obtain ⟨zs, hzs, rfl⟩ : ∃ zs, zss[i]? = some zs ∧ (zs.map fun z => Value.int k z) = z := by simpa [List.getElem?_map, Option.map_eq_some_iff] using hz
      have hi : i < n := by rw [← hzl]; exact (List.getElem?_eq_some_iff.1 hzs).1
      obtain ⟨b, hb, hf⟩ := Lib.mapM_at hm i i (by simp [hi])
      have h2 : (xs.map (·.1))[i]? = some b.1 := by simp [hb]
      rw [hxs] at h2
      simp only [List.getElem?_map, hzs, Option.map_some, Option.some.injEq] at h2
      rw [show b = (Lib.tabData k zs, b.2) by rw [h2]] at hf
      exact Lib.cells_of_tab he he2 hc2 hce hf
    · cases h

/-- The block of a variable. -/
theorem var_block {P : Program} {w : World} {n : String} {g : Nat} {cs : Array Value} (hg : P.globalNamed n = some g) (h : w.var? P n = some cs) : ∃ E f, w.heap[g]? = some (.cells cs E f) := by
  simp only [World.var?, hg, Option.bind_some] at h
  split at h
  · rename_i E f hh
    obtain rfl := Option.some.inj h
    exact ⟨_, _, hh⟩
  · cases h

theorem laid_head {P : Program} {W : World} {name : String} {d : DataW Unit} {rest : List (String × DataW Unit)} {ps : List MemPlace} {g : Nat} {t : TypeId} (hg : P.globalNamed name = some g) (hty : (P.globals[g]?).map (·.type) = some t)
    (h : DataW.LaidVars P W ((name, d) :: rest) ps) : (∃ cs fuel p, W.var? P name = some cs ∧ DataW.trod (fun _ => ()) P W 0 (fun _ => true) false fuel t cs.toList = some (d, p)) ∧ ∃ q, DataW.LaidVars P W rest q := by
  obtain ⟨g', t', cs, fuel, p, q, hg', ht', hvar, hd, hr, _⟩ := h
  obtain rfl := Option.some.inj (hg.symm.trans hg')
  obtain rfl := Option.some.inj (hty.symm.trans ht')
  exact ⟨⟨cs, fuel, p, hvar, hd⟩, q, hr⟩

theorem bin_and (k : IntKind) (a b : Int) : binE .and (.int k a) (.int k b) = some (.int k (k.wrap (BitVec.ofInt k.bits a &&& BitVec.ofInt k.bits b).toNat)) := by simp [binE, intE]
theorem bin_or (k : IntKind) (a b : Int) : binE .or (.int k a) (.int k b) = some (.int k (k.wrap (BitVec.ofInt k.bits a ||| BitVec.ofInt k.bits b).toNat)) := by simp [binE, intE]
theorem bndE_nat {c n : Nat} (k : IntKind) (hn : n ≤ c) : bndE c (.int k (n : Int)) = some n := by
  simp [bndE, hn]
/-- A slice cut behind. -/
theorem slice_to (sz b o len cap : Nat) (k : IntKind) (n : Nat) (hn : n ≤ cap) : sliceE sz (.slice (some ⟨b, o, none⟩) len cap) none (some (.int k n)) = some (.slice (some ⟨b, o, none⟩) n cap) := by
  simp only [sliceE, hiE, loE, bndE_nat k hn, Option.bind_some]
  simp [add_none]
/-- A slice cut in front, something of its row left. -/
theorem slice_from (sz b o len cap : Nat) (k : IntKind) (n : Nat) (hn : n ≤ len) (hc : n < cap) : sliceE sz (.slice (some ⟨b, o, none⟩) len cap) (some (.int k n)) none = some (.slice (some ⟨b, o + n * sz, none⟩) (len - n) (cap - n)) := by
  simp only [sliceE, hiE, loE, bndE_nat k hn, Option.bind_some]
  simp [Nat.ne_of_gt hc, add_none]
theorem RowAt.take {h : Hp} {E k b cap : Nat} {xs : List (List Value)} (r : RowAt h E k b cap xs) (n : Nat) : RowAt h E k b cap (xs.take n) := by
  obtain ⟨c, hb, hs, hl, hk, h1, ht⟩ := r
  have hk' : ∀ x ∈ xs.take n, x.length = k := fun x hx => hk x (List.mem_of_mem_take hx)
  refine ⟨c, hb, hs, by simp; omega, hk', fun x hx => h1 x (List.mem_of_mem_take hx), ?_⟩
  refine (row_iff hk').2 fun i j x hi hj => (row_iff hk).1 ht i j x ?_ hj
  rw [List.getElem?_take] at hi
  split at hi
  · exact hi
  · cases hi
theorem isB_undef (b : Bool) : isB undef b = false := rfl
theorem i64_id {n : Int} (h0 : -9223372036854775808 ≤ n) (h1 : n ≤ 9223372036854775807) : IntKind.i64.wrap n = n := IntWalk.i64_in n ⟨h0, h1⟩
end Go.Fw
