/- The framework, part 14: slices that come in; rows that are made. No condition. -/
import Derived.Test.YtkiakofohkecaaaDoorFw13
import Derived.Lib.JoinLaws
import Derived.ChangeSlices
namespace Go.Fw
open Go

/-- v is a slice of these records, k cells each, read in h. -/
def RowV (h : Hp) (k : Nat) (v : Value) (xs : List (List Value)) : Prop := ∃ a cap, v = .slice a xs.length cap ∧ (xs ≠ [] → ∃ b o, a = some ⟨b, o, none⟩ ∧ Seg h k b o xs)

theorem Fr.news {h h1 h2 : Hp} {S : List Nat} (a : Fr h h1 []) (b : Fr h1 h2 S) (hS : ∀ c ∈ S, h.size ≤ c) : Fr h h2 [] := a.trans b (fun _ _ hm => hm) (fun c hc hm => by have := hS c hm; omega)

theorem Seg.lt {h : Hp} {k b off : Nat} {xs : List (List Value)} (s : Seg h k b off xs) : b < h.size := let ⟨_, _, _, hb, _⟩ := s; lt_of_get hb

/-- How an element of it is read, now and later. -/
theorem RowV.get {h : Hp} {k : Nat} {v : Value} {xs : List (List Value)} (r : RowV h k v xs) {i : Nat} {x : List Value} (hi : xs[i]? = some x) (kd : IntKind) :
    ∃ b o, idxE k v (.int kd i) = some (.pointer (some ⟨b, o, none⟩)) ∧ b < h.size ∧ ∀ h', Fr h h' [] → (∀ j, j < k → ldS h' (.pointer (some ⟨b, o + j, none⟩)) = x[j]?) ∧ ldA k h' (.pointer (some ⟨b, o, none⟩)) = some (.agg x.toArray) := by
  obtain ⟨a, cap, rfl, hx⟩ := r
  have hlt : i < xs.length := (List.getElem?_eq_some_iff.1 hi).1
  obtain ⟨b, o, rfl, s⟩ := hx (by intro e; rw [e] at hlt; simp at hlt)
  refine ⟨b, o + i * k, by simp [hlt], s.lt, fun h' f => ?_⟩
  have s' := s.fr f (by simp)
  exact ⟨fun j hj => s'.one hi hj, s'.all hi⟩

theorem make_row {P : Program} {t E k bytes : Nat} {z : Value} (hs : P.underlying t = some (.slice E)) (hi : (P.info? E).map (fun i => (i.zero, i.size, i.bytes)) = some (some z, k, bytes)) (hz : z.cells.size = k) {h : Hp} {n : Nat} (hB : bytes * n ≤ 140737488355328) (hM : n ≤ 1099511627776)
    {K : Value → Hp → Prop} (k' : RowAt (h.push (.cells (madeCells z.cells (n * k)) E (0, 0))) E k h.size n (List.replicate n z.cells.toList) → K (.slice (some ⟨h.size, 0, none⟩) n n) (h.push (.cells (madeCells z.cells (n * k)) E (0, 0)))) (hone : ∀ v ∈ z.cells.toList, v.oneCell' = true) :
    efS P (Instr.makeSlice t (.int .i64 n) (.int .i64 n)) h K := by
  intro w hw
  obtain ⟨i, hi', hzz⟩ := Option.map_eq_some_iff.1 hi
  simp only [Prod.mk.injEq] at hzz
  obtain ⟨hz1, hs1, hb1⟩ := hzz
  have hb' : (i.bytes : Int) * (n : Int) ≤ 281474976710656 := by
    have h : ((i.bytes * n : Nat) : Int) ≤ 281474976710656 := by rw [hb1]; omega
    rwa [Int.natCast_mul] at h
  have hr := run_make (P := P) w t E i z hs hi' hz1 .i64 .i64 n n (by omega) (by omega) hb' (by omega)
  simp only [Int.toNat_natCast, hs1] at hr
  refine ⟨_, _, hr, ⟨rfl, rfl, rfl⟩, ?_⟩
  have e1 : (w.alloc (.cells (madeCells z.cells (n * k)) E)).heap = h.push (.cells (madeCells z.cells (n * k)) E (0, 0)) := by
    show w.heap.push _ = _
    rw [hw]
  rw [e1, hw]
  refine k' ⟨_, get_new h _, by simp [madeCells], by simp, by simp [hz], ?_, ?_⟩
  · intro x hx v hv
    obtain rfl := List.eq_of_mem_replicate hx
    exact hone v hv
  · refine (row_iff (by simp [hz])).2 fun i' j x hi' hj => ?_
    obtain ⟨hlt, rfl⟩ : i' < n ∧ x = z.cells.toList := by
      rw [List.getElem?_replicate] at hi'
      split at hi'
      · exact ⟨by assumption, by simpa using hi'.symm⟩
      · cases hi'
    have := mul_lt hlt hj
    have hm : (i' * k + j) % k = j := by rw [Nat.mul_comm, Nat.mul_add_mod, Nat.mod_eq_of_lt hj]
    simp [madeCells, this, hz, hm, hj]
end Go.Fw
