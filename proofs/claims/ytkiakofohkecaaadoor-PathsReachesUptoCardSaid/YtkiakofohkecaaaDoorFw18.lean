/- The framework, part 18: rows made with room; what is appended from anywhere; slices that lie in named blocks. No condition. -/
import Derived.Test.YtkiakofohkecaaaDoorFw17
namespace Go.Fw
open Go

theorem make_room {P : Program} {t E k bytes : Nat} {z : Value} (hs : P.underlying t = some (.slice E)) (hi : (P.info? E).map (fun i => (i.zero, i.size, i.bytes)) = some (some z, k, bytes)) (hz : z.cells.size = k) {h : Hp} {n : Nat} (hB : bytes * n ≤ 140737488355328) (hM : n ≤ 1099511627776)
    {K : Value → Hp → Prop} (k' : ∀ h', RowAt h' E k h.size n [] → Fr h h' [] → K (.slice (some ⟨h.size, 0, none⟩) 0 n) h') :
    efS P (Instr.makeSlice t (.int .i64 0) (.int .i64 n)) h K := by
  intro w hw
  obtain ⟨i, hi', hzz⟩ := Option.map_eq_some_iff.1 hi
  simp only [Prod.mk.injEq] at hzz
  obtain ⟨hz1, hs1, hb1⟩ := hzz
  have hb' : (i.bytes : Int) * (n : Int) ≤ 281474976710656 := by
    have h : ((i.bytes * n : Nat) : Int) ≤ 281474976710656 := by rw [hb1]; omega
    rwa [Int.natCast_mul] at h
  have hr := run_make (P := P) w t E i z hs hi' hz1 .i64 .i64 0 n (by omega) (by omega) hb' (by omega)
  simp only [Int.toNat_natCast, hs1, Int.toNat_zero] at hr
  refine ⟨_, _, hr, ⟨rfl, rfl, rfl⟩, ?_⟩
  have e1 : (w.alloc (.cells (madeCells z.cells (n * k)) E)).heap = h.push (.cells (madeCells z.cells (n * k)) E (0, 0)) := by
    show w.heap.push _ = _
    rw [hw]
  rw [e1, hw]
  exact k' _ ⟨_, get_new h _, by simp [madeCells], by simp, by simp, by simp, by simp⟩ (Fr.push _ _ _)

/-- Nothing is appended to a row. -/
theorem append_empty {P : Program} {t ty E k bytes : Nat} (eo : ElemOk P t E k bytes) {h : Hp} {b n cap cs : Nat} {a : Option Addr} (hn : n ≤ cap) {K : Value → Hp → Prop} (k' : K (.slice (some ⟨b, 0, none⟩) n cap) h) :
    efS P (Builtin.append_ #[t, t] ty #[.slice (some ⟨b, 0, none⟩) n cap, .slice a 0 cs]) h K := by
  intro w hw
  obtain ⟨i, z, hi, hz, hik, hib, hzs⟩ := eo.info
  refine ⟨.slice (some ⟨b, 0, none⟩) n cap, w, ?_, .refl w, hw ▸ k'⟩
  cases a <;> simp [Builtin.append_, run_underlying eo.slice, sizeOf, typeInfo, hi, Builtin.lenOf, Builtin.firstCells, loadCells, loadCellsFrom, storeCells, hn]

theorem append_v {P : Program} {t ty E k bytes : Nat} (eo : ElemOk P t E k bytes) {h : Hp} {b cap : Nat} {v : Value} {xs ys : List (List Value)} (r : RowAt h E k b cap xs) (s : RowV h k v ys)
    (y1 : ∀ x ∈ ys, ∀ v ∈ x, v.oneCell' = true) (hB : (xs.length + ys.length) * bytes ≤ 140737488355328) (hM : xs.length + ys.length ≤ 4611686018427387904) {K : Value → Hp → Prop} (k' : Grown h E k (some b) (xs ++ ys) K) :
    efS P (Builtin.append_ #[t, t] ty #[.slice (some ⟨b, 0, none⟩) xs.length cap, v]) h K := by
  obtain ⟨a, c, rfl, hx⟩ := s
  by_cases hy : ys = []
  · subst hy
    refine append_empty eo r.len ?_
    have := k' h b cap (by simpa using r) (Fr.refl _ _) (.inl rfl)
    simpa using this
  · obtain ⟨bs, o, rfl, s⟩ := hx hy
    exact append_row eo r s y1 hB hM k'

/-- v is a slice of these records, which lie in one of those blocks. -/
def RowB (h : Hp) (k : Nat) (v : Value) (xs : List (List Value)) (B : List Nat) : Prop := ∃ a cap, v = .slice a xs.length cap ∧ (xs ≠ [] → ∃ b o, a = some ⟨b, o, none⟩ ∧ b ∈ B ∧ Seg h k b o xs)
theorem RowB.rowv {h : Hp} {k : Nat} {v : Value} {xs : List (List Value)} {B : List Nat} (r : RowB h k v xs B) : RowV h k v xs := by
  obtain ⟨a, c, e, hx⟩ := r
  exact ⟨a, c, e, fun hy => let ⟨b, o, e, _, s⟩ := hx hy; ⟨b, o, e, s⟩⟩
theorem RowB.fr {h h' : Hp} {k : Nat} {v : Value} {xs : List (List Value)} {B S : List Nat} (r : RowB h k v xs B) (f : Fr h h' S) (hS : ∀ b ∈ B, b ∉ S) : RowB h' k v xs B := by
  obtain ⟨a, c, e, hx⟩ := r
  exact ⟨a, c, e, fun hy => let ⟨b, o, e, hb, s⟩ := hx hy; ⟨b, o, e, hb, s.fr f (hS b hb)⟩⟩
end Go.Fw
