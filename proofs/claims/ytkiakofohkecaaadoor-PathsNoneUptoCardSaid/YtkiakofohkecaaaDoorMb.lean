/- The framework, part 11: rows of records in memory: read, written, grown. No condition. -/
import Derived.Test.YtkiakofohkecaaaDoorMa
import Derived.Lib.LaidTab
import Derived.RowKit3
import Derived.Lib.JoinLaws
import Derived.ChangeSlices
import Derived.WalkKit
import Derived.ProofKit
import Derived.OpenShut
import Derived.JoinedCond
import Derived.Carry
import Derived.WideKeyArgs
import Derived.ChangeArms
import Derived.DataReads
import Derived.MapKept
namespace Go.Fw
open Go

/-- From cell off on, block b holds the records xs, k cells each. -/
def Seg (h : Hp) (k b off : Nat) (xs : List (List Value)) : Prop :=
  ∃ c E f, h[b]? = some (.cells c E f) ∧ off + xs.length * k ≤ c.size ∧ (∀ x ∈ xs, x.length = k) ∧ ∀ i j x, xs[i]? = some x → j < k → c[off + i * k + j]? = x[j]?

/-- Block b is a row of cap records, of which the first ones are xs; it may be written. -/
def RowAt (h : Hp) (E k b cap : Nat) (xs : List (List Value)) : Prop :=
  ∃ c, h[b]? = some (.cells c E (0, 0)) ∧ c.size = cap * k ∧ xs.length ≤ cap ∧ (∀ x ∈ xs, x.length = k) ∧ (∀ x ∈ xs, ∀ v ∈ x, v.oneCell' = true) ∧ c.toList.take (xs.length * k) = xs.flatten

theorem flat_len {k : Nat} : ∀ {xs : List (List Value)}, (∀ x ∈ xs, x.length = k) → xs.flatten.length = xs.length * k
  | [], _ => by simp
  | x :: xs, h => by
    simp only [List.flatten_cons, List.length_append, List.length_cons, flat_len (xs := xs) fun y hy => h y (by simp [hy]), h x (by simp)]
    rw [Nat.add_mul]; omega
theorem flat_get {k : Nat} : ∀ {xs : List (List Value)}, (∀ x ∈ xs, x.length = k) → ∀ {i j : Nat} {x : List Value}, xs[i]? = some x → j < k → xs.flatten[i * k + j]? = x[j]?
  | [], _, i, j, x, hi, _ => by simp at hi
  | y :: xs, h, 0, j, x, hi, hj => by
    obtain rfl : y = x := by simpa using hi
    have := h y (by simp)
    simp only [Nat.zero_mul, Nat.zero_add, List.flatten_cons]
    rw [List.getElem?_append_left (by omega)]
  | y :: xs, h, i + 1, j, x, hi, hj => by
    have hy := h y (by simp)
    have := flat_get (xs := xs) (fun z hz => h z (by simp [hz])) (i := i) (j := j) (x := x) (by simpa using hi) hj
    simp only [List.flatten_cons]
    rw [List.getElem?_append_right (by rw [hy, Nat.add_mul]; omega), ← this]
    congr 1
    rw [hy, Nat.add_mul]; omega

theorem RowAt.seg {h : Hp} {E k b cap : Nat} {xs : List (List Value)} (r : RowAt h E k b cap xs) : Seg h k b 0 xs := by
  obtain ⟨c, hb, hs, hl, hk, _, ht⟩ := r
  refine ⟨c, E, (0, 0), hb, by rw [hs]; simpa using Nat.mul_le_mul_right k hl, hk, fun i j x hi hj => ?_⟩
  have hf := flat_get hk hi hj
  have hlt : i < xs.length := (List.getElem?_eq_some_iff.1 hi).1
  have hlt2 : i * k + j < xs.length * k := Nat.lt_of_lt_of_le (by rw [Nat.add_mul]; omega : i * k + j < (i + 1) * k) (Nat.mul_le_mul_right k hlt)
  rw [← hf, ← ht, List.getElem?_take, if_pos hlt2]
  simp

theorem Seg.one {h : Hp} {k b off : Nat} {xs : List (List Value)} (s : Seg h k b off xs) {i j : Nat} {x : List Value} (hi : xs[i]? = some x) (hj : j < k) : ldS h (.pointer (some ⟨b, off + i * k + j, none⟩)) = x[j]? := by
  obtain ⟨c, E, f, hb, _, _, hc⟩ := s
  rw [ldS_at hb]; exact hc i j x hi hj
theorem Seg.sub {h : Hp} {k b off l m : Nat} {xs : List (List Value)} (s : Seg h k b off xs) (hlm : l + m ≤ xs.length) : Seg h k b (off + l * k) ((xs.drop l).take m) := by
  obtain ⟨c, E, f, hb, hs, hk, hc⟩ := s
  refine ⟨c, E, f, hb, ?_, fun x hx => hk x (List.mem_of_mem_drop (List.mem_of_mem_take hx)), fun i j x hi hj => ?_⟩
  · have h1 : ((xs.drop l).take m).length = m := by simp; omega
    rw [h1, Nat.add_assoc, ← Nat.add_mul]
    exact Nat.le_trans (Nat.add_le_add_left (Nat.mul_le_mul_right k hlm) _) hs
  · have hi' : xs[l + i]? = some x := by
      rw [List.getElem?_take] at hi
      split at hi
      · rwa [List.getElem?_drop] at hi
      · simp at hi
    rw [← hc (l + i) j x hi' hj]
    congr 1
    rw [Nat.add_mul]; omega
theorem Seg.all {h : Hp} {k b off : Nat} {xs : List (List Value)} (s : Seg h k b off xs) {i : Nat} {x : List Value} (hi : xs[i]? = some x) : ldA k h (.pointer (some ⟨b, off + i * k, none⟩)) = some (.agg x.toArray) := by
  obtain ⟨c, E, f, hb, hs, hk, hc⟩ := s
  have hlt : i < xs.length := (List.getElem?_eq_some_iff.1 hi).1
  have hle : off + i * k + k ≤ c.size := Nat.le_trans (by rw [Nat.add_assoc]; exact Nat.add_le_add_left (by rw [← Nat.succ_mul]; exact Nat.mul_le_mul_right k hlt) _) hs
  rw [ldA_at hb, if_pos hle]
  have hx := hk x (List.mem_of_getElem? hi)
  have he : c.extract (off + i * k) (off + i * k + k) = x.toArray := by
    apply Array.ext_getElem?
    intro j
    rw [Array.getElem?_extract]
    by_cases hj : j < k
    · rw [if_pos (by omega), hc i j x hi hj]; simp
    · rw [if_neg (by omega)]
      simp; omega
  rw [he]
theorem Seg.part {h : Hp} {k b off o n : Nat} {xs : List (List Value)} (s : Seg h k b off xs) {i : Nat} {x : List Value} (hi : xs[i]? = some x) (ho : o + n ≤ k) :
    ldA n h (.pointer (some ⟨b, off + i * k + o, none⟩)) = some (.agg ((x.drop o).take n).toArray) := by
  obtain ⟨c, E, f, hb, hs, hk, hc⟩ := s
  have hlt : i < xs.length := (List.getElem?_eq_some_iff.1 hi).1
  have hle : off + i * k + k ≤ c.size := Nat.le_trans (by rw [Nat.add_assoc]; exact Nat.add_le_add_left (by rw [← Nat.succ_mul]; exact Nat.mul_le_mul_right k hlt) _) hs
  rw [ldA_at hb, if_pos (by omega)]
  have hx := hk x (List.mem_of_getElem? hi)
  have he : c.extract (off + i * k + o) (off + i * k + o + n) = ((x.drop o).take n).toArray := by
    apply Array.ext_getElem?
    intro j
    rw [Array.getElem?_extract]
    simp only [List.getElem?_toArray, List.getElem?_take, List.getElem?_drop]
    by_cases hj : j < n
    · rw [if_pos (by omega), if_pos hj, ← hc i (o + j) x hi (by omega)]; congr 1; omega
    · rw [if_neg (by omega), if_neg hj]
  rw [he]

/-! the forms that the reckoning leaves, at off = 0 -/
theorem RowAt.one {h : Hp} {E k b cap : Nat} {xs : List (List Value)} (r : RowAt h E k b cap xs) {i j : Nat} {x : List Value} (hi : xs[i]? = some x) (hj : j < k) : ldS h (.pointer (some ⟨b, i * k + j, none⟩)) = x[j]? := by
  have := r.seg.one hi hj; simpa using this
theorem RowAt.one0 {h : Hp} {E k b cap : Nat} {xs : List (List Value)} (r : RowAt h E k b cap xs) {i : Nat} {x : List Value} (hi : xs[i]? = some x) (hk : 0 < k) : ldS h (.pointer (some ⟨b, i * k, none⟩)) = x[0]? := r.one hi (j := 0) hk
theorem RowAt.all {h : Hp} {E k b cap : Nat} {xs : List (List Value)} (r : RowAt h E k b cap xs) {i : Nat} {x : List Value} (hi : xs[i]? = some x) : ldA k h (.pointer (some ⟨b, i * k, none⟩)) = some (.agg x.toArray) := by
  have := r.seg.all hi; simpa using this
theorem RowAt.part {h : Hp} {E k b cap o n : Nat} {xs : List (List Value)} (r : RowAt h E k b cap xs) {i : Nat} {x : List Value} (hi : xs[i]? = some x) (ho : o + n ≤ k) : ldA n h (.pointer (some ⟨b, i * k + o, none⟩)) = some (.agg ((x.drop o).take n).toArray) := by
  have := r.seg.part hi ho; simpa using this

theorem RowAt.lt {h : Hp} {E k b cap : Nat} {xs : List (List Value)} (r : RowAt h E k b cap xs) : b < h.size := let ⟨_, hb, _⟩ := r; lt_of_get hb
theorem RowAt.len {h : Hp} {E k b cap : Nat} {xs : List (List Value)} (r : RowAt h E k b cap xs) : xs.length ≤ cap := let ⟨_, _, _, hl, _⟩ := r; hl
theorem RowAt.fr {h h' : Hp} {E k b cap : Nat} {xs : List (List Value)} {S : List Nat} (r : RowAt h E k b cap xs) (f : Fr h h' S) (hS : b ∉ S) : RowAt h' E k b cap xs :=
  let ⟨c, hb, rest⟩ := r; ⟨c, f.get hb hS, rest⟩
theorem RowAt.eq {h h' : Hp} {E k b cap : Nat} {xs : List (List Value)} (r : RowAt h E k b cap xs) (f : h'[b]? = h[b]?) : RowAt h' E k b cap xs :=
  let ⟨c, hb, rest⟩ := r; ⟨c, f.trans hb, rest⟩
theorem Seg.fr {h h' : Hp} {k b off : Nat} {xs : List (List Value)} {S : List Nat} (r : Seg h k b off xs) (f : Fr h h' S) (hS : b ∉ S) : Seg h' k b off xs :=
  let ⟨c, E, g, hb, rest⟩ := r; ⟨c, E, g, f.get hb hS, rest⟩

theorem splice_len {c : Array Value} {o : Nat} {vs : List Value} (h : o + vs.length ≤ c.size) : (splice c o vs).size = c.size := by simp [splice]; omega
theorem splice_get {c : Array Value} {o : Nat} {vs : List Value} (h : o + vs.length ≤ c.size) (j : Nat) : (splice c o vs)[j]? = if o ≤ j ∧ j < o + vs.length then vs[j - o]? else c[j]? := by
  simp only [splice, List.getElem?_toArray, List.getElem?_append, List.length_append, List.length_take, Array.length_toList, List.getElem?_take, List.getElem?_drop]
  by_cases h1 : j < o
  · rw [if_pos (by omega), if_pos (by omega), if_pos (by omega), if_neg (by omega)]; simp
  · by_cases h2 : j < o + vs.length
    · rw [if_pos (by omega), if_neg (by omega), if_pos (by omega)]
      congr 1; omega
    · rw [if_neg (by omega), if_neg (by omega)]
      rw [show o + vs.length + (j - (min o c.size + vs.length)) = j by omega]
      simp

/-- The cells of a row, by their places. -/
theorem row_iff {k : Nat} {xs : List (List Value)} {c : Array Value} (hk : ∀ x ∈ xs, x.length = k) :
    c.toList.take (xs.length * k) = xs.flatten ↔ ∀ i j x, xs[i]? = some x → j < k → c[i * k + j]? = x[j]? := by
  constructor
  · intro ht i j x hi hj
    have hf := flat_get hk hi hj
    have hlt : i < xs.length := (List.getElem?_eq_some_iff.1 hi).1
    have hlt2 : i * k + j < xs.length * k := Nat.lt_of_lt_of_le (by rw [Nat.add_mul]; omega : i * k + j < (i + 1) * k) (Nat.mul_le_mul_right k hlt)
    rw [← hf, ← ht, List.getElem?_take, if_pos hlt2]
    simp
  · intro hc
    apply List.ext_getElem?
    intro n
    rw [List.getElem?_take]
    by_cases hn : n < xs.length * k
    · rw [if_pos hn]
      have hkp : 0 < k := by
        rcases Nat.eq_zero_or_pos k with rfl | h
        · simp at hn
        · exact h
      have hd : n / k < xs.length := Nat.div_lt_of_lt_mul (by rw [Nat.mul_comm]; exact hn)
      have hm := Nat.mod_lt n hkp
      have hnm : n / k * k + n % k = n := by rw [Nat.mul_comm]; exact Nat.div_add_mod n k
      have h1 := hc (n / k) (n % k) xs[n / k] (by simp) hm
      have h2 := flat_get hk (i := n / k) (j := n % k) (x := xs[n / k]) (by simp) hm
      rw [hnm] at h1 h2
      rw [h2, ← h1]; simp
    · rw [if_neg hn, List.getElem?_eq_none (by rw [flat_len hk]; omega)]

theorem mul_lt {i n k j : Nat} (hi : i < n) (hj : j < k) : i * k + j < n * k := Nat.lt_of_lt_of_le (by rw [Nat.add_mul]; omega : i * k + j < (i + 1) * k) (Nat.mul_le_mul_right k hi)
theorem div_of {i k j n o m : Nat} (_ho : o + m ≤ k) (hj : j < k) (h1 : n * k + o ≤ i * k + j) (h2 : i * k + j < n * k + o + m) : i = n := by
  have h3 : i * k + j < (n + 1) * k := by rw [Nat.add_mul]; omega
  have h4 : i < n + 1 := by
    rcases Nat.lt_or_ge i (n + 1) with h | h
    · exact h
    · have := Nat.mul_le_mul_right k h; omega
  have h5 : n < i + 1 := by
    rcases Nat.lt_or_ge n (i + 1) with h | h
    · exact h
    · have := Nat.mul_le_mul_right k h; rw [Nat.add_mul] at this; omega
  omega

/-- Some cells of one record are written. -/
theorem RowAt.put {h : Hp} {E k b cap : Nat} {xs : List (List Value)} (r : RowAt h E k b cap xs) {i o : Nat} {x vs : List Value} (hi : xs[i]? = some x) (ho : o + vs.length ≤ k) (h1 : ∀ v ∈ vs, v.oneCell' = true)
    {v : Value} (hv : v.cells.toList = vs) :
    ∃ h', stE vs.length h (.pointer (some ⟨b, i * k + o, none⟩)) v = some h' ∧ RowAt h' E k b cap (xs.set i (x.take o ++ vs ++ x.drop (o + vs.length))) ∧ Fr h h' [b] ∧ h'.size = h.size := by
  obtain ⟨c, hb, hs, hl, hk, hone, ht⟩ := r
  have hlt : i < xs.length := (List.getElem?_eq_some_iff.1 hi).1
  have hxk := hk x (List.mem_of_getElem? hi)
  have hle : i * k + o + vs.length ≤ c.size := by
    rw [hs]
    have := Nat.mul_le_mul_right k (Nat.le_trans hlt hl)
    rw [Nat.succ_mul] at this
    omega
  have hvsz : v.cells.size = vs.length := by rw [← hv]; simp
  refine ⟨_, ?_, ⟨splice c (i * k + o) vs, get_set hb, by rw [splice_len hle, hs], by simpa using hl, ?_, ?_, ?_⟩, Fr.set h b _ (fun _ => by simp) (by rw [hb]; rfl), by simp⟩
  · rw [stE_at _ hb, hv, if_pos ⟨hvsz, hle, List.all_eq_true.2 h1⟩]
  · intro y hy
    rcases List.mem_or_eq_of_mem_set hy with hy | rfl
    · exact hk y hy
    · simp; omega
  · intro y hy
    rcases List.mem_or_eq_of_mem_set hy with hy | rfl
    · exact hone y hy
    · intro u hu
      simp only [List.mem_append] at hu
      rcases hu with (hu | hu) | hu
      · exact hone x (List.mem_of_getElem? hi) u (List.mem_of_mem_take hu)
      · exact h1 u hu
      · exact hone x (List.mem_of_getElem? hi) u (List.mem_of_mem_drop hu)
  · refine (row_iff ?_).2 ?_
    · intro y hy
      rcases List.mem_or_eq_of_mem_set hy with hy | rfl
      · exact hk y hy
      · simp; omega
    · intro i' j y hy hj
      have hc := (row_iff hk).1 ht
      rw [splice_get hle]
      by_cases hii : i' = i
      · subst hii
        rw [List.getElem?_set_self hlt] at hy
        obtain rfl := Option.some.inj hy
        simp only [List.getElem?_append, List.length_append, List.length_take, List.getElem?_take, List.getElem?_drop]
        by_cases hj1 : j < o
        · rw [if_neg (by omega), if_pos (by omega), if_pos (by omega), if_pos hj1]
          exact hc i' j x hi hj
        · by_cases hj2 : j < o + vs.length
          · rw [if_pos (by omega), if_pos (by omega), if_neg (by omega)]
            congr 1; omega
          · rw [if_neg (by omega), if_neg (by omega), hc i' j x hi hj]
            congr 1; omega
      · rw [List.getElem?_set_ne (fun e => hii e.symm)] at hy
        rw [if_neg]
        · exact hc i' j y hy hj
        · intro hcon
          exact hii (div_of ho hj hcon.1 hcon.2)

/-- A whole record is written. -/
theorem RowAt.set {h : Hp} {E k b cap : Nat} {xs : List (List Value)} (r : RowAt h E k b cap xs) {i : Nat} {vs : List Value} (hi : i < xs.length) (ho : vs.length = k) (h1 : ∀ v ∈ vs, v.oneCell' = true) :
    ∃ h', stE k h (.pointer (some ⟨b, i * k, none⟩)) (.agg vs.toArray) = some h' ∧ RowAt h' E k b cap (xs.set i vs) ∧ Fr h h' [b] ∧ h'.size = h.size := by
  have hx : xs[i]? = some xs[i] := by simp [hi]
  have hk : xs[i].length = k := by obtain ⟨_, _, _, _, hk, _⟩ := r; exact hk _ (by simp)
  obtain ⟨h', s, r', f, z⟩ := r.put (i := i) (o := 0) (vs := vs) (v := .agg vs.toArray) hx (by omega) h1 (by simp)
  refine ⟨h', by rw [ho] at s; exact s, ?_, f, z⟩
  rw [show xs[i].take 0 ++ vs ++ xs[i].drop (0 + vs.length) = vs by rw [List.drop_eq_nil_of_le (by omega)]; simp] at r'
  exact r'

theorem Seg.cells {h : Hp} {k b off : Nat} {xs : List (List Value)} (s : Seg h k b off xs) (w : World) (hw : w.heap = h) : ∀ j u, xs.flatten[j]? = some u → w.cell? ((⟨b, off, none⟩ : Addr).add j) = some u := by
  intro n u hu
  obtain ⟨c, E, f, hb, hs, hk, hc⟩ := s
  rw [add_none]
  have hn : n < xs.length * k := by rw [← flat_len hk]; exact (List.getElem?_eq_some_iff.1 hu).1
  have hkp : 0 < k := by
    rcases Nat.eq_zero_or_pos k with rfl | h
    · simp at hn
    · exact h
  have hd : n / k < xs.length := Nat.div_lt_of_lt_mul (by rw [Nat.mul_comm]; exact hn)
  have hm := Nat.mod_lt n hkp
  have hnm : n / k * k + n % k = n := by rw [Nat.mul_comm]; exact Nat.div_add_mod n k
  have h1 := hc (n / k) (n % k) xs[n / k] (by simp) hm
  have h2 := flat_get hk (i := n / k) (j := n % k) (x := xs[n / k]) (by simp) hm
  rw [Nat.add_assoc, hnm] at h1
  rw [hnm] at h2
  subst hw
  simp only [World.cell?, hb, Option.isSome_none, Bool.false_eq_true, if_false]
  rw [h1, ← h2, hu]

theorem row_new {h : Hp} {E k cap : Nat} {xs : List (List Value)} {rest : List Value} (hk : ∀ x ∈ xs, x.length = k) (h1 : ∀ x ∈ xs, ∀ v ∈ x, v.oneCell' = true) (hr : rest.length = (cap - xs.length) * k) (hc : xs.length ≤ cap) :
    RowAt (h.push (.cells (xs.flatten ++ rest).toArray E (0, 0))) E k h.size cap xs := by
  refine ⟨_, get_new h _, ?_, hc, hk, h1, ?_⟩
  · simp only [List.size_toArray, List.length_append, flat_len hk, hr, ← Nat.add_mul]
    congr 1; omega
  · rw [List.take_left' (flat_len hk)]

/-- What append gives: the row grown, in its own block or in a new one. -/
def Grown (h : Hp) (E k : Nat) (old : Option Nat) (xs : List (List Value)) (K : Value → Hp → Prop) : Prop :=
  ∀ h' b cap, RowAt h' E k b cap xs → Fr h h' old.toList → (old = some b ∨ h.size ≤ b) → K (.slice (some ⟨b, 0, none⟩) xs.length cap) h'

/-- What is known of an element's type. -/
structure ElemOk (P : Program) (t E k bytes : Nat) : Prop where
  slice : P.underlying t = some (.slice E)
  info : ∃ i z, P.info? E = some i ∧ i.zero = some z ∧ i.size = k ∧ i.bytes = bytes ∧ z.cells.size = k

theorem ElemOk.of {P : Program} {t E k bytes : Nat} {z : Value} (hs : P.underlying t = some (.slice E)) (hi : (P.info? E).map (fun i => (i.zero, i.size, i.bytes)) = some (some z, k, bytes)) (hz : z.cells.size = k) : ElemOk P t E k bytes := by
  refine ⟨hs, ?_⟩
  cases h : P.info? E with
  | none => simp [h] at hi
  | some i =>
    simp [h] at hi
    exact ⟨i, z, rfl, hi.1, hi.2.1, hi.2.2, hz⟩

theorem drew_same (w : World) (o : Obj) : same w (w.drew.alloc o) := ⟨rfl, rfl, rfl⟩
theorem zc_len (z : Array Value) (n : Nat) : (Builtin.zeroCells z n).toList.length = n * z.size := by rw [Array.length_toList, size_zeroCells]

theorem append_row {P : Program} {t ty E k bytes : Nat} (eo : ElemOk P t E k bytes) {h : Hp} {b cap bs os cs : Nat} {xs ys : List (List Value)} (r : RowAt h E k b cap xs) (s : Seg h k bs os ys)
    (y1 : ∀ x ∈ ys, ∀ v ∈ x, v.oneCell' = true) (hB : (xs.length + ys.length) * bytes ≤ 140737488355328) (hM : xs.length + ys.length ≤ 4611686018427387904) {K : Value → Hp → Prop} (k' : Grown h E k (some b) (xs ++ ys) K) :
    efS P (Builtin.append_ #[t, t] ty #[.slice (some ⟨b, 0, none⟩) xs.length cap, .slice (some ⟨bs, os, none⟩) ys.length cs]) h K := by
  intro w hw
  obtain ⟨i, z, hi, hz, hik, hib, hzs⟩ := eo.info
  obtain ⟨c, hb, hs, hl, hk, h1, ht⟩ := id r
  have yk : ∀ x ∈ ys, x.length = k := by obtain ⟨_, _, _, _, _, hk, _⟩ := s; exact hk
  have hyl : ys.flatten.length = ys.length * i.size := by rw [flat_len yk, hik]
  have hxl : xs.flatten.length = xs.length * i.size := by rw [flat_len hk, hik]
  have hnews := s.cells w hw
  have hall : ∀ u ∈ ys.flatten, u.oneCell' = true := fun u hu => by obtain ⟨x, hx, hu⟩ := List.mem_flatten.1 hu; exact y1 x hx u hu
  have hk2 : ∀ x ∈ xs ++ ys, x.length = k := fun x hx => by rcases List.mem_append.1 hx with h | h; exact hk x h; exact yk x h
  have h12 : ∀ x ∈ xs ++ ys, ∀ v ∈ x, v.oneCell' = true := fun x hx => by rcases List.mem_append.1 hx with h | h; exact h1 x h; exact y1 x h
  by_cases hroom : xs.length + ys.length ≤ cap
  · have hfit : xs.length * i.size + ys.flatten.length ≤ c.size := by rw [hyl, ← Nat.add_mul, hs, hik]; exact Nat.mul_le_mul_right _ hroom
    have hr := run_append_room (P := P) w t ty E i eo.slice hi b xs.length cap c (by rw [hw]; exact hb) ⟨bs, os, none⟩ ys.length cs ys.flatten hyl hnews hall hroom hfit
    refine ⟨_, _, hr, ⟨rfl, rfl, rfl⟩, ?_⟩
    have hset := setRow_heap_eq (w := w) (cs := (c.toList.take (xs.length * i.size) ++ ys.flatten ++ c.toList.drop (xs.length * i.size + ys.flatten.length)).toArray) (by rw [hw]; exact hb)
    rw [hset, hw]
    have := k' (h.setIfInBounds b (.cells (c.toList.take (xs.length * i.size) ++ ys.flatten ++ c.toList.drop (xs.length * i.size + ys.flatten.length)).toArray E (0, 0))) b cap
      ⟨_, get_set hb, ?_, by simpa using hroom, hk2, h12, ?_⟩ (Fr.set h b _ (fun _ => by simp) (by rw [hb]; rfl)) (.inl rfl)
    · simpa using this
    · simp only [List.size_toArray, List.length_append, List.length_take, List.length_drop, Array.length_toList]
      rw [hik] at hfit ⊢
      rw [← hs]; omega
    · rw [hik, ht, List.flatten_append, List.length_append, Nat.add_mul, List.take_left']
      simp [flat_len hk, flat_len yk]
  · have hcells := r.seg.cells w hw
    have hr := run_append_grow (P := P) w t ty E i z eo.slice hi hz ⟨b, 0, none⟩ xs.length cap xs.flatten hxl hcells ⟨bs, os, none⟩ ys.length cs ys.flatten hyl hnews (by omega) (by omega) (growslice_fits (by omega) (by rw [hib]; exact hB))
    refine ⟨_, _, hr, drew_same w _, ?_⟩
    have hge := grownCap_ge w (xs.length + ys.length) cap E
    have hrow := row_new (h := h) (E := E) (k := k) (cap := grownCap w (xs.length + ys.length) cap E) (xs := xs ++ ys) (rest := (Builtin.zeroCells z.cells (grownCap w (xs.length + ys.length) cap E - (xs.length + ys.length))).toList) hk2 h12
      (by rw [zc_len, hzs]; simp) (by simpa using hge)
    have := k' _ h.size (grownCap w (xs.length + ys.length) cap E) hrow (Fr.push h _ _) (.inr (Nat.le_refl _))
    have e1 : (w.drew.alloc (.cells (xs.flatten.toArray ++ ys.flatten.toArray ++ Builtin.zeroCells z.cells (grownCap w (xs.length + ys.length) cap E - (xs.length + ys.length))) E)).heap =
        h.push (.cells ((xs ++ ys).flatten ++ (Builtin.zeroCells z.cells (grownCap w (xs.length + ys.length) cap E - (xs.length + ys.length))).toList).toArray E (0, 0)) := by
      show w.heap.push _ = _
      rw [hw]; congr 2; simp
    rw [e1, hw]
    simpa using this

theorem append_nil {P : Program} {t ty E k bytes : Nat} (eo : ElemOk P t E k bytes) {h : Hp} {bs os cs : Nat} {ys : List (List Value)} (s : Seg h k bs os ys)
    (y1 : ∀ x ∈ ys, ∀ v ∈ x, v.oneCell' = true) (h0 : ys ≠ []) (hB : ys.length * bytes ≤ 140737488355328) (hM : ys.length ≤ 4611686018427387904) {K : Value → Hp → Prop} (k' : Grown h E k none ys K) :
    efS P (Builtin.append_ #[t, t] ty #[.slice none 0 0, .slice (some ⟨bs, os, none⟩) ys.length cs]) h K := by
  intro w hw
  obtain ⟨i, z, hi, hz, hik, hib, hzs⟩ := eo.info
  have yk : ∀ x ∈ ys, x.length = k := by obtain ⟨_, _, _, _, _, hk, _⟩ := s; exact hk
  have hyl : ys.flatten.length = ys.length * i.size := by rw [flat_len yk, hik]
  have hnews := s.cells w hw
  have hpos : 0 < ys.length := List.length_pos_iff.2 h0
  have hr := run_append_nil (P := P) w t ty E i z eo.slice hi hz ⟨bs, os, none⟩ ys.length cs ys.flatten hyl hnews hpos (by omega) (by rw [hib]; omega)
  refine ⟨_, _, hr, drew_same w _, ?_⟩
  have hge := grownCap_ge w ys.length 0 E
  have hrow := row_new (h := h) (E := E) (k := k) (cap := grownCap w ys.length 0 E) (xs := ys) (rest := (Builtin.zeroCells z.cells (grownCap w ys.length 0 E - ys.length)).toList) yk y1
    (by rw [zc_len, hzs]) hge
  have := k' _ h.size (grownCap w ys.length 0 E) hrow (Fr.push h _ _) (.inr (Nat.le_refl _))
  have e1 : (w.drew.alloc (.cells (ys.flatten.toArray ++ Builtin.zeroCells z.cells (grownCap w ys.length 0 E - ys.length)) E)).heap =
      h.push (.cells (ys.flatten ++ (Builtin.zeroCells z.cells (grownCap w ys.length 0 E - ys.length)).toList).toArray E (0, 0)) := by
    show w.heap.push _ = _
    rw [hw]; congr 2; simp
  rw [e1, hw]
  exact this

/-- Nothing is appended to nothing. -/
theorem append_none {P : Program} {t ty E k bytes : Nat} (eo : ElemOk P t E k bytes) {h : Hp} {a : Option Addr} {cs : Nat} {K : Value → Hp → Prop} (ha : ∀ x, a = some x → x.spot = none) (k' : K (.slice none 0 0) h) :
    efS P (Builtin.append_ #[t, t] ty #[.slice none 0 0, .slice a 0 cs]) h K := by
  intro w hw
  obtain ⟨i, z, hi, hz, hik, hib, hzs⟩ := eo.info
  refine ⟨.slice none 0 0, w, ?_, .refl w, hw ▸ k'⟩
  cases a <;> simp [Builtin.append_, run_underlying eo.slice, sizeOf, typeInfo, hi, Builtin.lenOf, Builtin.firstCells, loadCells, loadCellsFrom]

end Go.Fw

/- The framework, part 12: package-level tables of integers, as a row lists them. No condition. -/
namespace Go.Fw
open Go

theorem flat_take {α : Type} {k : Nat} : ∀ (zss : List (List α)) (cs : List α), cs.length = zss.length * k → (∀ (i : Nat) (z : List α), zss[i]? = some z → (cs.drop (i * k)).take k = z) → cs = zss.flatten
  | [], cs, hl, _ => by simpa using hl
  | z :: zss, cs, hl, h => by
    have h0 := h 0 z (by simp)
    simp only [Nat.zero_mul, List.drop_zero] at h0
    have hr := flat_take (k := k) zss (cs.drop k) (by simp only [List.length_drop, hl, List.length_cons, Nat.add_mul]; omega) fun i z' hz => by
      have := h (i + 1) z' (by simpa using hz)
      rw [List.drop_drop, Nat.add_comm k, ← Nat.succ_mul]; exact this
    rw [List.flatten_cons, ← h0, ← hr, List.take_append_drop]

theorem cells_of_tab2 {H : Type} {enc : TypeId × Value → H} {P : Program} {w : World} {base : Nat} {sp : Nat → Bool} {held : Bool} {fuel : Nat} {t e e2 : TypeId} {n m : Nat} {k : IntKind} {cs : List Value} {zss : List (List Int)} {p : List MemPlace}
    (ht : P.underlying t = some (.array n e)) (he : P.underlying e = some (.array m e2)) (he2 : P.underlying e2 = some (.int k)) (hc2 : P.cellsOf e2 = 1) (hce : P.cellsOf e = m) (hct : P.cellsOf t = n * m)
    (h : DataW.trod enc P w base sp held fuel t cs = some (.agg (zss.map (Lib.tabData k)), p)) : cs = (zss.map fun zs => zs.map fun z => Value.int k z).flatten := by
  cases fuel with
  | zero => simp [DataW.trod] at h
  | succ fuel =>
    simp only [DataW.trod, ht, hct, hce] at h
    split at h
    · rename_i hl
      obtain ⟨xs, hm, hx⟩ := Option.map_eq_some_iff.1 h
      have hxs : xs.map (·.1) = zss.map (Lib.tabData (H := H) k) := by
        have := congrArg Prod.fst hx
        simpa using this
      have hxl : xs.length = n := by simpa using Lib.mapM_length hm
      have hzl : zss.length = n := by
        have := congrArg List.length hxs
        simp at this
        omega
      refine flat_take (k := m) _ cs (by simp [hl, hzl]) fun i z hz => ?_
      obtain ⟨zs, hzs, rfl⟩ : ∃ zs, zss[i]? = some zs ∧ (zs.map fun z => Value.int k z) = z := by simpa [List.getElem?_map, Option.map_eq_some_iff] using hz
      have hi : i < n := by rw [← hzl]; exact (List.getElem?_eq_some_iff.1 hzs).1
      obtain ⟨b, hb, hf⟩ := Lib.mapM_at hm i i (by simp [hi])
      have h2 : (xs.map (·.1))[i]? = some b.1 := by simp [hb]
      rw [hxs] at h2
      simp only [List.getElem?_map, hzs, Option.map_some, Option.some.injEq] at h2
      rw [show b = (Lib.tabData k zs, b.2) by rw [h2]] at hf
      exact Lib.cells_of_tab he he2 hc2 hce hf
    · cases h

/-- The block of a variable. -/
theorem var_block {P : Program} {w : World} {n : String} {g : Nat} {cs : Array Value} (hg : P.globalNamed n = some g) (h : w.var? P n = some cs) : ∃ E f, w.heap[g]? = some (.cells cs E f) := by
  simp only [World.var?, hg, Option.bind_some] at h
  split at h
  · rename_i E f hh
    obtain rfl := Option.some.inj h
    exact ⟨_, _, hh⟩
  · cases h

theorem laid_head {P : Program} {W : World} {name : String} {d : DataW Unit} {rest : List (String × DataW Unit)} {ps : List MemPlace} {g : Nat} {t : TypeId} (hg : P.globalNamed name = some g) (hty : (P.globals[g]?).map (·.type) = some t)
    (h : DataW.LaidVars P W ((name, d) :: rest) ps) : (∃ cs fuel p, W.var? P name = some cs ∧ DataW.trod (fun _ => ()) P W 0 (fun _ => true) false fuel t cs.toList = some (d, p)) ∧ ∃ q, DataW.LaidVars P W rest q := by
  obtain ⟨g', t', cs, fuel, p, q, hg', ht', hvar, hd, hr, _⟩ := h
  obtain rfl := Option.some.inj (hg.symm.trans hg')
  obtain rfl := Option.some.inj (hty.symm.trans ht')
  exact ⟨⟨cs, fuel, p, hvar, hd⟩, q, hr⟩

theorem bin_and (k : IntKind) (a b : Int) : binE .and (.int k a) (.int k b) = some (.int k (k.wrap (BitVec.ofInt k.bits a &&& BitVec.ofInt k.bits b).toNat)) := by simp [binE, intE]
theorem bin_or (k : IntKind) (a b : Int) : binE .or (.int k a) (.int k b) = some (.int k (k.wrap (BitVec.ofInt k.bits a ||| BitVec.ofInt k.bits b).toNat)) := by simp [binE, intE]
theorem bndE_nat {c n : Nat} (k : IntKind) (hn : n ≤ c) : bndE c (.int k (n : Int)) = some n := by
  simp [bndE, hn]
/-- A slice cut behind. -/
theorem slice_to (sz b o len cap : Nat) (k : IntKind) (n : Nat) (hn : n ≤ cap) : sliceE sz (.slice (some ⟨b, o, none⟩) len cap) none (some (.int k n)) = some (.slice (some ⟨b, o, none⟩) n cap) := by
  simp only [sliceE, hiE, loE, bndE_nat k hn, Option.bind_some]
  simp [add_none]
/-- A slice cut in front, something of its row left. -/
theorem slice_from (sz b o len cap : Nat) (k : IntKind) (n : Nat) (hn : n ≤ len) (hc : n < cap) : sliceE sz (.slice (some ⟨b, o, none⟩) len cap) (some (.int k n)) none = some (.slice (some ⟨b, o + n * sz, none⟩) (len - n) (cap - n)) := by
  simp only [sliceE, hiE, loE, bndE_nat k hn, Option.bind_some]
  simp [Nat.ne_of_gt hc, add_none]
theorem RowAt.take {h : Hp} {E k b cap : Nat} {xs : List (List Value)} (r : RowAt h E k b cap xs) (n : Nat) : RowAt h E k b cap (xs.take n) := by
  obtain ⟨c, hb, hs, hl, hk, h1, ht⟩ := r
  have hk' : ∀ x ∈ xs.take n, x.length = k := fun x hx => hk x (List.mem_of_mem_take hx)
  refine ⟨c, hb, hs, by simp; omega, hk', fun x hx => h1 x (List.mem_of_mem_take hx), ?_⟩
  refine (row_iff hk').2 fun i j x hi hj => (row_iff hk).1 ht i j x ?_ hj
  rw [List.getElem?_take] at hi
  split at hi
  · exact hi
  · cases hi
theorem isB_undef (b : Bool) : isB undef b = false := rfl
theorem i64_id {n : Int} (h0 : -9223372036854775808 ≤ n) (h1 : n ≤ 9223372036854775807) : IntKind.i64.wrap n = n := IntWalk.i64_in n ⟨h0, h1⟩
end Go.Fw

/- The framework, part 13: from what a call leaves alone to what a row asks. No condition. -/
namespace Go.Fw
open Go

theorem frozen_frz (w : World) (a : Addr) : w.frozen? a = (decide ((frz w.heap[a.block]?).1 ≤ a.off) && decide (a.off < (frz w.heap[a.block]?).2)) := by
  unfold World.frozen?
  cases w.heap[a.block]? with
  | none => simp [frz]
  | some o => cases o <;> simp only [frz] <;> first | rfl | simp

theorem grown_of {W W' : World} (hs : same W W') (f : Fr W.heap W'.heap []) : RowKit.Grown W W' := by
  refine ⟨⟨hs.1, hs.2.2, fun i hi => ?_⟩, fun a => by rw [frozen_frz, frozen_frz, f.fz], f.size⟩
  rw [f.keep i hi (by simp)]
  cases h : W.heap[i]? with
  | none => trivial
  | some o => cases o <;> simp
end Go.Fw

/- The framework, part 14: slices that come in; rows that are made. No condition. -/
namespace Go.Fw
open Go

/-- v is a slice of these records, k cells each, read in h. -/
def RowV (h : Hp) (k : Nat) (v : Value) (xs : List (List Value)) : Prop := ∃ a cap, v = .slice a xs.length cap ∧ (xs ≠ [] → ∃ b o, a = some ⟨b, o, none⟩ ∧ Seg h k b o xs)

theorem Fr.news {h h1 h2 : Hp} {S : List Nat} (a : Fr h h1 []) (b : Fr h1 h2 S) (hS : ∀ c ∈ S, h.size ≤ c) : Fr h h2 [] := a.trans b (fun _ _ hm => hm) (fun c hc hm => by have := hS c hm; omega)

theorem Seg.lt {h : Hp} {k b off : Nat} {xs : List (List Value)} (s : Seg h k b off xs) : b < h.size := let ⟨_, _, _, hb, _⟩ := s; lt_of_get hb

/-- How an element of it is read, now and later. -/
theorem RowV.get {h : Hp} {k : Nat} {v : Value} {xs : List (List Value)} (r : RowV h k v xs) {i : Nat} {x : List Value} (hi : xs[i]? = some x) (kd : IntKind) :
    ∃ b o, idxE k v (.int kd i) = some (.pointer (some ⟨b, o, none⟩)) ∧ b < h.size ∧ ∀ h', Fr h h' [] → (∀ j, j < k → ldS h' (.pointer (some ⟨b, o + j, none⟩)) = x[j]?) ∧ ldA k h' (.pointer (some ⟨b, o, none⟩)) = some (.agg x.toArray) := by
  obtain ⟨a, cap, rfl, hx⟩ := r
  have hlt : i < xs.length := (List.getElem?_eq_some_iff.1 hi).1
  obtain ⟨b, o, rfl, s⟩ := hx (by intro e; rw [e] at hlt; simp at hlt)
  refine ⟨b, o + i * k, by simp [hlt], s.lt, fun h' f => ?_⟩
  have s' := s.fr f (by simp)
  exact ⟨fun j hj => s'.one hi hj, s'.all hi⟩

theorem make_row {P : Program} {t E k bytes : Nat} {z : Value} (hs : P.underlying t = some (.slice E)) (hi : (P.info? E).map (fun i => (i.zero, i.size, i.bytes)) = some (some z, k, bytes)) (hz : z.cells.size = k) {h : Hp} {n : Nat} (hB : bytes * n ≤ 140737488355328) (hM : n ≤ 1099511627776)
    {K : Value → Hp → Prop} (k' : RowAt (h.push (.cells (madeCells z.cells (n * k)) E (0, 0))) E k h.size n (List.replicate n z.cells.toList) → K (.slice (some ⟨h.size, 0, none⟩) n n) (h.push (.cells (madeCells z.cells (n * k)) E (0, 0)))) (hone : ∀ v ∈ z.cells.toList, v.oneCell' = true) :
    efS P (Instr.makeSlice t (.int .i64 n) (.int .i64 n)) h K := by
  intro w hw
  obtain ⟨i, hi', hzz⟩ := Option.map_eq_some_iff.1 hi
  simp only [Prod.mk.injEq] at hzz
  obtain ⟨hz1, hs1, hb1⟩ := hzz
  have hb' : (i.bytes : Int) * (n : Int) ≤ 281474976710656 := by
    have h : ((i.bytes * n : Nat) : Int) ≤ 281474976710656 := by rw [hb1]; omega
    rwa [Int.natCast_mul] at h
  have hr := run_make (P := P) w t E i z hs hi' hz1 .i64 .i64 n n (by omega) (by omega) hb' (by omega)
  simp only [Int.toNat_natCast, hs1] at hr
  refine ⟨_, _, hr, ⟨rfl, rfl, rfl⟩, ?_⟩
  have e1 : (w.alloc (.cells (madeCells z.cells (n * k)) E)).heap = h.push (.cells (madeCells z.cells (n * k)) E (0, 0)) := by
    show w.heap.push _ = _
    rw [hw]
  rw [e1, hw]
  refine k' ⟨_, get_new h _, by simp [madeCells], by simp, by simp [hz], ?_, ?_⟩
  · intro x hx v hv
    obtain rfl := List.eq_of_mem_replicate hx
    exact hone v hv
  · refine (row_iff (by simp [hz])).2 fun i' j x hi' hj => ?_
    obtain ⟨hlt, rfl⟩ : i' < n ∧ x = z.cells.toList := by
      rw [List.getElem?_replicate] at hi'
      split at hi'
      · exact ⟨by assumption, by simpa using hi'.symm⟩
      · cases hi'
    have := mul_lt hlt hj
    have hm : (i' * k + j) % k = j := by rw [Nat.mul_comm, Nat.mul_add_mod, Nat.mod_eq_of_lt hj]
    simp [madeCells, this, hz, hm, hj]
end Go.Fw

/- The framework, part 15: from a row's arguments to what a walk asks, and from what a walk gives to what a row asks. No condition. -/
namespace Go.Fw
open Go Go.ChangeShapes Go.WideShapes Go.ChangeAt Go.RowKit

/-- A slice that comes in: its records, k cells each, each of which reads as a datum. -/
theorem open_rowv {H : Type} {enc : TypeId × Value → H} {P : Program} {w : World} {r : Reach} {base b0 : Nat} {spare : Nat → Bool} {held : Bool} {t e k : Nat} {v : Value} {d : DataW H} {ps : List MemPlace}
    (ht : P.underlying t = some (.slice e)) (hc : P.cellsOf e = k) (hv : Value.okWide P w r b0 t v) (h : DataW.Trod enc P w base spare held t v d ps) :
    ∃ (xs : List (List Value)) (es sp : List (DataW H)), (d = .nil ∧ xs = [] ∨ d = .slice es sp ∧ es.length = xs.length) ∧ (0 < k → RowV w.heap k v xs) ∧
      ∀ (i : Nat) (x : List Value), xs[i]? = some x → ∃ n y, DataW.trod enc P w base spare held n e x = some y := by
  obtain ⟨a, len, cap, rfl⟩ := okWide_slice ht hv
  obtain ⟨fuel, hf⟩ := h
  rcases DataW.trod_slice ht hf with ⟨hcs, hx⟩ | ⟨a', len', cap', elems, rest, n, _, hcs, hx, hb, hl, hm, hlen, hel, _, _⟩
  · simp only [Value.cells, List.cons.injEq, Value.slice.injEq, and_true] at hcs
    obtain ⟨rfl, rfl, rfl⟩ := hcs
    simp only [Prod.mk.injEq] at hx
    exact ⟨[], [], [], .inl ⟨hx.1, rfl⟩, fun _ => ⟨none, 0, rfl, fun h => absurd rfl h⟩, fun i x hi => by simp at hi⟩
  · simp only [Value.cells, List.cons.injEq, Value.slice.injEq, and_true] at hcs
    obtain ⟨rfl, rfl, rfl⟩ := hcs
    simp only [Prod.mk.injEq] at hx
    have each : ∀ i, i < len → ∃ cs y, w.cells? base (a'.add (i * k)) k = some cs ∧ DataW.trod enc P w base spare held n e cs = some y := fun i hi => by
      have h1 := hel i hi
      rw [hc, List.getElem?_eq_getElem (by omega)] at h1
      obtain ⟨cs, h2, h3⟩ := Option.bind_eq_some_iff.1 h1
      exact ⟨cs, _, h2, h3⟩
    refine ⟨(List.range len).map fun i => (w.cells? base (a'.add (i * k)) k).getD [], elems.map (·.1), rest.map (·.1), .inr ⟨hx.1, by simp [hlen]⟩, fun hk => ⟨some a', cap, by simp, fun hne => ?_⟩, fun i x hi => ?_⟩
    · have hl0 : 0 < len := by
        rcases Nat.eq_zero_or_pos len with h | h
        · subst h; simp at hne
        · exact h
      obtain ⟨b, o, sp⟩ := a'
      obtain ⟨cs0, _, hc0, _⟩ := each 0 hl0
      have h00 := (World.cells?_some hc0).2.2 0 hk
      have hsp : sp = none := by
        have h0l := (World.cells?_some hc0).2.1
        have h0s : cs0[0]? = some cs0[0] := by simp
        rw [h0s] at h00
        simpa [Addr.add] using World.cell?_spot h00
      subst hsp
      refine ⟨b, o, rfl, ?_⟩
      have cellAt : ∀ i, i < len → ∀ j, j < k → ∃ cs, w.cells? base ((⟨b, o, none⟩ : Addr).add (i * k)) k = some cs ∧ cs.length = k ∧ w.cell? ⟨b, o + i * k + j, none⟩ = cs[j]? := fun i hi j hj => by
        obtain ⟨cs, _, h2, _⟩ := each i hi
        refine ⟨cs, h2, (World.cells?_some h2).2.1, ?_⟩
        have := (World.cells?_some h2).2.2 j hj
        rwa [add_none, add_none] at this
      obtain ⟨c, E, f, hblk⟩ : ∃ c E f, w.heap[b]? = some (.cells c E f) := by
        obtain ⟨cs, _, hl', h1⟩ := cellAt 0 hl0 0 hk
        have h0s : cs[0]? = some cs[0] := by simp
        rw [h0s] at h1
        unfold World.cell? at h1
        simp at h1
        split at h1
        · rename_i c E f h; exact ⟨c, E, f, h⟩
        · cases h1
      have cellc : ∀ n, w.cell? ⟨b, n, none⟩ = c[n]? := fun n => by simp [World.cell?, hblk]
      refine ⟨c, E, f, hblk, ?_, ?_, ?_⟩
      · obtain ⟨cs, _, hl', h1⟩ := cellAt (len - 1) (by omega) (k - 1) (by omega)
        rw [cellc, show cs[k - 1]? = some (cs[k - 1]'(by omega)) by simp] at h1
        have := (Array.getElem?_eq_some_iff.1 h1).1
        simp only [List.length_map, List.length_range]
        have h2 : len * k = (len - 1) * k + k := by rw [← Nat.succ_mul]; congr 1; omega
        omega
      · intro x hx'
        obtain ⟨i, hi, rfl⟩ := List.mem_map.1 hx'
        obtain ⟨cs, h2, hl', _⟩ := cellAt i (by simpa using hi) 0 hk
        rw [h2]; exact hl'
      · intro i j x hi hj
        have hil : i < len := by have := (List.getElem?_eq_some_iff.1 hi).1; simpa using this
        obtain ⟨cs, h2, _, h1⟩ := cellAt i hil j hj
        simp [hil, h2] at hi
        subst hi
        rw [← cellc]; exact h1
    · have hil : i < len := by have := (List.getElem?_eq_some_iff.1 hi).1; simpa using this
      obtain ⟨cs, y, h2, h3⟩ := each i hil
      simp [hil, h2] at hi
      subst hi
      exact ⟨n, y, h3⟩

/-- The arguments read as they did, where nothing of theirs was turned. -/
theorem args_stay {H : Type} {enc : TypeId × Value → H} {P : Program} {W W' : World} (hl : laidOutB P = true) {sp : Nat → Bool} : ∀ {ts : List TypeId} {vs : List Value} {ds : List (DataW H)} {ps : List MemPlace},
    (∀ t ∈ ts, P.readableRec t = true ∧ t < P.types.size) → DataW.TrodAll enc P W 0 (fun _ => true) true ts vs ds ps → (∀ p ∈ ps, W.sameAt W' p) → (∀ p ∈ ps, sp p.block = true) → DataW.TrodAll enc P W' 0 sp true ts vs ds ps
  | [], [], [], _, _, h, _, _ => h
  | t :: ts, v :: vs, d :: ds, ps, ht, ⟨p, q, h1, h2, e⟩, hs, hsp => by
    subst e
    exact ⟨p, q, WideElems.Trod_stays hl (ht t (by simp)).1 (ht t (by simp)).2 h1 (fun x hx => hs x (by simp [hx])) (fun x hx => hsp x (by simp [hx])),
      args_stay hl (fun u hu => ht u (by simp [hu])) h2 (fun x hx => hs x (by simp [hx])) (fun x hx => hsp x (by simp [hx])), rfl⟩

/-- What a law's row asks behind the call: true, and the arguments as they were. -/
theorem law_post {H : Type} {enc : TypeId × Value → H} {P : Program} {s : ChangeSpec} {f : Func} {W W' : World} {args : Array Value} {ds gs : List (DataW H)} {before : List MemPlace} {tb : TypeId}
    (hW : DataW.Whole enc P f.params.toList s.vars false W args.toList ds gs before) (hvars : s.vars = []) (hfn : s.fn H (ds ++ gs) = { results := [.lit (.bool true)], args := ds }) (hres : f.resultTypes = #[tb]) (hb : P.underlying tb = some .bool)
    (hl : laidOutB P = true) (ht : ∀ t ∈ f.params.toList, P.readableRec t = true ∧ t < P.types.size) (hs : same W W') (fr : Fr W.heap W'.heap []) : s.post enc P f false true false false W args (.bool true) W' := by
  have hW' := hW
  obtain ⟨p, q, hA, hV, hpq, hfz, hnd⟩ := hW
  rw [hvars] at hV
  obtain ⟨rfl, rfl⟩ := trodVars_none hV
  rw [List.append_nil] at hpq
  subst hpq
  have hg : RowKit.Grown W W' := grown_of hs fr
  have hlt : ∀ x ∈ before, x.block < W.heap.size := fun x hx => hW'.lt x hx
  have hsame : ∀ x ∈ before, W.sameAt W' x := fun x hx => by
    have h1 := fr.keep x.block (hlt x hx) (by simp)
    cases x with
    | cell b o => simp only [MemPlace.block] at h1; simp [World.sameAt, World.cell?, h1]
    | map b => simpa [World.sameAt, MemPlace.block] using h1
  refine post_of_same (pa := before) (pv := []) hW' (fun _ _ _ => ?_) (fun sp hsp => ?_) (fun sp hsp => ?_) (by simp) (hg.frame _) hg.2.1 (ok_one hres rfl (okWide_bool_mk hb _))
  · rw [hres, hfn]; exact trodAll_cons_mk (shut_bool hb _) trodAll_mk0
  · rw [hfn]; exact args_stay hl ht hA hsame hsp
  · rw [hfn, hvars]; exact rfl
end Go.Fw

/- The framework, part 16: slices of one's own: grown, cut. No condition. -/
namespace Go.Fw
open Go

/-- v is a slice of its own of the records xs: nil, or the whole front of a block; bl: that block, if there is one. -/
def OwnS (h : Hp) (E k : Nat) (v : Value) (xs : List (List Value)) (bl : List Nat) : Prop :=
  (v = .slice none 0 0 ∧ xs = [] ∧ bl = []) ∨ ∃ b cap, v = .slice (some ⟨b, 0, none⟩) xs.length cap ∧ RowAt h E k b cap xs ∧ bl = [b]

theorem OwnS.nil (h : Hp) (E k : Nat) : OwnS h E k (.slice none 0 0) [] [] := .inl ⟨rfl, rfl, rfl⟩
theorem OwnS.fr {h h' : Hp} {E k : Nat} {v : Value} {xs : List (List Value)} {bl S : List Nat} (o : OwnS h E k v xs bl) (f : Fr h h' S) (hS : ∀ b ∈ bl, b ∉ S) : OwnS h' E k v xs bl := by
  rcases o with h | ⟨b, cap, hv, r, rfl⟩
  · exact .inl h
  · exact .inr ⟨b, cap, hv, r.fr f (hS b (by simp)), rfl⟩
theorem OwnS.lt {h : Hp} {E k : Nat} {v : Value} {xs : List (List Value)} {bl : List Nat} (o : OwnS h E k v xs bl) : ∀ b ∈ bl, b < h.size := by
  rcases o with ⟨_, _, rfl⟩ | ⟨b, cap, hv, r, rfl⟩
  · simp
  · intro c hc
    obtain rfl : c = b := by simpa using hc
    exact r.lt
theorem OwnS.lenE {h : Hp} {E k : Nat} {v : Value} {xs : List (List Value)} {bl : List Nat} (o : OwnS h E k v xs bl) : lenE v = some (.int .i64 xs.length) := by
  rcases o with ⟨rfl, rfl, rfl⟩ | ⟨b, cap, rfl, r, rfl⟩ <;> simp
theorem OwnS.one {h : Hp} {E k : Nat} {v : Value} {xs : List (List Value)} {bl : List Nat} (o : OwnS h E k v xs bl) : v.oneCell' = true := by
  rcases o with ⟨rfl, rfl, rfl⟩ | ⟨b, cap, rfl, r, rfl⟩ <;> rfl
theorem OwnS.cells {h : Hp} {E k : Nat} {v : Value} {xs : List (List Value)} {bl : List Nat} (o : OwnS h E k v xs bl) : v.cells = #[v] := by
  rcases o with ⟨rfl, rfl, rfl⟩ | ⟨b, cap, rfl, r, rfl⟩ <;> rfl
theorem OwnS.rowv {h : Hp} {E k : Nat} {v : Value} {xs : List (List Value)} {bl : List Nat} (o : OwnS h E k v xs bl) : RowV h k v xs := by
  rcases o with ⟨rfl, rfl, rfl⟩ | ⟨b, cap, rfl, r, rfl⟩
  · exact ⟨none, 0, rfl, fun h => absurd rfl h⟩
  · exact ⟨_, cap, rfl, fun _ => ⟨b, 0, rfl, r.seg⟩⟩

theorem RowV.fr {h h' : Hp} {k : Nat} {v : Value} {xs : List (List Value)} (r : RowV h k v xs) (f : Fr h h' []) : RowV h' k v xs := by
  obtain ⟨a, cap, hv, hx⟩ := r
  exact ⟨a, cap, hv, fun hne => let ⟨b, o, ha, s⟩ := hx hne; ⟨b, o, ha, s.fr f (by simp)⟩⟩

theorem own_app {P : Program} {t ty E k bytes : Nat} (eo : ElemOk P t E k bytes) {h : Hp} {v : Value} {bs os cs : Nat} {xs ys : List (List Value)} {bl : List Nat} (o : OwnS h E k v xs bl) (s : Seg h k bs os ys) (y1 : ∀ x ∈ ys, ∀ u ∈ x, u.oneCell' = true)
    (hB : (xs.length + ys.length) * bytes ≤ 140737488355328) (hM : xs.length + ys.length ≤ 4398046511104) {K : Value → Hp → Prop}
    (k' : ∀ h' v' bl', OwnS h' E k v' (xs ++ ys) bl' → Fr h h' bl → (∀ b ∈ bl', b ∈ bl ∨ h.size ≤ b) → K v' h') :
    efS P (Builtin.append_ #[t, t] ty #[v, .slice (some ⟨bs, os, none⟩) ys.length cs]) h K := by
  rcases o with ⟨rfl, rfl, rfl⟩ | ⟨b, cap, rfl, r, rfl⟩
  · by_cases hy : ys = []
    · subst hy
      exact append_none eo (by simp) (k' h _ _ (.nil h E k) (Fr.refl _ _) (by simp))
    · refine append_nil eo s y1 hy (by simpa using hB) (by simp at hM; omega) fun h' b cap r f hb => ?_
      refine k' h' _ [b] (.inr ⟨b, cap, by simp, by simpa using r, rfl⟩) f fun c hc => ?_
      obtain rfl : c = b := by simpa using hc
      exact .inr (hb.resolve_left (by simp))
  · refine append_row eo r s y1 hB (by omega) fun h' b' cap' r' f hb => ?_
    refine k' h' _ [b'] (.inr ⟨b', cap', rfl, r', rfl⟩) f fun c hc => ?_
    obtain rfl : c = b' := by simpa using hc
    rcases hb with hb | hb
    · exact .inl (by simpa using hb.symm)
    · exact .inr hb

/-- The front of an own slice. -/
theorem OwnS.front {h : Hp} {E k : Nat} {v : Value} {xs : List (List Value)} {bl : List Nat} (o : OwnS h E k v xs bl) {n : Nat} (hn : n < xs.length) :
    ∃ b cap, bl = [b] ∧ sliceE k v none (some (.int .i64 n)) = some (.slice (some ⟨b, 0, none⟩) (xs.take n).length cap) ∧ Seg h k b 0 (xs.take n) := by
  rcases o with ⟨rfl, rfl, rfl⟩ | ⟨b, cap, rfl, r, rfl⟩
  · simp at hn
  · have hl := r.len
    refine ⟨b, cap, rfl, ?_, by simpa using r.seg.sub (l := 0) (m := n) (by omega)⟩
    rw [slice_to k b 0 _ cap .i64 n (by omega)]
    simp; omega
/-- What lies behind the place n. -/
theorem OwnS.behind {h : Hp} {E k : Nat} {v : Value} {xs : List (List Value)} {bl : List Nat} (o : OwnS h E k v xs bl) {n : Nat} (hn : n < xs.length) :
    ∃ b o cap, bl = [b] ∧ sliceE k v (some (.int .i64 ((n + 1 : Nat) : Int))) none = some (.slice (some ⟨b, o, none⟩) (xs.drop (n + 1)).length cap) ∧ Seg h k b o (xs.drop (n + 1)) := by
  rcases o with ⟨rfl, rfl, rfl⟩ | ⟨b, cap, rfl, r, rfl⟩
  · simp at hn
  · have hl := r.len
    by_cases hc : n + 1 < cap
    · refine ⟨b, (n + 1) * k, cap - (n + 1), rfl, ?_, ?_⟩
      · rw [slice_from k b 0 _ cap .i64 (n + 1) (by omega) hc]
        simp
      · have := r.seg.sub (l := n + 1) (m := xs.length - (n + 1)) (by omega)
        rw [List.take_of_length_le (by simp)] at this
        simpa using this
    · have e1 : cap = n + 1 := by omega
      have e2 : xs.drop (n + 1) = [] := List.drop_eq_nil_of_le (by omega)
      rw [e2]
      have hx : xs.length = n + 1 := by omega
      refine ⟨b, 0, 0, rfl, ?_, ?_⟩
      · have hb1 : bndE (n + 1) (.int .i64 ((n + 1 : Nat) : Int)) = some (n + 1) := bndE_nat .i64 (Nat.le_refl _)
        simp only [sliceE, hiE, loE, Option.bind_some, e1, hx, hb1]
        simp
      · obtain ⟨c, E', f, hb, _⟩ := r.seg
        exact ⟨c, E', f, hb, by simp, by simp, fun i j x hi => by simp at hi⟩
end Go.Fw

/- The framework, part 17: maps whose keys are whole numbers: read and written. No condition. -/
namespace Go.Fw
open Go

/-- Block b is a map: these keys, with these values, in the order in which they came. -/
def MapAt (h : Hp) (b : Nat) (kd : IntKind) (m : List (Int × Value)) : Prop := ∃ es clock, h[b]? = some (.map es clock) ∧ es.toList.map (fun e => (e.key, e.val)) = m.map fun x => (Value.int kd x.1, x.2)

theorem MapAt.fr {h h' : Hp} {b : Nat} {kd : IntKind} {m : List (Int × Value)} {S : List Nat} (a : MapAt h b kd m) (f : Fr h h' S) (hS : b ∉ S) : MapAt h' b kd m :=
  let ⟨es, c, hb, e⟩ := a; ⟨es, c, f.get hb hS, e⟩
theorem MapAt.lt {h : Hp} {b : Nat} {kd : IntKind} {m : List (Int × Value)} (a : MapAt h b kd m) : b < h.size := let ⟨_, _, hb, _⟩ := a; lt_of_get hb
theorem MapAt.new (h : Hp) (kd : IntKind) : MapAt (h.push (.map #[] 0)) h.size kd [] := ⟨#[], 0, get_new h _, rfl⟩

def mget (m : List (Int × Value)) (k : Int) : Option Value := (m.find? fun x => x.1 == k).map (·.2)
def mset (m : List (Int × Value)) (k : Int) (v : Value) : List (Int × Value) :=
  match m.findIdx? fun x => x.1 == k with
  | some i => m.modify i fun _ => (k, v)
  | none => m ++ [(k, v)]

theorem findNow_int {kd : IntKind} {n : Int} : ∀ (l : List MapEntry) (m : List (Int × Value)) (i : Nat), l.map (fun e => (e.key, e.val)) = m.map (fun x => (Value.int kd x.1, x.2)) →
    Instr.findNow (.int kd) (.int kd n) l i = some ((m.findIdx? fun x => x.1 == n).bind fun j => (m[j]?).map fun x => (i + j, x.2))
  | [], [], _, _ => rfl
  | [], _ :: _, _, h => by simp at h
  | _ :: _, [], _, h => by simp at h
  | e :: l, x :: m, i, h => by
    simp only [List.map_cons, List.cons.injEq, Prod.mk.injEq] at h
    obtain ⟨⟨hk, hv⟩, hr⟩ := h
    have ih := findNow_int (kd := kd) (n := n) l m (i + 1) hr
    unfold Instr.findNow
    rw [hk]
    have hs : Instr.sameNow (.int kd) (.int kd n) (.int kd x.1) = some (n == x.1) := by simp [Instr.sameNow]
    rw [hs]
    by_cases hx : n = x.1
    · subst hx; simp [List.findIdx?_cons, hv]
    · have h1 : (n == x.1) = false := by simpa using hx
      have h2 : (x.1 == n) = false := by simpa using fun e => hx e.symm
      simp only [h1, ih, List.findIdx?_cons, h2, Bool.false_eq_true, if_false]
      cases m.findIdx? fun x => x.1 == n with
      | none => rfl
      | some j => simp [Nat.add_assoc, Nat.add_comm 1 j]

theorem findIdx_mget {m : List (Int × Value)} {n : Int} : mget m n = (m.findIdx? fun x => x.1 == n).bind fun j => (m[j]?).map (·.2) := by
  unfold mget
  induction m with
  | nil => rfl
  | cons x m ih =>
    by_cases hx : (x.1 == n) = true
    · simp [List.findIdx?_cons, hx]
    · simp only [List.find?_cons, List.findIdx?_cons, hx, Bool.false_eq_true, if_false, ih]
      cases m.findIdx? fun x => x.1 == n <;> simp

theorem find_run {P : Program} {kt : Nat} {kd : IntKind} {m : List (Int × Value)} {n : Int} (hk : P.underlying kt = some (.int kd)) {es : Array MapEntry} (e : es.toList.map (fun e => (e.key, e.val)) = m.map fun x => (Value.int kd x.1, x.2)) (w : World) :
    (Instr.findKey kt (.int kd n) es.toList).run P w = .ok ((m.findIdx? fun x => x.1 == n).bind fun j => (m[j]?).map fun x => (j, x.2)) w := by
  have h := findNow_int (kd := kd) (n := n) es.toList m 0 e
  simp only [Nat.zero_add] at h
  exact MapKept.run_findKey hk h

theorem look_rule {P : Program} {t kt et b : Nat} {kd : IntKind} {m : List (Int × Value)} {h : Hp} {n : Int} {z : Value} (ht : P.underlying t = some (.map kt et)) (hk : P.underlying kt = some (.int kd)) (hz : (P.info? et).bind (·.zero) = some z) (a : MapAt h b kd m) (ok : Bool) {K : Value → Prop}
    (k' : K (if ok then .tuple #[(mget m n).getD z, .bool (mget m n).isSome] else (mget m n).getD z)) : rdS P (Instr.lookup t (.map (some b)) (.int kd n) ok) h K := by
  obtain ⟨es, clock, hb, e⟩ := a
  refine ⟨_, fun w hw => ?_, k'⟩
  subst hw
  obtain ⟨i, hi, hiz⟩ := Option.bind_eq_some_iff.1 hz
  have hc : (Instr.checkKey es.isEmpty 10000 kt (.int kd n)).run P w = .ok () w := MapKept.run_checkKey (k := .int kd n) hk (by simp [MapKept.IsKey]) _ 9999
  have hf := find_run (P := P) (n := n) hk e w
  have hz' : (zeroValue et).run P w = .ok z w := by simp [zeroValue, run_typeInfo w hi, hiz, Result.andThen]
  rw [findIdx_mget]
  simp only [Instr.lookup, Sem.run_bind, run_underlying ht, Result.andThen_ok, MapKept.run_getObj_map hb, Sem.run_pure, hc, hf]
  cases hx : m.findIdx? fun x => x.1 == n with
  | none => cases ok <;> simp [hz', Result.andThen]
  | some j =>
    have hj : j < m.length := (List.findIdx?_eq_some_iff_getElem.1 hx).1
    cases ok <;> simp [hj]

theorem frz_map {h : Hp} {b : Nat} {es es' : Array MapEntry} {c c' : Nat} (hb : h[b]? = some (.map es c)) : frz (some (.map es' c')) = frz h[b]? := by rw [hb]; rfl

theorem upd_rule {P : Program} {t kt et b : Nat} {kd : IntKind} {m : List (Int × Value)} {h : Hp} {n : Int} {v : Value} (ht : P.underlying t = some (.map kt et)) (hk : P.underlying kt = some (.int kd)) (a : MapAt h b kd m) {K : Unit → Hp → Prop}
    (k' : ∀ h', MapAt h' b kd (mset m n v) → Fr h h' [b] → K () h') : efS P (Instr.mapUpdate t (.map (some b)) (.int kd n) v) h K := by
  obtain ⟨es, clock, hb, e⟩ := a
  intro w hw
  subst hw
  have ik : MapKept.IsKey (.int kd) (.int kd n) := by simp [MapKept.IsKey]
  have hc : (Instr.checkKey false 10000 kt (.int kd n)).run P w = .ok () w := MapKept.run_checkKey (k := .int kd n) hk ik _ 9999
  have hf := find_run (P := P) (n := n) hk e w
  have hlen : es.size = m.length := by have := congrArg List.length e; simpa using this
  cases hx : m.findIdx? fun x => x.1 == n with
  | none =>
    rw [hx] at hf
    refine ⟨(), { w with heap := w.heap.setIfInBounds b (.map (es.push { key := .int kd n, val := v, born := clock }) (clock + 1)) }, ?_, ⟨rfl, rfl, rfl⟩, ?_⟩
    · simp [Instr.mapUpdate, run_underlying ht, MapKept.run_getObj_map hb, hc, hf, MapKept.run_setObj_map _ hb, Result.andThen]
    · refine k' _ ⟨_, _, get_set hb, ?_⟩ (Fr.set _ b _ (fun _ => by simp) (frz_map hb))
      simp [mset, hx, e]
  | some j =>
    obtain ⟨hj, hjn, _⟩ := List.findIdx?_eq_some_iff_getElem.1 hx
    have hjn' : m[j].1 = n := by simpa using hjn
    have hje : es[j]? = some es[j] := by simp [hlen, hj]
    have hkey : es[j].key = .int kd n := by
      have h1 := congrArg (·[j]?) e
      simp [hj, hlen] at h1
      rw [h1.1, hjn']
    rw [hx] at hf
    simp only [Option.bind_some, List.getElem?_eq_getElem hj, Option.map_some] at hf
    have hst := MapKept.run_keyThatStays (P := P) (w := w) (k := .int kd n) (d := .int kd) ik
    refine ⟨(), { w with heap := w.heap.setIfInBounds b (.map (es.modify j fun e => { e with key := .int kd n, val := v }) clock) }, ?_, ⟨rfl, rfl, rfl⟩, ?_⟩
    · simp [Instr.mapUpdate, run_underlying ht, MapKept.run_getObj_map hb, hc, hf, hje, hkey, hst, MapKept.run_setObj_map _ hb, Result.andThen]
    · refine k' _ ⟨_, _, get_set hb, ?_⟩ (Fr.set _ b _ (fun _ => by simp) (frz_map hb))
      apply List.ext_getElem?
      intro i
      have h1 := congrArg (·[i]?) e
      simp only [List.getElem?_map, Array.getElem?_toList] at h1
      simp only [mset, hx, List.getElem?_map, Array.getElem?_toList, Array.getElem?_modify, List.getElem?_modify]
      by_cases hij : j = i
      · subst hij; simp [hlen, hj]
      · simp [hij, h1]
end Go.Fw

/- The framework, part 18: rows made with room; what is appended from anywhere; slices that lie in named blocks. No condition. -/
namespace Go.Fw
open Go

theorem make_room {P : Program} {t E k bytes : Nat} {z : Value} (hs : P.underlying t = some (.slice E)) (hi : (P.info? E).map (fun i => (i.zero, i.size, i.bytes)) = some (some z, k, bytes)) (hz : z.cells.size = k) {h : Hp} {n : Nat} (hB : bytes * n ≤ 140737488355328) (hM : n ≤ 1099511627776)
    {K : Value → Hp → Prop} (k' : ∀ h', RowAt h' E k h.size n [] → Fr h h' [] → K (.slice (some ⟨h.size, 0, none⟩) 0 n) h') :
    efS P (Instr.makeSlice t (.int .i64 0) (.int .i64 n)) h K := by
  intro w hw
  obtain ⟨i, hi', hzz⟩ := Option.map_eq_some_iff.1 hi
  simp only [Prod.mk.injEq] at hzz
  obtain ⟨hz1, hs1, hb1⟩ := hzz
  have hb' : (i.bytes : Int) * (n : Int) ≤ 281474976710656 := by
    have h : ((i.bytes * n : Nat) : Int) ≤ 281474976710656 := by rw [hb1]; omega
    rwa [Int.natCast_mul] at h
  have hr := run_make (P := P) w t E i z hs hi' hz1 .i64 .i64 0 n (by omega) (by omega) hb' (by omega)
  simp only [Int.toNat_natCast, hs1, Int.toNat_zero] at hr
  refine ⟨_, _, hr, ⟨rfl, rfl, rfl⟩, ?_⟩
  have e1 : (w.alloc (.cells (madeCells z.cells (n * k)) E)).heap = h.push (.cells (madeCells z.cells (n * k)) E (0, 0)) := by
    show w.heap.push _ = _
    rw [hw]
  rw [e1, hw]
  exact k' _ ⟨_, get_new h _, by simp [madeCells], by simp, by simp, by simp, by simp⟩ (Fr.push _ _ _)

/-- Nothing is appended to a row. -/
theorem append_empty {P : Program} {t ty E k bytes : Nat} (eo : ElemOk P t E k bytes) {h : Hp} {b n cap cs : Nat} {a : Option Addr} (hn : n ≤ cap) {K : Value → Hp → Prop} (k' : K (.slice (some ⟨b, 0, none⟩) n cap) h) :
    efS P (Builtin.append_ #[t, t] ty #[.slice (some ⟨b, 0, none⟩) n cap, .slice a 0 cs]) h K := by
  intro w hw
  obtain ⟨i, z, hi, hz, hik, hib, hzs⟩ := eo.info
  refine ⟨.slice (some ⟨b, 0, none⟩) n cap, w, ?_, .refl w, hw ▸ k'⟩
  cases a <;> simp [Builtin.append_, run_underlying eo.slice, sizeOf, typeInfo, hi, Builtin.lenOf, Builtin.firstCells, loadCells, loadCellsFrom, storeCells, hn]

theorem append_v {P : Program} {t ty E k bytes : Nat} (eo : ElemOk P t E k bytes) {h : Hp} {b cap : Nat} {v : Value} {xs ys : List (List Value)} (r : RowAt h E k b cap xs) (s : RowV h k v ys)
    (y1 : ∀ x ∈ ys, ∀ v ∈ x, v.oneCell' = true) (hB : (xs.length + ys.length) * bytes ≤ 140737488355328) (hM : xs.length + ys.length ≤ 4611686018427387904) {K : Value → Hp → Prop} (k' : Grown h E k (some b) (xs ++ ys) K) :
    efS P (Builtin.append_ #[t, t] ty #[.slice (some ⟨b, 0, none⟩) xs.length cap, v]) h K := by
  obtain ⟨a, c, rfl, hx⟩ := s
  by_cases hy : ys = []
  · subst hy
    refine append_empty eo r.len ?_
    have := k' h b cap (by simpa using r) (Fr.refl _ _) (.inl rfl)
    simpa using this
  · obtain ⟨bs, o, rfl, s⟩ := hx hy
    exact append_row eo r s y1 hB hM k'

/-- v is a slice of these records, which lie in one of those blocks. -/
def RowB (h : Hp) (k : Nat) (v : Value) (xs : List (List Value)) (B : List Nat) : Prop := ∃ a cap, v = .slice a xs.length cap ∧ (xs ≠ [] → ∃ b o, a = some ⟨b, o, none⟩ ∧ b ∈ B ∧ Seg h k b o xs)
theorem RowB.rowv {h : Hp} {k : Nat} {v : Value} {xs : List (List Value)} {B : List Nat} (r : RowB h k v xs B) : RowV h k v xs := by
  obtain ⟨a, c, e, hx⟩ := r
  exact ⟨a, c, e, fun hy => let ⟨b, o, e, _, s⟩ := hx hy; ⟨b, o, e, s⟩⟩
theorem RowB.fr {h h' : Hp} {k : Nat} {v : Value} {xs : List (List Value)} {B S : List Nat} (r : RowB h k v xs B) (f : Fr h h' S) (hS : ∀ b ∈ B, b ∉ S) : RowB h' k v xs B := by
  obtain ⟨a, c, e, hx⟩ := r
  exact ⟨a, c, e, fun hy => let ⟨b, o, e, hb, s⟩ := hx hy; ⟨b, o, e, hb, s.fr f (hS b hb)⟩⟩
end Go.Fw

/- The framework, part 19: slices and structs that come in, by their cells: what their parts read as. No condition. -/
namespace Go.Fw
open Go Go.ChangeShapes Go.WideShapes Go.ChangeAt Go.RowKit

section
variable {H : Type} {enc : TypeId × Value → H} {P : Program} {w : World} {base : Nat} {spare : Nat → Bool} {held : Bool}

/-- A slice, wherever it stands: its records, k cells each, and the data that they read as. -/
theorem open_cells {t e k fuel : Nat} {cs : List Value} {x : DataW H × List MemPlace} (ht : P.underlying t = some (.slice e)) (hc : P.cellsOf e = k) (hk : 0 < k) (h : DataW.trod enc P w base spare held fuel t cs = some x) :
    ∃ (v : Value) (xs : List (List Value)) (ys : List (DataW H)), cs = [v] ∧ RowV w.heap k v xs ∧ xs.length = ys.length ∧ (x.1 = .nil ∧ ys = [] ∨ ∃ sp, x.1 = .slice ys sp) ∧
      ∀ (i : Nat) (c : List Value), xs[i]? = some c → ∃ n y, ys[i]? = some y.1 ∧ DataW.trod enc P w base spare held n e c = some y := by
  rcases DataW.trod_slice ht h with ⟨rfl, rfl⟩ | ⟨a', len, cap, elems, rest, n, _, rfl, rfl, hb, hl, hm, hlen, hel, _, _⟩
  · exact ⟨_, [], [], rfl, ⟨none, 0, rfl, fun h => absurd rfl h⟩, rfl, .inl ⟨rfl, rfl⟩, fun i c hi => by simp at hi⟩
  · have each : ∀ i, i < len → ∃ cs y, w.cells? base (a'.add (i * k)) k = some cs ∧ elems[i]? = some y ∧ DataW.trod enc P w base spare held n e cs = some y := fun i hi => by
      have h1 := hel i hi
      rw [hc, List.getElem?_eq_getElem (by omega)] at h1
      obtain ⟨cs, h2, h3⟩ := Option.bind_eq_some_iff.1 h1
      exact ⟨cs, _, h2, by simp [hlen, hi], h3⟩
    refine ⟨_, (List.range len).map fun i => (w.cells? base (a'.add (i * k)) k).getD [], elems.map (·.1), rfl, ⟨some a', cap, by simp, fun hne => ?_⟩, by simp [hlen], .inr ⟨_, rfl⟩, fun i x hi => ?_⟩
    · have hl0 : 0 < len := by
        rcases Nat.eq_zero_or_pos len with h | h
        · subst h; simp at hne
        · exact h
      obtain ⟨b, o, sp⟩ := a'
      obtain ⟨cs0, _, hc0, _⟩ := each 0 hl0
      have h00 := (World.cells?_some hc0).2.2 0 hk
      have hsp : sp = none := by
        have h0l := (World.cells?_some hc0).2.1
        have h0s : cs0[0]? = some cs0[0] := by simp
        rw [h0s] at h00
        simpa [Addr.add] using World.cell?_spot h00
      subst hsp
      refine ⟨b, o, rfl, ?_⟩
      have cellAt : ∀ i, i < len → ∀ j, j < k → ∃ cs, w.cells? base ((⟨b, o, none⟩ : Addr).add (i * k)) k = some cs ∧ cs.length = k ∧ w.cell? ⟨b, o + i * k + j, none⟩ = cs[j]? := fun i hi j hj => by
        obtain ⟨cs, _, h2, _⟩ := each i hi
        refine ⟨cs, h2, (World.cells?_some h2).2.1, ?_⟩
        have := (World.cells?_some h2).2.2 j hj
        rwa [add_none, add_none] at this
      obtain ⟨c, E, f, hblk⟩ : ∃ c E f, w.heap[b]? = some (.cells c E f) := by
        obtain ⟨cs, _, hl', h1⟩ := cellAt 0 hl0 0 hk
        have h0s : cs[0]? = some cs[0] := by simp
        rw [h0s] at h1
        unfold World.cell? at h1
        simp at h1
        split at h1
        · rename_i c E f h; exact ⟨c, E, f, h⟩
        · cases h1
      have cellc : ∀ n, w.cell? ⟨b, n, none⟩ = c[n]? := fun n => by simp [World.cell?, hblk]
      refine ⟨c, E, f, hblk, ?_, ?_, ?_⟩
      · obtain ⟨cs, _, hl', h1⟩ := cellAt (len - 1) (by omega) (k - 1) (by omega)
        rw [cellc, show cs[k - 1]? = some (cs[k - 1]'(by omega)) by simp] at h1
        have := (Array.getElem?_eq_some_iff.1 h1).1
        simp only [List.length_map, List.length_range]
        have h2 : len * k = (len - 1) * k + k := by rw [← Nat.succ_mul]; congr 1; omega
        omega
      · intro x hx'
        obtain ⟨i, hi, rfl⟩ := List.mem_map.1 hx'
        obtain ⟨cs, h2, hl', _⟩ := cellAt i (by simpa using hi) 0 hk
        rw [h2]; exact hl'
      · intro i j x hi hj
        have hil : i < len := by have := (List.getElem?_eq_some_iff.1 hi).1; simpa using this
        obtain ⟨cs, h2, _, h1⟩ := cellAt i hil j hj
        simp [hil, h2] at hi
        subst hi
        rw [← cellc]; exact h1
    · have hil : i < len := by have := (List.getElem?_eq_some_iff.1 hi).1; simpa using this
      obtain ⟨cs, y, h2, he, h3⟩ := each i hil
      simp [hil, h2] at hi
      subst hi
      exact ⟨n, y, by simp [he], h3⟩

/-- A struct: its fields, by their types and places. -/
theorem open_fields {t fuel : Nat} {fs : Array Field} {tys : List (TypeId × Nat)} {cs : List Value} {x : DataW H × List MemPlace} (ht : P.underlying t = some (.struct fs)) (hf : fs.toList.map (fun f => (f.type, f.offset)) = tys) (h : DataW.trod enc P w base spare held fuel t cs = some x) :
    ∃ (ys : List (DataW H)) (n : Nat), x.1 = .agg ys ∧ cs.length = P.cellsOf t ∧ ys.length = tys.length ∧ ∀ (i : Nat) (ty : TypeId) (off : Nat), tys[i]? = some (ty, off) → ∃ y, ys[i]? = some y.1 ∧ DataW.trod enc P w base spare held n ty ((cs.drop off).take (P.cellsOf ty)) = some y := by
  obtain ⟨xs, n, _, rfl, hl, hlen, hfd⟩ := DataW.trod_struct ht h
  refine ⟨xs.map (·.1), n, rfl, hl, by rw [← hf]; simp [hlen], fun i ty off hi => ?_⟩
  rw [← hf, List.getElem?_map] at hi
  obtain ⟨f, hf1, hf2⟩ := Option.map_eq_some_iff.1 hi
  obtain ⟨rfl, rfl⟩ := Prod.mk.inj hf2
  have h1 := hfd i f (by simpa using hf1)
  have hix : i < xs.length := by
    have := (List.getElem?_eq_some_iff.1 hf1).1
    simp at this; omega
  rw [List.getElem?_eq_getElem hix] at h1
  exact ⟨xs[i], by simp [hix], h1⟩
end
end Go.Fw

/- The framework, part 20: append, told with what stays: the old slice reads as it did. No condition. -/
namespace Go.Fw
open Go

theorem append_row2 {P : Program} {t ty E k bytes : Nat} (eo : ElemOk P t E k bytes) {h : Hp} {b cap bs os cs : Nat} {xs ys : List (List Value)} (r : RowAt h E k b cap xs) (s : Seg h k bs os ys)
    (y1 : ∀ x ∈ ys, ∀ v ∈ x, v.oneCell' = true) (hB : (xs.length + ys.length) * bytes ≤ 140737488355328) (hM : xs.length + ys.length ≤ 4611686018427387904) {K : Value → Hp → Prop}
    (k' : ∀ h' b' cap', RowAt h' E k b' cap' (xs ++ ys) → Fr h h' [b] → (b' = b ∧ cap' = cap ∨ h.size ≤ b' ∧ Fr h h' []) → K (.slice (some ⟨b', 0, none⟩) (xs ++ ys).length cap') h') :
    efS P (Builtin.append_ #[t, t] ty #[.slice (some ⟨b, 0, none⟩) xs.length cap, .slice (some ⟨bs, os, none⟩) ys.length cs]) h K := by
  intro w hw
  obtain ⟨i, z, hi, hz, hik, hib, hzs⟩ := eo.info
  obtain ⟨c, hb, hs, hl, hk, h1, ht⟩ := id r
  have yk : ∀ x ∈ ys, x.length = k := by obtain ⟨_, _, _, _, _, hk, _⟩ := s; exact hk
  have hyl : ys.flatten.length = ys.length * i.size := by rw [flat_len yk, hik]
  have hxl : xs.flatten.length = xs.length * i.size := by rw [flat_len hk, hik]
  have hnews := s.cells w hw
  have hall : ∀ u ∈ ys.flatten, u.oneCell' = true := fun u hu => by obtain ⟨x, hx, hu⟩ := List.mem_flatten.1 hu; exact y1 x hx u hu
  have hk2 : ∀ x ∈ xs ++ ys, x.length = k := fun x hx => by rcases List.mem_append.1 hx with h | h; exact hk x h; exact yk x h
  have h12 : ∀ x ∈ xs ++ ys, ∀ v ∈ x, v.oneCell' = true := fun x hx => by rcases List.mem_append.1 hx with h | h; exact h1 x h; exact y1 x h
  by_cases hroom : xs.length + ys.length ≤ cap
  · have hfit : xs.length * i.size + ys.flatten.length ≤ c.size := by rw [hyl, ← Nat.add_mul, hs, hik]; exact Nat.mul_le_mul_right _ hroom
    have hr := run_append_room (P := P) w t ty E i eo.slice hi b xs.length cap c (by rw [hw]; exact hb) ⟨bs, os, none⟩ ys.length cs ys.flatten hyl hnews hall hroom hfit
    refine ⟨_, _, hr, ⟨rfl, rfl, rfl⟩, ?_⟩
    have hset := setRow_heap_eq (w := w) (cs := (c.toList.take (xs.length * i.size) ++ ys.flatten ++ c.toList.drop (xs.length * i.size + ys.flatten.length)).toArray) (by rw [hw]; exact hb)
    rw [hset, hw]
    have := k' (h.setIfInBounds b (.cells (c.toList.take (xs.length * i.size) ++ ys.flatten ++ c.toList.drop (xs.length * i.size + ys.flatten.length)).toArray E (0, 0))) b cap
      ⟨_, get_set hb, ?_, by simpa using hroom, hk2, h12, ?_⟩ (Fr.set h b _ (fun _ => by simp) (by rw [hb]; rfl)) (.inl ⟨rfl, rfl⟩)
    · simpa using this
    · simp only [List.size_toArray, List.length_append, List.length_take, List.length_drop, Array.length_toList]
      rw [hik] at hfit ⊢
      rw [← hs]; omega
    · rw [hik, ht, List.flatten_append, List.length_append, Nat.add_mul, List.take_left']
      simp [flat_len hk, flat_len yk]
  · have hcells := r.seg.cells w hw
    have hr := run_append_grow (P := P) w t ty E i z eo.slice hi hz ⟨b, 0, none⟩ xs.length cap xs.flatten hxl hcells ⟨bs, os, none⟩ ys.length cs ys.flatten hyl hnews (by omega) (by omega) (growslice_fits (by omega) (by rw [hib]; exact hB))
    refine ⟨_, _, hr, drew_same w _, ?_⟩
    have hge := grownCap_ge w (xs.length + ys.length) cap E
    have hrow := row_new (h := h) (E := E) (k := k) (cap := grownCap w (xs.length + ys.length) cap E) (xs := xs ++ ys) (rest := (Builtin.zeroCells z.cells (grownCap w (xs.length + ys.length) cap E - (xs.length + ys.length))).toList) hk2 h12
      (by rw [zc_len, hzs]; simp) (by simpa using hge)
    have := k' _ h.size (grownCap w (xs.length + ys.length) cap E) hrow (Fr.push h _ _) (.inr ⟨Nat.le_refl _, Fr.push h _ _⟩)
    have e1 : (w.drew.alloc (.cells (xs.flatten.toArray ++ ys.flatten.toArray ++ Builtin.zeroCells z.cells (grownCap w (xs.length + ys.length) cap E - (xs.length + ys.length))) E)).heap =
        h.push (.cells ((xs ++ ys).flatten ++ (Builtin.zeroCells z.cells (grownCap w (xs.length + ys.length) cap E - (xs.length + ys.length))).toList).toArray E (0, 0)) := by
      show w.heap.push _ = _
      rw [hw]; congr 2; simp
    rw [e1, hw]
    simpa using this

/-- The old slice, and what was appended to it: they share their block, or they do not. -/
theorem own_app2 {P : Program} {t ty E k bytes : Nat} (eo : ElemOk P t E k bytes) {h : Hp} {v : Value} {bs os cs : Nat} {xs ys : List (List Value)} {bl : List Nat} (o : OwnS h E k v xs bl) (s : Seg h k bs os ys) (y1 : ∀ x ∈ ys, ∀ u ∈ x, u.oneCell' = true) (y0 : ys ≠ [])
    (hB : (xs.length + ys.length) * bytes ≤ 140737488355328) (hM : xs.length + ys.length ≤ 1099511627776) {K : Value → Hp → Prop}
    (k' : ∀ h' b cap, RowAt h' E k b cap (xs ++ ys) → Fr h h' bl → (bl = [b] ∧ (∃ n, v = .slice (some ⟨b, 0, none⟩) n cap) ∨ h.size ≤ b ∧ Fr h h' []) → K (.slice (some ⟨b, 0, none⟩) (xs ++ ys).length cap) h') :
    efS P (Builtin.append_ #[t, t] ty #[v, .slice (some ⟨bs, os, none⟩) ys.length cs]) h K := by
  rcases o with ⟨rfl, rfl, rfl⟩ | ⟨b, cap, rfl, r, rfl⟩
  · refine append_nil eo s y1 y0 (by simpa using hB) (by simp at hM; omega) fun h' b cap r f hb => ?_
    exact k' h' b cap (by simpa using r) f (.inr ⟨hb.resolve_left (by simp), f⟩)
  · refine append_row2 eo r s y1 hB (by omega) fun h' b' cap' r' f hb => k' h' b' cap' r' f ?_
    rcases hb with ⟨rfl, rfl⟩ | hb
    · exact .inl ⟨rfl, _, rfl⟩
    · exact .inr hb
end Go.Fw
