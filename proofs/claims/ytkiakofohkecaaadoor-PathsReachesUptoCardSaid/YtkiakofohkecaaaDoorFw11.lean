/- The framework, part 11: rows of records in memory: read, written, grown. No condition. -/
import Derived.Test.YtkiakofohkecaaaDoorFw10
namespace Go.Fw
open Go

/-- From cell off on, block b holds the records xs, k cells each. -/
def Seg (h : Hp) (k b off : Nat) (xs : List (List Value)) : Prop :=
  ∃ c E f, h[b]? = some (.cells c E f) ∧ off + xs.length * k ≤ c.size ∧ (∀ x ∈ xs, x.length = k) ∧ ∀ i j x, xs[i]? = some x → j < k → c[off + i * k + j]? = x[j]?

/-- Block b is a row of cap records, of which the first ones are xs; it may be written. -/
def RowAt (h : Hp) (E k b cap : Nat) (xs : List (List Value)) : Prop :=
  ∃ c, h[b]? = some (.cells c E (0, 0)) ∧ c.size = cap * k ∧ xs.length ≤ cap ∧ (∀ x ∈ xs, x.length = k) ∧ (∀ x ∈ xs, ∀ v ∈ x, v.oneCell' = true) ∧ c.toList.take (xs.length * k) = xs.flatten

theorem flat_len {k : Nat} : ∀ {xs : List (List Value)}, (∀ x ∈ xs, x.length = k) → xs.flatten.length = xs.length * k
  | [], _ => by simp
  | x :: xs, h => by
    simp only [List.flatten_cons, List.length_append, List.length_cons, flat_len (xs := xs) fun y hy => h y (by simp [hy]), h x (by simp)]
    rw [Nat.add_mul]; omega
theorem flat_get {k : Nat} : ∀ {xs : List (List Value)}, (∀ x ∈ xs, x.length = k) → ∀ {i j : Nat} {x : List Value}, xs[i]? = some x → j < k → xs.flatten[i * k + j]? = x[j]?
  | [], _, i, j, x, hi, _ => by simp at hi
  | y :: xs, h, 0, j, x, hi, hj => by
    obtain rfl : y = x := by simpa using hi
    have := h y (by simp)
    simp only [Nat.zero_mul, Nat.zero_add, List.flatten_cons]
    rw [List.getElem?_append_left (by omega)]
  | y :: xs, h, i + 1, j, x, hi, hj => by
    have hy := h y (by simp)
    have := flat_get (xs := xs) (fun z hz => h z (by simp [hz])) (i := i) (j := j) (x := x) (by simpa using hi) hj
    simp only [List.flatten_cons]
    rw [List.getElem?_append_right (by rw [hy, Nat.add_mul]; omega), ← this]
    congr 1
    rw [hy, Nat.add_mul]; omega

theorem RowAt.seg {h : Hp} {E k b cap : Nat} {xs : List (List Value)} (r : RowAt h E k b cap xs) : Seg h k b 0 xs := by
  obtain ⟨c, hb, hs, hl, hk, _, ht⟩ := r
  refine ⟨c, E, (0, 0), hb, by rw [hs]; simpa using Nat.mul_le_mul_right k hl, hk, fun i j x hi hj => ?_⟩
  have hf := flat_get hk hi hj
  have hlt : i < xs.length := (List.getElem?_eq_some_iff.1 hi).1
  have hlt2 : i * k + j < xs.length * k := Nat.lt_of_lt_of_le (by rw [Nat.add_mul]; omega : i * k + j < (i + 1) * k) (Nat.mul_le_mul_right k hlt)
  rw [← hf, ← ht, List.getElem?_take, if_pos hlt2]
  simp

theorem Seg.one {h : Hp} {k b off : Nat} {xs : List (List Value)} (s : Seg h k b off xs) {i j : Nat} {x : List Value} (hi : xs[i]? = some x) (hj : j < k) : ldS h (.pointer (some ⟨b, off + i * k + j, none⟩)) = x[j]? := by
  obtain ⟨c, E, f, hb, _, _, hc⟩ := s
  rw [ldS_at hb]; exact hc i j x hi hj
theorem Seg.sub {h : Hp} {k b off l m : Nat} {xs : List (List Value)} (s : Seg h k b off xs) (hlm : l + m ≤ xs.length) : Seg h k b (off + l * k) ((xs.drop l).take m) := by
  obtain ⟨c, E, f, hb, hs, hk, hc⟩ := s
  refine ⟨c, E, f, hb, ?_, fun x hx => hk x (List.mem_of_mem_drop (List.mem_of_mem_take hx)), fun i j x hi hj => ?_⟩
  · have h1 : ((xs.drop l).take m).length = m := by simp; omega
    rw [h1, Nat.add_assoc, ← Nat.add_mul]
    exact Nat.le_trans (Nat.add_le_add_left (Nat.mul_le_mul_right k hlm) _) hs
  · have hi' : xs[l + i]? = some x := by
      rw [List.getElem?_take] at hi
      split at hi
      · rwa [List.getElem?_drop] at hi
      · simp at hi
    rw [← hc (l + i) j x hi' hj]
    congr 1
    rw [Nat.add_mul]; omega
theorem Seg.all {h : Hp} {k b off : Nat} {xs : List (List Value)} (s : Seg h k b off xs) {i : Nat} {x : List Value} (hi : xs[i]? = some x) : ldA k h (.pointer (some ⟨b, off + i * k, none⟩)) = some (.agg x.toArray) := by
  obtain ⟨c, E, f, hb, hs, hk, hc⟩ := s
  have hlt : i < xs.length := (List.getElem?_eq_some_iff.1 hi).1
  have hle : off + i * k + k ≤ c.size := Nat.le_trans (by rw [Nat.add_assoc]; exact Nat.add_le_add_left (by rw [← Nat.succ_mul]; exact Nat.mul_le_mul_right k hlt) _) hs
  rw [ldA_at hb, if_pos hle]
  have hx := hk x (List.mem_of_getElem? hi)
  have he : c.extract (off + i * k) (off + i * k + k) = x.toArray := by
    apply Array.ext_getElem?
    intro j
    rw [Array.getElem?_extract]
    by_cases hj : j < k
    · rw [if_pos (by omega), hc i j x hi hj]; simp
    · rw [if_neg (by omega)]
      simp; omega
  rw [he]
theorem Seg.part {h : Hp} {k b off o n : Nat} {xs : List (List Value)} (s : Seg h k b off xs) {i : Nat} {x : List Value} (hi : xs[i]? = some x) (ho : o + n ≤ k) :
    ldA n h (.pointer (some ⟨b, off + i * k + o, none⟩)) = some (.agg ((x.drop o).take n).toArray) := by
  obtain ⟨c, E, f, hb, hs, hk, hc⟩ := s
  have hlt : i < xs.length := (List.getElem?_eq_some_iff.1 hi).1
  have hle : off + i * k + k ≤ c.size := Nat.le_trans (by rw [Nat.add_assoc]; exact Nat.add_le_add_left (by rw [← Nat.succ_mul]; exact Nat.mul_le_mul_right k hlt) _) hs
  rw [ldA_at hb, if_pos (by omega)]
  have hx := hk x (List.mem_of_getElem? hi)
  have he : c.extract (off + i * k + o) (off + i * k + o + n) = ((x.drop o).take n).toArray := by
    apply Array.ext_getElem?
    intro j
    rw [Array.getElem?_extract]
    simp only [List.getElem?_toArray, List.getElem?_take, List.getElem?_drop]
    by_cases hj : j < n
    · rw [if_pos (by omega), if_pos hj, ← hc i (o + j) x hi (by omega)]; congr 1; omega
    · rw [if_neg (by omega), if_neg hj]
  rw [he]

/-! the forms that the reckoning leaves, at off = 0 -/
theorem RowAt.one {h : Hp} {E k b cap : Nat} {xs : List (List Value)} (r : RowAt h E k b cap xs) {i j : Nat} {x : List Value} (hi : xs[i]? = some x) (hj : j < k) : ldS h (.pointer (some ⟨b, i * k + j, none⟩)) = x[j]? := by
  have := r.seg.one hi hj; simpa using this
theorem RowAt.one0 {h : Hp} {E k b cap : Nat} {xs : List (List Value)} (r : RowAt h E k b cap xs) {i : Nat} {x : List Value} (hi : xs[i]? = some x) (hk : 0 < k) : ldS h (.pointer (some ⟨b, i * k, none⟩)) = x[0]? := r.one hi (j := 0) hk
theorem RowAt.all {h : Hp} {E k b cap : Nat} {xs : List (List Value)} (r : RowAt h E k b cap xs) {i : Nat} {x : List Value} (hi : xs[i]? = some x) : ldA k h (.pointer (some ⟨b, i * k, none⟩)) = some (.agg x.toArray) := by
  have := r.seg.all hi; simpa using this
theorem RowAt.part {h : Hp} {E k b cap o n : Nat} {xs : List (List Value)} (r : RowAt h E k b cap xs) {i : Nat} {x : List Value} (hi : xs[i]? = some x) (ho : o + n ≤ k) : ldA n h (.pointer (some ⟨b, i * k + o, none⟩)) = some (.agg ((x.drop o).take n).toArray) := by
  have := r.seg.part hi ho; simpa using this

theorem RowAt.lt {h : Hp} {E k b cap : Nat} {xs : List (List Value)} (r : RowAt h E k b cap xs) : b < h.size := let ⟨_, hb, _⟩ := r; lt_of_get hb
theorem RowAt.len {h : Hp} {E k b cap : Nat} {xs : List (List Value)} (r : RowAt h E k b cap xs) : xs.length ≤ cap := let ⟨_, _, _, hl, _⟩ := r; hl
theorem RowAt.fr {h h' : Hp} {E k b cap : Nat} {xs : List (List Value)} {S : List Nat} (r : RowAt h E k b cap xs) (f : Fr h h' S) (hS : b ∉ S) : RowAt h' E k b cap xs :=
  let ⟨c, hb, rest⟩ := r; ⟨c, f.get hb hS, rest⟩
theorem RowAt.eq {h h' : Hp} {E k b cap : Nat} {xs : List (List Value)} (r : RowAt h E k b cap xs) (f : h'[b]? = h[b]?) : RowAt h' E k b cap xs :=
  let ⟨c, hb, rest⟩ := r; ⟨c, f.trans hb, rest⟩
theorem Seg.fr {h h' : Hp} {k b off : Nat} {xs : List (List Value)} {S : List Nat} (r : Seg h k b off xs) (f : Fr h h' S) (hS : b ∉ S) : Seg h' k b off xs :=
  let ⟨c, E, g, hb, rest⟩ := r; ⟨c, E, g, f.get hb hS, rest⟩

theorem splice_len {c : Array Value} {o : Nat} {vs : List Value} (h : o + vs.length ≤ c.size) : (splice c o vs).size = c.size := by simp [splice]; omega
theorem splice_get {c : Array Value} {o : Nat} {vs : List Value} (h : o + vs.length ≤ c.size) (j : Nat) : (splice c o vs)[j]? = if o ≤ j ∧ j < o + vs.length then vs[j - o]? else c[j]? := by
  simp only [splice, List.getElem?_toArray, List.getElem?_append, List.length_append, List.length_take, Array.length_toList, List.getElem?_take, List.getElem?_drop]
  by_cases h1 : j < o
  · rw [if_pos (by omega), if_pos (by omega), if_pos (by omega), if_neg (by omega)]; simp
  · by_cases h2 : j < o + vs.length
    · rw [if_pos (by omega), if_neg (by omega), if_pos (by omega)]
      congr 1; omega
    · rw [if_neg (by omega), if_neg (by omega)]
      rw [show o + vs.length + (j - (min o c.size + vs.length)) = j by omega]
      simp

/-- The cells of a row, by their places. -/
theorem row_iff {k : Nat} {xs : List (List Value)} {c : Array Value} (hk : ∀ x ∈ xs, x.length = k) :
    c.toList.take (xs.length * k) = xs.flatten ↔ ∀ i j x, xs[i]? = some x → j < k → c[i * k + j]? = x[j]? := by
  constructor
  · intro ht i j x hi hj
    have hf := flat_get hk hi hj
    have hlt : i < xs.length := (List.getElem?_eq_some_iff.1 hi).1
    have hlt2 : i * k + j < xs.length * k := Nat.lt_of_lt_of_le (by rw [Nat.add_mul]; omega : i * k + j < (i + 1) * k) (Nat.mul_le_mul_right k hlt)
    rw [← hf, ← ht, List.getElem?_take, if_pos hlt2]
    simp
  · intro hc
    apply List.ext_getElem?
    intro n
    rw [List.getElem?_take]
    by_cases hn : n < xs.length * k
    · rw [if_pos hn]
      have hkp : 0 < k := by
        rcases Nat.eq_zero_or_pos k with rfl | h
        · simp at hn
        · exact h
      have hd : n / k < xs.length := Nat.div_lt_of_lt_mul (by rw [Nat.mul_comm]; exact hn)
      have hm := Nat.mod_lt n hkp
      have hnm : n / k * k + n % k = n := by rw [Nat.mul_comm]; exact Nat.div_add_mod n k
      have h1 := hc (n / k) (n % k) xs[n / k] (by simp) hm
      have h2 := flat_get hk (i := n / k) (j := n % k) (x := xs[n / k]) (by simp) hm
      rw [hnm] at h1 h2
      rw [h2, ← h1]; simp
    · rw [if_neg hn, List.getElem?_eq_none (by rw [flat_len hk]; omega)]

theorem mul_lt {i n k j : Nat} (hi : i < n) (hj : j < k) : i * k + j < n * k := Nat.lt_of_lt_of_le (by rw [Nat.add_mul]; omega : i * k + j < (i + 1) * k) (Nat.mul_le_mul_right k hi)
theorem div_of {i k j n o m : Nat} (_ho : o + m ≤ k) (hj : j < k) (h1 : n * k + o ≤ i * k + j) (h2 : i * k + j < n * k + o + m) : i = n := by
  have h3 : i * k + j < (n + 1) * k := by rw [Nat.add_mul]; omega
  have h4 : i < n + 1 := by
    rcases Nat.lt_or_ge i (n + 1) with h | h
    · exact h
    · have := Nat.mul_le_mul_right k h; omega
  have h5 : n < i + 1 := by
    rcases Nat.lt_or_ge n (i + 1) with h | h
    · exact h
    · have := Nat.mul_le_mul_right k h; rw [Nat.add_mul] at this; omega
  omega

/-- Some cells of one record are written. -/
theorem RowAt.put {h : Hp} {E k b cap : Nat} {xs : List (List Value)} (r : RowAt h E k b cap xs) {i o : Nat} {x vs : List Value} (hi : xs[i]? = some x) (ho : o + vs.length ≤ k) (h1 : ∀ v ∈ vs, v.oneCell' = true)
    {v : Value} (hv : v.cells.toList = vs) :
    ∃ h', stE vs.length h (.pointer (some ⟨b, i * k + o, none⟩)) v = some h' ∧ RowAt h' E k b cap (xs.set i (x.take o ++ vs ++ x.drop (o + vs.length))) ∧ Fr h h' [b] ∧ h'.size = h.size := by
  obtain ⟨c, hb, hs, hl, hk, hone, ht⟩ := r
  have hlt : i < xs.length := (List.getElem?_eq_some_iff.1 hi).1
  have hxk := hk x (List.mem_of_getElem? hi)
  have hle : i * k + o + vs.length ≤ c.size := by
    rw [hs]
    have := Nat.mul_le_mul_right k (Nat.le_trans hlt hl)
    rw [Nat.succ_mul] at this
    omega
  have hvsz : v.cells.size = vs.length := by rw [← hv]; simp
  refine ⟨_, ?_, ⟨splice c (i * k + o) vs, get_set hb, by rw [splice_len hle, hs], by simpa using hl, ?_, ?_, ?_⟩, Fr.set h b _ (fun _ => by simp) (by rw [hb]; rfl), by simp⟩
  · rw [stE_at _ hb, hv, if_pos ⟨hvsz, hle, List.all_eq_true.2 h1⟩]
  · intro y hy
    rcases List.mem_or_eq_of_mem_set hy with hy | rfl
    · exact hk y hy
    · simp; omega
  · intro y hy
    rcases List.mem_or_eq_of_mem_set hy with hy | rfl
    · exact hone y hy
    · intro u hu
      simp only [List.mem_append] at hu
      rcases hu with (hu | hu) | hu
      · exact hone x (List.mem_of_getElem? hi) u (List.mem_of_mem_take hu)
      · exact h1 u hu
      · exact hone x (List.mem_of_getElem? hi) u (List.mem_of_mem_drop hu)
  · refine (row_iff ?_).2 ?_
    · intro y hy
      rcases List.mem_or_eq_of_mem_set hy with hy | rfl
      · exact hk y hy
      · simp; omega
    · intro i' j y hy hj
      have hc := (row_iff hk).1 ht
      rw [splice_get hle]
      by_cases hii : i' = i
      · subst hii
        rw [List.getElem?_set_self hlt] at hy
        obtain rfl := Option.some.inj hy
        simp only [List.getElem?_append, List.length_append, List.length_take, List.getElem?_take, List.getElem?_drop]
        by_cases hj1 : j < o
        · rw [if_neg (by omega), if_pos (by omega), if_pos (by omega), if_pos hj1]
          exact hc i' j x hi hj
        · by_cases hj2 : j < o + vs.length
          · rw [if_pos (by omega), if_pos (by omega), if_neg (by omega)]
            congr 1; omega
          · rw [if_neg (by omega), if_neg (by omega), hc i' j x hi hj]
            congr 1; omega
      · rw [List.getElem?_set_ne (fun e => hii e.symm)] at hy
        rw [if_neg]
        · exact hc i' j y hy hj
        · intro hcon
          exact hii (div_of ho hj hcon.1 hcon.2)

/-- A whole record is written. -/
theorem RowAt.set {h : Hp} {E k b cap : Nat} {xs : List (List Value)} (r : RowAt h E k b cap xs) {i : Nat} {vs : List Value} (hi : i < xs.length) (ho : vs.length = k) (h1 : ∀ v ∈ vs, v.oneCell' = true) :
    ∃ h', stE k h (.pointer (some ⟨b, i * k, none⟩)) (.agg vs.toArray) = some h' ∧ RowAt h' E k b cap (xs.set i vs) ∧ Fr h h' [b] ∧ h'.size = h.size := by
  have hx : xs[i]? = some xs[i] := by simp [hi]
  have hk : xs[i].length = k := by obtain ⟨_, _, _, _, hk, _⟩ := r; exact hk _ (by simp)
  obtain ⟨h', s, r', f, z⟩ := r.put (i := i) (o := 0) (vs := vs) (v := .agg vs.toArray) hx (by omega) h1 (by simp)
  refine ⟨h', by rw [ho] at s; exact s, ?_, f, z⟩
  rw [show xs[i].take 0 ++ vs ++ xs[i].drop (0 + vs.length) = vs by rw [List.drop_eq_nil_of_le (by omega)]; simp] at r'
  exact r'

theorem Seg.cells {h : Hp} {k b off : Nat} {xs : List (List Value)} (s : Seg h k b off xs) (w : World) (hw : w.heap = h) : ∀ j u, xs.flatten[j]? = some u → w.cell? ((⟨b, off, none⟩ : Addr).add j) = some u := by
  intro n u hu
  obtain ⟨c, E, f, hb, hs, hk, hc⟩ := s
  rw [add_none]
  have hn : n < xs.length * k := by rw [← flat_len hk]; exact (List.getElem?_eq_some_iff.1 hu).1
  have hkp : 0 < k := by
    rcases Nat.eq_zero_or_pos k with rfl | h
    · simp at hn
    · exact h
  have hd : n / k < xs.length := Nat.div_lt_of_lt_mul (by rw [Nat.mul_comm]; exact hn)
  have hm := Nat.mod_lt n hkp
  have hnm : n / k * k + n % k = n := by rw [Nat.mul_comm]; exact Nat.div_add_mod n k
  have h1 := hc (n / k) (n % k) xs[n / k] (by simp) hm
  have h2 := flat_get hk (i := n / k) (j := n % k) (x := xs[n / k]) (by simp) hm
  rw [Nat.add_assoc, hnm] at h1
  rw [hnm] at h2
  subst hw
  simp only [World.cell?, hb, Option.isSome_none, Bool.false_eq_true, if_false]
  rw [h1, ← h2, hu]

theorem row_new {h : Hp} {E k cap : Nat} {xs : List (List Value)} {rest : List Value} (hk : ∀ x ∈ xs, x.length = k) (h1 : ∀ x ∈ xs, ∀ v ∈ x, v.oneCell' = true) (hr : rest.length = (cap - xs.length) * k) (hc : xs.length ≤ cap) :
    RowAt (h.push (.cells (xs.flatten ++ rest).toArray E (0, 0))) E k h.size cap xs := by
  refine ⟨_, get_new h _, ?_, hc, hk, h1, ?_⟩
  · simp only [List.size_toArray, List.length_append, flat_len hk, hr, ← Nat.add_mul]
    congr 1; omega
  · rw [List.take_left' (flat_len hk)]

/-- What append gives: the row grown, in its own block or in a new one. -/
def Grown (h : Hp) (E k : Nat) (old : Option Nat) (xs : List (List Value)) (K : Value → Hp → Prop) : Prop :=
  ∀ h' b cap, RowAt h' E k b cap xs → Fr h h' old.toList → (old = some b ∨ h.size ≤ b) → K (.slice (some ⟨b, 0, none⟩) xs.length cap) h'

/-- What is known of an element's type. -/
structure ElemOk (P : Program) (t E k bytes : Nat) : Prop where
  slice : P.underlying t = some (.slice E)
  info : ∃ i z, P.info? E = some i ∧ i.zero = some z ∧ i.size = k ∧ i.bytes = bytes ∧ z.cells.size = k

theorem ElemOk.of {P : Program} {t E k bytes : Nat} {z : Value} (hs : P.underlying t = some (.slice E)) (hi : (P.info? E).map (fun i => (i.zero, i.size, i.bytes)) = some (some z, k, bytes)) (hz : z.cells.size = k) : ElemOk P t E k bytes := by
  refine ⟨hs, ?_⟩
  cases h : P.info? E with
  | none => simp [h] at hi
  | some i =>
    simp [h] at hi
    exact ⟨i, z, rfl, hi.1, hi.2.1, hi.2.2, hz⟩

theorem drew_same (w : World) (o : Obj) : same w (w.drew.alloc o) := ⟨rfl, rfl, rfl⟩
theorem zc_len (z : Array Value) (n : Nat) : (Builtin.zeroCells z n).toList.length = n * z.size := by rw [Array.length_toList, size_zeroCells]

theorem append_row {P : Program} {t ty E k bytes : Nat} (eo : ElemOk P t E k bytes) {h : Hp} {b cap bs os cs : Nat} {xs ys : List (List Value)} (r : RowAt h E k b cap xs) (s : Seg h k bs os ys)
    (y1 : ∀ x ∈ ys, ∀ v ∈ x, v.oneCell' = true) (hB : (xs.length + ys.length) * bytes ≤ 140737488355328) (hM : xs.length + ys.length ≤ 4611686018427387904) {K : Value → Hp → Prop} (k' : Grown h E k (some b) (xs ++ ys) K) :
    efS P (Builtin.append_ #[t, t] ty #[.slice (some ⟨b, 0, none⟩) xs.length cap, .slice (some ⟨bs, os, none⟩) ys.length cs]) h K := by
  intro w hw
  obtain ⟨i, z, hi, hz, hik, hib, hzs⟩ := eo.info
  obtain ⟨c, hb, hs, hl, hk, h1, ht⟩ := id r
  have yk : ∀ x ∈ ys, x.length = k := by obtain ⟨_, _, _, _, _, hk, _⟩ := s; exact hk
  have hyl : ys.flatten.length = ys.length * i.size := by rw [flat_len yk, hik]
  have hxl : xs.flatten.length = xs.length * i.size := by rw [flat_len hk, hik]
  have hnews := s.cells w hw
  have hall : ∀ u ∈ ys.flatten, u.oneCell' = true := fun u hu => by obtain ⟨x, hx, hu⟩ := List.mem_flatten.1 hu; exact y1 x hx u hu
  have hk2 : ∀ x ∈ xs ++ ys, x.length = k := fun x hx => by rcases List.mem_append.1 hx with h | h; exact hk x h; exact yk x h
  have h12 : ∀ x ∈ xs ++ ys, ∀ v ∈ x, v.oneCell' = true := fun x hx => by rcases List.mem_append.1 hx with h | h; exact h1 x h; exact y1 x h
  by_cases hroom : xs.length + ys.length ≤ cap
  · have hfit : xs.length * i.size + ys.flatten.length ≤ c.size := by rw [hyl, ← Nat.add_mul, hs, hik]; exact Nat.mul_le_mul_right _ hroom
    have hr := run_append_room (P := P) w t ty E i eo.slice hi b xs.length cap c (by rw [hw]; exact hb) ⟨bs, os, none⟩ ys.length cs ys.flatten hyl hnews hall hroom hfit
    refine ⟨_, _, hr, ⟨rfl, rfl, rfl⟩, ?_⟩
    have hset := setRow_heap_eq (w := w) (cs := (c.toList.take (xs.length * i.size) ++ ys.flatten ++ c.toList.drop (xs.length * i.size + ys.flatten.length)).toArray) (by rw [hw]; exact hb)
    rw [hset, hw]
    have := k' (h.setIfInBounds b (.cells (c.toList.take (xs.length * i.size) ++ ys.flatten ++ c.toList.drop (xs.length * i.size + ys.flatten.length)).toArray E (0, 0))) b cap
      ⟨_, get_set hb, ?_, by simpa using hroom, hk2, h12, ?_⟩ (Fr.set h b _ (fun _ => by simp) (by rw [hb]; rfl)) (.inl rfl)
    · simpa using this
    · simp only [List.size_toArray, List.length_append, List.length_take, List.length_drop, Array.length_toList]
      rw [hik] at hfit ⊢
      rw [← hs]; omega
    · rw [hik, ht, List.flatten_append, List.length_append, Nat.add_mul, List.take_left']
      simp [flat_len hk, flat_len yk]
  · have hcells := r.seg.cells w hw
    have hr := run_append_grow (P := P) w t ty E i z eo.slice hi hz ⟨b, 0, none⟩ xs.length cap xs.flatten hxl hcells ⟨bs, os, none⟩ ys.length cs ys.flatten hyl hnews (by omega) (by omega) (growslice_fits (by omega) (by rw [hib]; exact hB))
    refine ⟨_, _, hr, drew_same w _, ?_⟩
    have hge := grownCap_ge w (xs.length + ys.length) cap E
    have hrow := row_new (h := h) (E := E) (k := k) (cap := grownCap w (xs.length + ys.length) cap E) (xs := xs ++ ys) (rest := (Builtin.zeroCells z.cells (grownCap w (xs.length + ys.length) cap E - (xs.length + ys.length))).toList) hk2 h12
      (by rw [zc_len, hzs]; simp) (by simpa using hge)
    have := k' _ h.size (grownCap w (xs.length + ys.length) cap E) hrow (Fr.push h _ _) (.inr (Nat.le_refl _))
    have e1 : (w.drew.alloc (.cells (xs.flatten.toArray ++ ys.flatten.toArray ++ Builtin.zeroCells z.cells (grownCap w (xs.length + ys.length) cap E - (xs.length + ys.length))) E)).heap =
        h.push (.cells ((xs ++ ys).flatten ++ (Builtin.zeroCells z.cells (grownCap w (xs.length + ys.length) cap E - (xs.length + ys.length))).toList).toArray E (0, 0)) := by
      show w.heap.push _ = _
      rw [hw]; congr 2; simp
    rw [e1, hw]
    simpa using this

theorem append_nil {P : Program} {t ty E k bytes : Nat} (eo : ElemOk P t E k bytes) {h : Hp} {bs os cs : Nat} {ys : List (List Value)} (s : Seg h k bs os ys)
    (y1 : ∀ x ∈ ys, ∀ v ∈ x, v.oneCell' = true) (h0 : ys ≠ []) (hB : ys.length * bytes ≤ 140737488355328) (hM : ys.length ≤ 4611686018427387904) {K : Value → Hp → Prop} (k' : Grown h E k none ys K) :
    efS P (Builtin.append_ #[t, t] ty #[.slice none 0 0, .slice (some ⟨bs, os, none⟩) ys.length cs]) h K := by
  intro w hw
  obtain ⟨i, z, hi, hz, hik, hib, hzs⟩ := eo.info
  have yk : ∀ x ∈ ys, x.length = k := by obtain ⟨_, _, _, _, _, hk, _⟩ := s; exact hk
  have hyl : ys.flatten.length = ys.length * i.size := by rw [flat_len yk, hik]
  have hnews := s.cells w hw
  have hpos : 0 < ys.length := List.length_pos_iff.2 h0
  have hr := run_append_nil (P := P) w t ty E i z eo.slice hi hz ⟨bs, os, none⟩ ys.length cs ys.flatten hyl hnews hpos (by omega) (by rw [hib]; omega)
  refine ⟨_, _, hr, drew_same w _, ?_⟩
  have hge := grownCap_ge w ys.length 0 E
  have hrow := row_new (h := h) (E := E) (k := k) (cap := grownCap w ys.length 0 E) (xs := ys) (rest := (Builtin.zeroCells z.cells (grownCap w ys.length 0 E - ys.length)).toList) yk y1
    (by rw [zc_len, hzs]) hge
  have := k' _ h.size (grownCap w ys.length 0 E) hrow (Fr.push h _ _) (.inr (Nat.le_refl _))
  have e1 : (w.drew.alloc (.cells (ys.flatten.toArray ++ Builtin.zeroCells z.cells (grownCap w ys.length 0 E - ys.length)) E)).heap =
      h.push (.cells (ys.flatten ++ (Builtin.zeroCells z.cells (grownCap w ys.length 0 E - ys.length)).toList).toArray E (0, 0)) := by
    show w.heap.push _ = _
    rw [hw]; congr 2; simp
  rw [e1, hw]
  exact this

/-- Nothing is appended to nothing. -/
theorem append_none {P : Program} {t ty E k bytes : Nat} (eo : ElemOk P t E k bytes) {h : Hp} {a : Option Addr} {cs : Nat} {K : Value → Hp → Prop} (ha : ∀ x, a = some x → x.spot = none) (k' : K (.slice none 0 0) h) :
    efS P (Builtin.append_ #[t, t] ty #[.slice none 0 0, .slice a 0 cs]) h K := by
  intro w hw
  obtain ⟨i, z, hi, hz, hik, hib, hzs⟩ := eo.info
  refine ⟨.slice none 0 0, w, ?_, .refl w, hw ▸ k'⟩
  cases a <;> simp [Builtin.append_, run_underlying eo.slice, sizeOf, typeInfo, hi, Builtin.lenOf, Builtin.firstCells, loadCells, loadCellsFrom]

end Go.Fw
