/- The framework, part 20: append, told with what stays: the old slice reads as it did. No condition. -/
import Derived.Test.YtkiakofohkecaaaDoorFw19
namespace Go.Fw
open Go

theorem append_row2 {P : Program} {t ty E k bytes : Nat} (eo : ElemOk P t E k bytes) {h : Hp} {b cap bs os cs : Nat} {xs ys : List (List Value)} (r : RowAt h E k b cap xs) (s : Seg h k bs os ys)
    (y1 : ∀ x ∈ ys, ∀ v ∈ x, v.oneCell' = true) (hB : (xs.length + ys.length) * bytes ≤ 140737488355328) (hM : xs.length + ys.length ≤ 4611686018427387904) {K : Value → Hp → Prop}
    (k' : ∀ h' b' cap', RowAt h' E k b' cap' (xs ++ ys) → Fr h h' [b] → (b' = b ∧ cap' = cap ∨ h.size ≤ b' ∧ Fr h h' []) → K (.slice (some ⟨b', 0, none⟩) (xs ++ ys).length cap') h') :
    efS P (Builtin.append_ #[t, t] ty #[.slice (some ⟨b, 0, none⟩) xs.length cap, .slice (some ⟨bs, os, none⟩) ys.length cs]) h K := by
  intro w hw
  obtain ⟨i, z, hi, hz, hik, hib, hzs⟩ := eo.info
  obtain ⟨c, hb, hs, hl, hk, h1, ht⟩ := id r
  have yk : ∀ x ∈ ys, x.length = k := by obtain ⟨_, _, _, _, _, hk, _⟩ := s; exact hk
  have hyl : ys.flatten.length = ys.length * i.size := by rw [flat_len yk, hik]
  have hxl : xs.flatten.length = xs.length * i.size := by rw [flat_len hk, hik]
  have hnews := s.cells w hw
  have hall : ∀ u ∈ ys.flatten, u.oneCell' = true := fun u hu => by obtain ⟨x, hx, hu⟩ := List.mem_flatten.1 hu; exact y1 x hx u hu
  have hk2 : ∀ x ∈ xs ++ ys, x.length = k := fun x hx => by rcases List.mem_append.1 hx with h | h; exact hk x h; exact yk x h
  have h12 : ∀ x ∈ xs ++ ys, ∀ v ∈ x, v.oneCell' = true := fun x hx => by rcases List.mem_append.1 hx with h | h; exact h1 x h; exact y1 x h
  by_cases hroom : xs.length + ys.length ≤ cap
  · have hfit : xs.length * i.size + ys.flatten.length ≤ c.size := by rw [hyl, ← Nat.add_mul, hs, hik]; exact Nat.mul_le_mul_right _ hroom
    have hr := run_append_room (P := P) w t ty E i eo.slice hi b xs.length cap c (by rw [hw]; exact hb) ⟨bs, os, none⟩ ys.length cs ys.flatten hyl hnews hall hroom hfit
    refine ⟨_, _, hr, ⟨rfl, rfl, rfl⟩, ?_⟩
    have hset := setRow_heap_eq (w := w) (cs := (c.toList.take (xs.length * i.size) ++ ys.flatten ++ c.toList.drop (xs.length * i.size + ys.flatten.length)).toArray) (by rw [hw]; exact hb)
    rw [hset, hw]
    have := k' (h.setIfInBounds b (.cells (c.toList.take (xs.length * i.size) ++ ys.flatten ++ c.toList.drop (xs.length * i.size + ys.flatten.length)).toArray E (0, 0))) b cap
      ⟨_, get_set hb, ?_, by simpa using hroom, hk2, h12, ?_⟩ (Fr.set h b _ (fun _ => by simp) (by rw [hb]; rfl)) (.inl ⟨rfl, rfl⟩)
    · simpa using this
    · simp only [List.size_toArray, List.length_append, List.length_take, List.length_drop, Array.length_toList]
      rw [hik] at hfit ⊢
      rw [← hs]; omega
    · rw [hik, ht, List.flatten_append, List.length_append, Nat.add_mul, List.take_left']
      simp [flat_len hk, flat_len yk]
  · have hcells := r.seg.cells w hw
    have hr := run_append_grow (P := P) w t ty E i z eo.slice hi hz ⟨b, 0, none⟩ xs.length cap xs.flatten hxl hcells ⟨bs, os, none⟩ ys.length cs ys.flatten hyl hnews (by omega) (by omega) (growslice_fits (by omega) (by rw [hib]; exact hB))
    refine ⟨_, _, hr, drew_same w _, ?_⟩
    have hge := grownCap_ge w (xs.length + ys.length) cap E
    have hrow := row_new (h := h) (E := E) (k := k) (cap := grownCap w (xs.length + ys.length) cap E) (xs := xs ++ ys) (rest := (Builtin.zeroCells z.cells (grownCap w (xs.length + ys.length) cap E - (xs.length + ys.length))).toList) hk2 h12
      (by rw [zc_len, hzs]; simp) (by simpa using hge)
    have := k' _ h.size (grownCap w (xs.length + ys.length) cap E) hrow (Fr.push h _ _) (.inr ⟨Nat.le_refl _, Fr.push h _ _⟩)
    have e1 : (w.drew.alloc (.cells (xs.flatten.toArray ++ ys.flatten.toArray ++ Builtin.zeroCells z.cells (grownCap w (xs.length + ys.length) cap E - (xs.length + ys.length))) E)).heap =
        h.push (.cells ((xs ++ ys).flatten ++ (Builtin.zeroCells z.cells (grownCap w (xs.length + ys.length) cap E - (xs.length + ys.length))).toList).toArray E (0, 0)) := by
      show w.heap.push _ = _
      rw [hw]; congr 2; simp
    rw [e1, hw]
    simpa using this

/-- The old slice, and what was appended to it: they share their block, or they do not. -/
theorem own_app2 {P : Program} {t ty E k bytes : Nat} (eo : ElemOk P t E k bytes) {h : Hp} {v : Value} {bs os cs : Nat} {xs ys : List (List Value)} {bl : List Nat} (o : OwnS h E k v xs bl) (s : Seg h k bs os ys) (y1 : ∀ x ∈ ys, ∀ u ∈ x, u.oneCell' = true) (y0 : ys ≠ [])
    (hB : (xs.length + ys.length) * bytes ≤ 140737488355328) (hM : xs.length + ys.length ≤ 1099511627776) {K : Value → Hp → Prop}
    (k' : ∀ h' b cap, RowAt h' E k b cap (xs ++ ys) → Fr h h' bl → (bl = [b] ∧ (∃ n, v = .slice (some ⟨b, 0, none⟩) n cap) ∨ h.size ≤ b ∧ Fr h h' []) → K (.slice (some ⟨b, 0, none⟩) (xs ++ ys).length cap) h') :
    efS P (Builtin.append_ #[t, t] ty #[v, .slice (some ⟨bs, os, none⟩) ys.length cs]) h K := by
  rcases o with ⟨rfl, rfl, rfl⟩ | ⟨b, cap, rfl, r, rfl⟩
  · refine append_nil eo s y1 y0 (by simpa using hB) (by simp at hM; omega) fun h' b cap r f hb => ?_
    exact k' h' b cap (by simpa using r) f (.inr ⟨hb.resolve_left (by simp), f⟩)
  · refine append_row2 eo r s y1 hB (by omega) fun h' b' cap' r' f hb => k' h' b' cap' r' f ?_
    rcases hb with ⟨rfl, rfl⟩ | hb
    · exact .inl ⟨rfl, _, rfl⟩
    · exact .inr hb
end Go.Fw
