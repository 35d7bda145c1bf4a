/- The plain law of the heap: what is moved up or down is the same things, in the heap's order. No program is in sight. No condition but those each theorem states. -/
import Derived.Test.YtkiakofohkecaaaDoorE6
namespace Go.Proofs.YtkiakofohkecaaaDoor
open Go Go.Fw

instance : Inhabited Item := ⟨⟨0, 0, 0⟩⟩
def nth (l : List Item) (k : Nat) : Item := l.getD k default
theorem nth_get {l : List Item} {k : Nat} (h : k < l.length) : nth l k = l[k] := by simp [nth, h]
theorem aheadL_nth {lt : Item → Item → Bool} {l : List Item} {i j : Nat} (hi : i < l.length) (hj : j < l.length) : aheadL lt l i j = aheadB lt (nth l i) (nth l j) := by simp [aheadL, nth, hi, hj]
theorem nth_swp {l : List Item} {i j : Nat} (hi : i < l.length) (hj : j < l.length) (k : Nat) : nth (swp l i j) k = if k = j then nth l i else if k = i then nth l j else nth l k := by
  have e : swp l i j = (l.set i l[j]).set j l[i] := by simp [swp, hi, hj]
  rw [e]
  simp only [nth, List.getD_eq_getElem?_getD, List.getElem?_set, List.length_set]
  by_cases h1 : k = j
  · subst h1; simp [hj, hi]
  · by_cases h2 : k = i
    · subst h2; simp [h1, Ne.symm h1, hi, hj]
    · simp [h1, h2, Ne.symm h1, Ne.symm h2]

theorem swp_perm {l : List Item} {i j : Nat} (hi : i < l.length) (hj : j < l.length) : (swp l i j).Perm l := by
  have e : swp l i j = (l.set i l[j]).set j l[i] := by simp [swp, hi, hj]
  rw [e]
  exact List.set_set_perm hi hj

theorem siftUp_perm (lt : Item → Item → Bool) : ∀ (i : Nat) (l : List Item), i < l.length → (siftUp lt l i).Perm l := by
  intro i
  induction i using Nat.strongRecOn with
  | _ i ih =>
    intro l hi
    rw [siftUp]
    split
    · rename_i h
      exact (ih _ (by omega) _ (by rw [swp_len]; omega)).trans (swp_perm hi (by omega))
    · exact .refl _
theorem siftDown_perm (lt : Item → Item → Bool) (l : List Item) (i : Nat) : (siftDown lt l i).Perm l := by
  induction l, i using siftDown.induct lt with
  | case1 l i h => rw [siftDown, dif_pos h]
  | case2 l i h ih =>
    rw [siftDown, dif_neg h]
    have := (pick_or lt l i).resolve_left h
    exact ih.trans (swp_perm (by omega) this.2)
theorem siftUp_len (lt : Item → Item → Bool) {l : List Item} {i : Nat} (h : i < l.length) : (siftUp lt l i).length = l.length := (siftUp_perm lt i l h).length_eq

theorem push_perm (lt : Item → Item → Bool) (l : List Item) (x : Item) : (siftUp lt (l ++ [x]) l.length).Perm (x :: l) :=
  (siftUp_perm lt _ _ (by simp)).trans (List.perm_append_singleton x l)

theorem swp_last {l : List Item} (h : 0 < l.length) : (swp l 0 (l.length - 1)).take (l.length - 1) ++ [nth l 0] = swp l 0 (l.length - 1) := by
  have hl : (swp l 0 (l.length - 1)).length = l.length := swp_len _ _ _
  have h2 := nth_swp (l := l) (i := 0) (j := l.length - 1) h (by omega) (l.length - 1)
  rw [if_pos rfl, nth_get (by omega)] at h2
  rw [← h2]
  have := List.take_concat_get (l := swp l 0 (l.length - 1)) (i := l.length - 1) (by omega)
  rw [List.concat_eq_append] at this
  rw [this, List.take_of_length_le (by omega)]

theorem pop_perm (lt : Item → Item → Bool) (x : Item) (rest : List Item) : (x :: popped lt (x :: rest)).Perm (x :: rest) := by
  have h := swp_last (l := x :: rest) (by simp)
  have hx : nth (x :: rest) 0 = x := by simp [nth]
  rw [hx] at h
  have h1 : (popped lt (x :: rest)).Perm ((swp (x :: rest) 0 ((x :: rest).length - 1)).take ((x :: rest).length - 1)) := siftDown_perm _ _ _
  refine (h1.cons x).trans ((List.perm_append_singleton x _).symm.trans ?_)
  rw [h]
  exact swp_perm (by simp) (by simp)

/-- Ahead is an order in which any two things can be set. -/
structure Ord (A : Item → Item → Bool) : Prop where
  trans : ∀ a b c, A b a = false → A c b = false → A c a = false
  asym : ∀ a b, A a b = true → A b a = false
theorem Ord.irr {A : Item → Item → Bool} (o : Ord A) (a : Item) : A a a = false := by
  cases h : A a a
  · rfl
  · rw [o.asym a a h] at h; cases h

def HeapOk (A : Item → Item → Bool) (l : List Item) : Prop := ∀ j, 0 < j → j < l.length → A (nth l j) (nth l ((j - 1) / 2)) = false

theorem root_first {A : Item → Item → Bool} (o : Ord A) {l : List Item} (h : HeapOk A l) : ∀ j, j < l.length → A (nth l j) (nth l 0) = false := by
  intro j
  induction j using Nat.strongRecOn with
  | _ j ih =>
    intro hj
    by_cases h0 : j = 0
    · subst h0; exact o.irr _
    · exact o.trans _ _ _ (ih ((j - 1) / 2) (by omega) (by omega)) (h j (by omega) hj)

theorem siftUp_ok {lt : Item → Item → Bool} (o : Ord (aheadB lt)) : ∀ (i : Nat) (l : List Item), i < l.length → (∀ j, 0 < j → j < l.length → j ≠ i → aheadB lt (nth l j) (nth l ((j - 1) / 2)) = false) →
    (∀ j, 0 < j → j < l.length → (j - 1) / 2 = i → 0 < i → aheadB lt (nth l j) (nth l ((i - 1) / 2)) = false) → HeapOk (aheadB lt) (siftUp lt l i) := by
  intro i
  induction i using Nat.strongRecOn with
  | _ i ih =>
    intro l hi h1 h2
    rw [siftUp]
    split
    · rename_i h
      have hp : (i - 1) / 2 < l.length := by omega
      have ha := h.2
      rw [aheadL_nth hi hp] at ha
      have hs : ∀ k, nth (swp l i ((i - 1) / 2)) k = if k = (i - 1) / 2 then nth l i else if k = i then nth l ((i - 1) / 2) else nth l k := nth_swp hi hp
      refine ih _ (by omega) _ (by rw [swp_len]; exact hp) (fun j j0 jl jn => ?_) (fun j j0 jl je p0 => ?_)
      · rw [swp_len] at jl
        rw [hs j, hs ((j - 1) / 2), if_neg jn]
        by_cases e1 : j = i
        · subst e1
          rw [if_pos rfl, if_pos rfl]
          exact o.asym _ _ ha
        · rw [if_neg e1]
          by_cases e2 : (j - 1) / 2 = (i - 1) / 2
          · rw [if_pos e2]
            have := h1 j j0 jl e1
            rw [e2] at this
            exact o.trans _ _ _ (o.asym _ _ ha) this
          · rw [if_neg e2]
            by_cases e3 : (j - 1) / 2 = i
            · rw [if_pos e3]
              exact h2 j j0 jl e3 h.1
            · rw [if_neg e3]
              exact h1 j j0 jl e1
      · rw [swp_len] at jl
        have n1 : ((i - 1) / 2 - 1) / 2 ≠ (i - 1) / 2 := by omega
        have n2 : ((i - 1) / 2 - 1) / 2 ≠ i := by omega
        rw [hs j, hs (((i - 1) / 2 - 1) / 2), if_neg n1, if_neg n2, if_neg (by omega)]
        have hpp := h1 ((i - 1) / 2) p0 hp (by omega)
        by_cases e1 : j = i
        · rw [if_pos e1]; exact hpp
        · rw [if_neg e1]
          have := h1 j j0 jl e1
          rw [je] at this
          exact o.trans _ _ _ hpp this
    · rename_i h
      intro j j0 jl
      by_cases e : j = i
      · subst e
        have hn : ¬ aheadL lt l j ((j - 1) / 2) = true := fun hc => h ⟨j0, hc⟩
        rw [aheadL_nth hi (by omega)] at hn
        simpa using hn
      · exact h1 j j0 jl e

theorem best_min {lt : Item → Item → Bool} (o : Ord (aheadB lt)) {l : List Item} {i j : Nat} (hi : i < l.length) :
    aheadB lt (nth l i) (nth l (best lt l i j)) = false ∧ (j < l.length → aheadB lt (nth l j) (nth l (best lt l i j)) = false) := by
  unfold best
  split
  · rename_i h
    have ha := h.2
    rw [aheadL_nth h.1 hi] at ha
    exact ⟨o.asym _ _ ha, fun _ => o.irr _⟩
  · rename_i h
    refine ⟨o.irr _, fun hj => ?_⟩
    have hn : ¬ aheadL lt l j i = true := fun hc => h ⟨hj, hc⟩
    rw [aheadL_nth hj hi] at hn
    simpa using hn
theorem pick_min {lt : Item → Item → Bool} (o : Ord (aheadB lt)) {l : List Item} {i : Nat} (hi : i < l.length) :
    aheadB lt (nth l i) (nth l (pick lt l i)) = false ∧ ∀ j, 0 < j → (j - 1) / 2 = i → j < l.length → aheadB lt (nth l j) (nth l (pick lt l i)) = false := by
  have h1 := best_min o (j := 2 * i + 1) hi
  have h2 := best_min o (j := 2 * i + 2) (best_lt (lt := lt) (j := 2 * i + 1) hi)
  refine ⟨o.trans _ _ _ h2.1 h1.1, fun j j0 je jl => ?_⟩
  by_cases e : j = 2 * i + 1
  · subst e; exact o.trans _ _ _ h2.1 (h1.2 jl)
  · obtain rfl : j = 2 * i + 2 := by omega
    exact h2.2 jl

theorem siftDown_ok {lt : Item → Item → Bool} (o : Ord (aheadB lt)) (l : List Item) (i : Nat) : i < l.length → (∀ j, 0 < j → j < l.length → (j - 1) / 2 ≠ i → aheadB lt (nth l j) (nth l ((j - 1) / 2)) = false) →
    (∀ j, 0 < j → j < l.length → (j - 1) / 2 = i → 0 < i → aheadB lt (nth l j) (nth l ((i - 1) / 2)) = false) → HeapOk (aheadB lt) (siftDown lt l i) := by
  induction l, i using siftDown.induct lt with
  | case1 l i h =>
    intro hi h1 h2 
    rw [siftDown, dif_pos h]
    intro j j0 jl
    by_cases e : (j - 1) / 2 = i
    · have := (pick_min o hi).2 j j0 e jl
      rw [h] at this
      rw [e]; exact this
    · exact h1 j j0 jl e
  | case2 l i h ih =>
    intro hi h1 h2
    rw [siftDown, dif_neg h]
    have hpk := (pick_or lt l i).resolve_left h
    have hpar : (pick lt l i - 1) / 2 = i := by
      have h3 := best_or lt l (best lt l i (2 * i + 1)) (2 * i + 2)
      have h4 := best_or lt l i (2 * i + 1)
      unfold pick at hpk ⊢
      omega
    have pm := pick_min o hi
    have hs : ∀ k, nth (swp l i (pick lt l i)) k = if k = pick lt l i then nth l i else if k = i then nth l (pick lt l i) else nth l k := nth_swp hi hpk.2
    generalize pick lt l i = b at *
    refine ih (by rw [swp_len]; exact hpk.2) (fun j j0 jl jn => ?_) (fun j j0 jl je p0 => ?_)
    · rw [swp_len] at jl
      rw [hs j, hs ((j - 1) / 2), if_neg jn]
      by_cases e1 : j = b
      · rw [if_pos e1, if_pos (by omega)]; exact pm.1
      · rw [if_neg e1]
        by_cases e2 : j = i
        · subst e2
          rw [if_pos rfl, if_neg (by omega)]
          exact h2 b (by omega) hpk.2 hpar j0
        · rw [if_neg e2]
          by_cases e3 : (j - 1) / 2 = i
          · rw [if_pos e3]; exact pm.2 j j0 e3 jl
          · rw [if_neg e3]; exact h1 j j0 jl e3
    · rw [swp_len] at jl
      rw [hs j, hs ((b - 1) / 2), hpar, if_neg (by omega), if_neg (by omega), if_neg (by omega), if_pos rfl]
      have := h1 j j0 jl (by omega)
      rwa [je] at this

theorem push_ok {lt : Item → Item → Bool} (o : Ord (aheadB lt)) {l : List Item} (h : HeapOk (aheadB lt) l) (x : Item) : HeapOk (aheadB lt) (siftUp lt (l ++ [x]) l.length) := by
  have hn : ∀ k, k < l.length → nth (l ++ [x]) k = nth l k := fun k hk => by simp [nth, List.getElem?_append, hk]
  refine siftUp_ok o _ _ (by simp) (fun j j0 jl jn => ?_) (fun j j0 jl je p0 => ?_)
  · simp at jl
    rw [hn j (by omega), hn _ (by omega)]
    exact h j j0 (by omega)
  · simp at jl; omega
theorem pop_ok {lt : Item → Item → Bool} (o : Ord (aheadB lt)) {l : List Item} (h : HeapOk (aheadB lt) l) : HeapOk (aheadB lt) (popped lt l) := by
  unfold popped
  by_cases hl : l.length ≤ 1
  · have e : (swp l 0 (l.length - 1)).take (l.length - 1) = [] := by rw [show l.length - 1 = 0 by omega]; simp
    rw [e]
    intro j j0 jl
    rw [(siftDown_perm lt [] 0).length_eq] at jl
    simp at jl
  · have hn : ∀ k, 0 < k → k < l.length - 1 → nth ((swp l 0 (l.length - 1)).take (l.length - 1)) k = nth l k := fun k k0 kl => by
      have h1 : nth ((swp l 0 (l.length - 1)).take (l.length - 1)) k = nth (swp l 0 (l.length - 1)) k := by simp [nth, List.getElem?_take, kl]
      rw [h1, nth_swp (by omega) (by omega), if_neg (by omega), if_neg (by omega)]
    have hlen : ((swp l 0 (l.length - 1)).take (l.length - 1)).length = l.length - 1 := by simp [swp_len]
    refine siftDown_ok o _ _ (by omega) (fun j j0 jl jn => ?_) (fun j j0 jl je p0 => by omega)
    rw [hlen] at jl
    rw [hn j j0 jl, hn _ (by omega) (by omega)]
    exact h j j0 (by omega)
end Go.Proofs.YtkiakofohkecaaaDoor
