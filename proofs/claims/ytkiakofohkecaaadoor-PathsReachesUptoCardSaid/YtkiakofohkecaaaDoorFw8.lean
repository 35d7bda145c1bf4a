/- The framework, part 8: a function's code as one formula over the heap, and that a call does what the formula says. No condition. -/
import Derived.Test.YtkiakofohkecaaaDoorFw7
namespace Go.Fw
open Go

/-! ## regions -/
def vecs : Nat → List (List Bool)
  | 0 => [[]]
  | n + 1 => (vecs n).flatMap fun v => [true :: v, false :: v]
theorem mem_vecs : ∀ (v : List Bool), v ∈ vecs v.length
  | [] => by simp [vecs]
  | b :: v => by
    simp only [List.length_cons, vecs, List.mem_flatMap]
    exact ⟨v, mem_vecs v, by cases b <;> simp⟩

def tb (masks : List Nat) (i x : Nat) : Bool := (masks.getD i 0).testBit x
/-- The pairs that stand in no order and may not change places. -/
def conf (P : Program) (ops : List Oper) (ms : List Nat) : List (Nat × Nat) :=
  (List.range ops.length).flatMap fun i => ((List.range i).filter fun x => !(tb ms i x || swapB P ops x i)).map fun x => (x, i)
def orient (c : (Nat × Nat) × Bool) : Nat × Nat := match c.2 with | true => c.1 | false => (c.1.2, c.1.1)
/-- Does x come before i, the pairs lying this way round? -/
def agree (ms : List Nat) (cs : List ((Nat × Nat) × Bool)) (x i : Nat) : Bool := cs.any fun c => (Nat.beq x (orient c).1 || tb ms (orient c).1 x) && (Nat.beq (orient c).2 i || tb ms i (orient c).2)
/-- Two pairs that lie this way round would make a ring. -/
def ring (ms : List Nat) (cs : List ((Nat × Nat) × Bool)) : Bool :=
  cs.any fun c => cs.any fun d => (Nat.beq (orient c).2 (orient d).1 || tb ms (orient d).1 (orient c).2) && (Nat.beq (orient d).2 (orient c).1 || tb ms (orient c).1 (orient d).2)
def fits (P : Program) (ops : List Oper) (ms : List Nat) (cs : List ((Nat × Nat) × Bool)) : List Nat → Bool
  | [] => true
  | x :: r => (r.all fun i => tb ms i x || swapB P ops x i || agree ms cs x i) && fits P ops ms cs r
def nodupB : List Nat → Bool
  | [] => true
  | x :: r => !r.contains x && nodupB r
def isPerm (n : Nat) (t : List Nat) : Bool := nodupB t && t.all (fun i => Nat.blt i n) && (List.range n).all fun i => t.contains i
def regB (P : Program) (ops : List Oper) (reps : List (List Nat)) : Bool :=
  backB ops && reps.all (isPerm ops.length) &&
    (vecs (conf P ops (masks ops [])).length).all fun v =>
      ring (masks ops []) ((conf P ops (masks ops [])).zip v) || reps.any fun t => fits P ops (masks ops []) ((conf P ops (masks ops [])).zip v) t

section
variable {P : Program}

theorem fits_spec {ops : List Oper} {ms : List Nat} {cs : List ((Nat × Nat) × Bool)} : ∀ {t : List Nat}, fits P ops ms cs t = true → ∀ x i, [x, i].Sublist t → tb ms i x = true ∨ swapB P ops x i = true ∨ agree ms cs x i = true
  | [], _, _, _, h => by simp at h
  | y :: r, h, x, i, hs => by
    simp only [fits, Bool.and_eq_true, List.all_eq_true] at h
    cases hs with
    | cons _ hs => exact fits_spec h.2 x i hs
    | cons_cons _ hs =>
      have := h.1 i (hs.subset (by simp))
      simp only [Bool.or_eq_true] at this
      rcases this with (h | h) | h
      · exact .inl h
      · exact .inr (.inl h)
      · exact .inr (.inr h)

theorem nodupB_spec : ∀ {t : List Nat}, nodupB t = true → t.Nodup
  | [], _ => List.nodup_nil
  | x :: r, h => by
    simp only [nodupB, Bool.and_eq_true, Bool.not_eq_true', List.contains_eq_mem, decide_eq_false_iff_not] at h
    exact List.nodup_cons.2 ⟨h.1, nodupB_spec h.2⟩
theorem isPerm_spec {n : Nat} {t s : List Nat} (h : isPerm n t = true) (hs : s.Nodup) (hm : ∀ i ∈ s, i < n) (hall : ∀ i, i < n → i ∈ s) : s.Perm t := by
  simp only [isPerm, Bool.and_eq_true, List.all_eq_true, List.mem_range, Nat.blt_eq] at h
  obtain ⟨⟨h1, h2⟩, h3⟩ := h
  refine (List.perm_ext_iff_of_nodup hs (nodupB_spec h1)).2 fun a => ⟨fun ha => by simpa using h3 a (hm a ha), fun ha => hall a (h2 a ha)⟩

theorem mem_zip_map {α β : Type} {f : α → β} : ∀ {l : List α} {c : α × β}, c ∈ l.zip (l.map f) → c.2 = f c.1 ∧ c.1 ∈ l
  | [], _, h => by simp at h
  | a :: l, c, h => by
    simp only [List.map_cons, List.zip_cons_cons, List.mem_cons] at h
    rcases h with rfl | h
    · exact ⟨rfl, by simp⟩
    · obtain ⟨h1, h2⟩ := mem_zip_map h
      exact ⟨h1, by simp [h2]⟩

theorem idx_inj {s : List Nat} {a b : Nat} (ha : a ∈ s) (hb : b ∈ s) (h : s.idxOf a = s.idxOf b) : a = b := by
  have h1 := List.getElem_idxOf (List.idxOf_lt_length_of_mem ha)
  have h2 := List.getElem_idxOf (List.idxOf_lt_length_of_mem hb)
  rw [← h1, ← h2]
  congr 1

theorem masks_anc {ops : List Oper} {i x : Nat} (h : tb (masks ops []) i x = true) : Anc ops x i :=
  masks_spec ops [] [] rfl rfl (fun j hj => by simp at hj) i h

/-- Whatever order is drawn, one of the listed orders stands for it. -/
theorem regB_spec {ops : Array Oper} {reps : List (List Nat)} (h : regB P ops.toList reps = true) {s : List Nat} (hl : Lin ops (Array.replicate ops.size false) s)
    {e : Env} {hp : Hp} {K : Env → Hp → Prop} (c : ∀ t ∈ reps, evL P ops.toList t e hp K) : evL P ops.toList s e hp K := by
  simp only [regB, Bool.and_eq_true] at h
  obtain ⟨⟨hb, hp'⟩, hv⟩ := h
  have hnd := lin_nodup hl
  have hm : ∀ i ∈ s, i < ops.toList.length := fun i hi => by simpa using (lin_mem hl i hi).1
  have hall : ∀ i, i < ops.toList.length → i ∈ s := fun i hi => lin_all hb (by simp) hl i (by simpa using hi) (by
    have hi' : i < ops.size := by simpa using hi
    simp only [Array.getD, Array.size_replicate, hi', dif_pos]
    simp)
  generalize hcf : conf P ops.toList (masks ops.toList []) = cf at hv
  have hcm : ∀ a b, (a, b) ∈ cf → a < b ∧ b < ops.toList.length := fun a b hab => by
    rw [← hcf] at hab
    simp only [conf, List.mem_flatMap, List.mem_map, List.mem_filter, List.mem_range, Prod.mk.injEq] at hab
    obtain ⟨i, hi, x, ⟨hx, _⟩, rfl, rfl⟩ := hab
    exact ⟨hx, hi⟩
  let v := cf.map fun ab => decide (s.idxOf ab.1 < s.idxOf ab.2)
  have hvl : v.length = cf.length := by simp [v]
  have hvz : ∀ c ∈ cf.zip v, c.2 = decide (s.idxOf c.1.1 < s.idxOf c.1.2) ∧ c.1 ∈ cf := fun c hc => mem_zip_map hc
  have hor : ∀ c ∈ cf.zip v, s.idxOf (orient c).1 < s.idxOf (orient c).2 := by
    intro c hc
    obtain ⟨h1, h2⟩ := hvz c hc
    obtain ⟨h3, h4⟩ := hcm _ _ h2
    unfold orient
    cases h5 : c.2 with
    | true => simp only; rw [h5] at h1; exact of_decide_eq_true h1.symm
    | false =>
      simp only
      rw [h5] at h1
      have h6 := of_decide_eq_false h1.symm
      have h7 : s.idxOf c.1.1 ≠ s.idxOf c.1.2 := fun he => by
        have ha : c.1.1 ∈ s := hall _ (Nat.lt_trans h3 h4)
        have hb' : c.1.2 ∈ s := hall _ h4
        exact Nat.ne_of_lt h3 (idx_inj ha hb' he)
      omega
  have inS : ∀ c ∈ cf.zip v, (orient c).1 ∈ s ∧ (orient c).2 ∈ s := fun c hc => by
    obtain ⟨h3, h4⟩ := hcm _ _ (hvz c hc).2
    unfold orient
    cases c.2
    · exact ⟨hall _ h4, hall _ (Nat.lt_trans h3 h4)⟩
    · exact ⟨hall _ (Nat.lt_trans h3 h4), hall _ h4⟩
  have hv1 := (List.all_eq_true.1 hv) v (by rw [← hvl]; exact mem_vecs v)
  simp only [Bool.or_eq_true, List.any_eq_true] at hv1
  rcases hv1 with hr | ⟨t, ht, hf⟩
  · exfalso
    simp only [ring, List.any_eq_true, Bool.and_eq_true, Bool.or_eq_true] at hr
    obtain ⟨c, hc, d, hd, h1, h2⟩ := hr
    have hcs := hor c hc
    have hds := hor d hd
    have le1 : s.idxOf (orient c).2 ≤ s.idxOf (orient d).1 := by
      rcases h1 with h1 | h1
      · rw [Nat.eq_of_beq_eq_true h1]; exact Nat.le_refl _
      · exact Nat.le_of_lt (anc_pos hl (masks_anc h1) (inS d hd).1).2
    have le2 : s.idxOf (orient d).2 ≤ s.idxOf (orient c).1 := by
      rcases h2 with h2 | h2
      · rw [Nat.eq_of_beq_eq_true h2]; exact Nat.le_refl _
      · exact Nat.le_of_lt (anc_pos hl (masks_anc h2) (inS c hc).1).2
    omega
  · refine evL_order s t (isPerm_spec ((List.all_eq_true.1 hp') t ht) hnd hm hall) hnd (fun x i h1 h2 => ?_) e hp K (c t ht)
    have hix := sub_pos hnd h2
    have his : i ∈ s := h2.subset (by simp)
    rcases fits_spec hf x i h1 with h | h | h
    · have := (anc_pos hl (masks_anc h) his).2
      omega
    · exact h
    · exfalso
      simp only [agree, List.any_eq_true, Bool.and_eq_true, Bool.or_eq_true] at h
      obtain ⟨c, hc, h1, h2⟩ := h
      have hcs := hor c hc
      obtain ⟨i1, i2⟩ := inS c hc
      have le1 : s.idxOf x ≤ s.idxOf (orient c).1 := by
        rcases h1 with h1 | h1
        · rw [Nat.eq_of_beq_eq_true h1]; exact Nat.le_refl _
        · exact Nat.le_of_lt (anc_pos hl (masks_anc h1) i1).2
      have le2 : s.idxOf (orient c).2 ≤ s.idxOf i := by
        rcases h2 with h2 | h2
        · rw [Nat.eq_of_beq_eq_true h2]; exact Nat.le_refl _
        · exact Nat.le_of_lt (anc_pos hl (masks_anc h2) his).2
      omega
end
end Go.Fw
