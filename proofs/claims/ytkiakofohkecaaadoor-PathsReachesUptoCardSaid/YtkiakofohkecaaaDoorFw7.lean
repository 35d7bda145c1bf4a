/- The framework, part 7: the orders that the model draws, and the check that few of them stand for all. No condition. -/
import Derived.Test.YtkiakofohkecaaaDoorFw6
namespace Go.Fw
open Go

theorem sub_pos {a b : Nat} : ∀ {s : List Nat}, s.Nodup → [a, b].Sublist s → s.idxOf a < s.idxOf b
  | [], _, h => by simp at h
  | c :: s, hn, h => by
    obtain ⟨hc, hn'⟩ := List.nodup_cons.1 hn
    cases h with
    | cons _ h =>
      have ha : a ∈ s := h.subset (by simp)
      have hb : b ∈ s := h.subset (by simp)
      have hac : ¬ c = a := fun e => hc (e ▸ ha)
      have hbc : ¬ c = b := fun e => hc (e ▸ hb)
      have := sub_pos hn' h
      simp only [List.idxOf_cons, cond_false, beq_eq_false_iff_ne.2 hac, beq_eq_false_iff_ne.2 hbc]
      omega
    | cons_cons _ h =>
      have hb : b ∈ s := h.subset (by simp)
      have hbc : ¬ a = b := fun e => hc (e ▸ hb)
      simp only [List.idxOf_cons, beq_self_eq_true, cond_true, beq_eq_false_iff_ne.2 hbc, cond_false]
      omega

section
variable {ops : Array Oper}

def Lin (ops : Array Oper) : Array Bool → List Nat → Prop
  | listed, [] => Region.ready .any ops listed = []
  | listed, i :: l => i ∈ Region.ready .any ops listed ∧ Lin ops (listed.setIfInBounds i true) l

def unl (listed : Array Bool) : Nat := (listed.toList.filter (· == false)).length

theorem unl_set {listed : Array Bool} {i : Nat} (h : listed.getD i true = false) : unl (listed.setIfInBounds i true) < unl listed := by
  unfold unl
  obtain ⟨l⟩ := listed
  simp only [List.setIfInBounds_toArray]
  induction l generalizing i with
  | nil => simp at h
  | cons b l ih =>
    cases i with
    | zero =>
      simp at h; subst h; simp
    | succ i =>
      have h' : (List.toArray l).getD i true = false := by simpa using h
      have := ih h'
      cases b <;> simp at this ⊢ <;> omega

theorem unl_zero {listed : Array Bool} (h : unl listed = 0) (i : Nat) : listed.getD i true = true := by
  unfold unl at h
  have h' : ∀ b ∈ listed.toList, b = true := by
    intro b hb
    have := List.length_eq_zero_iff.1 h
    cases b
    · have hm : false ∈ listed.toList.filter (· == false) := List.mem_filter.2 ⟨hb, rfl⟩
      rw [this] at hm; simp at hm
    · rfl
  by_cases hi : i < listed.size
  · simp only [Array.getD, hi, dif_pos]
    exact h' _ (by simp)
  · simp [hi]

theorem lin_go : ∀ (fuel t : Nat) (listed : Array Bool), unl listed ≤ fuel → Lin ops listed (Region.linearise.go .any ops fuel t listed []) := by
  intro fuel
  induction fuel with
  | zero =>
    intro t listed h
    simp only [Region.linearise.go, List.reverse_nil, Lin]
    cases hr : Region.ready .any ops listed with
    | nil => rfl
    | cons j r =>
      have hj : j ∈ Region.ready .any ops listed := by rw [hr]; simp
      have h0 := (mem_ready.1 hj).1
      rw [unl_zero (by omega) j] at h0
      cases h0
  | succ fuel ih =>
    intro t listed h
    simp only [Region.linearise.go]
    change Lin ops listed (match (Region.ready .any ops listed)[t % (Region.ready .any ops listed).length]? with
      | some i => Region.linearise.go .any ops fuel (t / (Region.ready .any ops listed).length) (listed.setIfInBounds i true) [i]
      | none => [].reverse)
    cases hi : (Region.ready .any ops listed)[t % (Region.ready .any ops listed).length]? with
    | none =>
      simp only [List.reverse_nil, Lin]
      cases hr : Region.ready .any ops listed with
      | nil => rfl
      | cons x xs =>
        rw [hr] at hi
        have hlt : t % (x :: xs).length < (x :: xs).length := Nat.mod_lt _ (by simp)
        rw [List.getElem?_eq_getElem hlt] at hi
        simp at hi
    | some i =>
      have hm : i ∈ Region.ready .any ops listed := List.mem_of_getElem? hi
      simp only []
      rw [linearise_go_acc, List.reverse_singleton, List.singleton_append]
      refine ⟨hm, ih _ _ ?_⟩
      have := unl_set (mem_ready.1 hm).1
      omega

theorem lin_mem : ∀ {l : List Nat} {listed : Array Bool}, Lin ops listed l → ∀ i ∈ l, i < ops.size ∧ listed.getD i true = false
  | [], _, _, _, h => by simp at h
  | j :: l, listed, ⟨hj, hl⟩, i, hi => by
    rcases List.mem_cons.1 hi with rfl | hi
    · obtain ⟨h0, o, ho, _⟩ := mem_ready.1 hj
      exact ⟨(Array.getElem?_eq_some_iff.1 ho).1, h0⟩
    · obtain ⟨h1, h2⟩ := lin_mem hl i hi
      refine ⟨h1, ?_⟩
      by_cases hij : j = i
      · subst hij
        have hlt : j < listed.size := by
          rcases Nat.lt_or_ge j listed.size with h | h
          · exact h
          · simp [Array.getElem?_eq_none h] at h2
        simp [hlt] at h2
      · rwa [getD_set_ne true hij] at h2

theorem lin_nodup : ∀ {l : List Nat} {listed : Array Bool}, Lin ops listed l → l.Nodup
  | [], _, _ => List.nodup_nil
  | j :: l, listed, ⟨hj, hl⟩ => by
    refine List.nodup_cons.2 ⟨fun hm => ?_, lin_nodup hl⟩
    have h2 := (lin_mem hl j hm).2
    have h0 := (mem_ready.1 hj).1
    have hlt : j < listed.size := by
      rcases Nat.lt_or_ge j listed.size with h | h
      · exact h
      · simp [Array.getElem?_eq_none h] at h0
    simp [hlt] at h2

theorem lin_pos : ∀ {l : List Nat} {listed : Array Bool}, Lin ops listed l → ∀ j ∈ l, ∀ o, ops[j]? = some o → ∀ e ∈ o.after, Region.binds .any e = true → listed.getD e.on false = true ∨ (e.on ∈ l ∧ l.idxOf e.on < l.idxOf j)
  | [], _, _, _, h, _, _, _, _, _ => by simp at h
  | i :: l, listed, ⟨hi, hl⟩, j, hj, o, ho, e, he, hb => by
    by_cases hij : i = j
    · subst hij
      obtain ⟨_, o', ho', hall⟩ := mem_ready.1 hi
      obtain rfl := Option.some.inj (ho'.symm.trans ho)
      exact .inl (hall e he hb)
    · have hjl : j ∈ l := (List.mem_cons.1 hj).resolve_left (fun h => hij h.symm)
      rcases lin_pos hl j hjl o ho e he hb with h | ⟨h1, h2⟩
      · by_cases hie : i = e.on
        · refine .inr ⟨by simp [hie], ?_⟩
          simp only [List.idxOf_cons, hie, beq_self_eq_true, cond_true]
          have : ¬ e.on = j := fun h => hij (hie.trans h)
          simp only [beq_eq_false_iff_ne.2 this, cond_false]
          omega
        · rw [getD_set_ne false hie] at h; exact .inl h
      · refine .inr ⟨by simp [h1], ?_⟩
        by_cases hie : i = e.on
        · simp only [List.idxOf_cons, hie, beq_self_eq_true, cond_true]
          have : ¬ e.on = j := fun h => hij (hie.trans h)
          simp only [beq_eq_false_iff_ne.2 this, cond_false]
          omega
        · simp only [List.idxOf_cons, beq_eq_false_iff_ne.2 hie, beq_eq_false_iff_ne.2 hij, cond_false]
          omega

/-- All binding edges lead back. -/
def backB (ops : List Oper) : Bool := ops.zipIdx.all fun (o, j) => o.after.toList.all fun e => !Region.binds .any e || Nat.blt e.on j

theorem backB_spec {l : List Oper} (h : backB l = true) {j : Nat} {o : Oper} (ho : l[j]? = some o) {e : Edge} (he : e ∈ o.after) (hb : Region.binds .any e = true) : e.on < j := by
  simp only [backB, List.all_eq_true] at h
  have h1 := h (o, j) (List.mem_zipIdx_iff_getElem?.2 ho)
  have h2 := h1 e (by simpa using he)
  simp only [hb, Bool.not_true, Bool.false_or, Nat.blt_eq] at h2
  exact h2

theorem lin_all (hb : backB ops.toList = true) : ∀ {l : List Nat} {listed : Array Bool}, listed.size = ops.size → Lin ops listed l → ∀ i, i < ops.size → listed.getD i true = false → i ∈ l
  | [], listed, hs, hl, i, hi, h0 => by
    exfalso
    have key : ∀ n, ∀ i, i ≤ n → i < ops.size → listed.getD i true = true := by
      intro n
      induction n with
      | zero =>
        intro i hin hi
        cases h : listed.getD i true
        · have : i ∈ Region.ready .any ops listed := mem_ready.2 ⟨h, ops[i], by simp [hi], fun e he hbi => by
            have := backB_spec hb (j := i) (o := ops[i]) (by simp [hi]) he hbi
            omega⟩
          rw [show Region.ready .any ops listed = [] from hl] at this
          simp at this
        · rfl
      | succ n ih =>
        intro i hin hi
        cases h : listed.getD i true
        · have : i ∈ Region.ready .any ops listed := mem_ready.2 ⟨h, ops[i], by simp [hi], fun e he hbi => by
            have hlt := backB_spec hb (j := i) (o := ops[i]) (by simp [hi]) he hbi
            have h1 := ih e.on (by omega) (by omega)
            have hsz : e.on < listed.size := by omega
            simp only [Array.getD, hsz, dif_pos] at h1 ⊢
            exact h1⟩
          rw [show Region.ready .any ops listed = [] from hl] at this
          simp at this
        · rfl
    rw [key i i (Nat.le_refl _) hi] at h0
    cases h0
  | j :: l, listed, hs, ⟨hj, hl⟩, i, hi, h0 => by
    by_cases hij : j = i
    · simp [hij]
    · exact List.mem_cons_of_mem _ (lin_all hb (by simpa using hs) hl i hi (by rw [getD_set_ne true hij]; exact h0))

/-! ancestors -/
inductive Anc (l : List Oper) (x : Nat) : Nat → Prop
  | edge {j : Nat} {o : Oper} {e : Edge} (ho : l[j]? = some o) (he : e ∈ o.after) (hb : Region.binds .any e = true) (hx : e.on = x) : Anc l x j
  | far {j : Nat} {o : Oper} {e : Edge} (ho : l[j]? = some o) (he : e ∈ o.after) (hb : Region.binds .any e = true) (hx : Anc l x e.on) : Anc l x j

def maskOf (acc : List Nat) (o : Oper) : Nat := o.after.toList.foldl (fun m e => match Region.binds .any e with | true => m ||| (1 <<< e.on) ||| acc.getD e.on 0 | false => m) 0
def masks : List Oper → List Nat → List Nat
  | [], acc => acc
  | o :: r, acc => masks r (acc ++ [maskOf acc o])

theorem mask_spec {acc : List Nat} {x : Nat} : ∀ (es : List Edge) (m : Nat), (es.foldl (fun m e => match Region.binds .any e with | true => m ||| (1 <<< e.on) ||| acc.getD e.on 0 | false => m) m).testBit x = true →
    m.testBit x = true ∨ ∃ e ∈ es, Region.binds .any e = true ∧ (e.on = x ∨ (acc.getD e.on 0).testBit x = true)
  | [], m, h => .inl h
  | e :: es, m, h => by
    simp only [List.foldl_cons] at h
    rcases mask_spec es _ h with h | ⟨e', he', h⟩
    · cases hb : Region.binds .any e with
      | false => simp only [hb] at h; exact .inl h
      | true =>
        simp only [hb, Nat.testBit_or, Bool.or_eq_true] at h
        rcases h with (h | h) | h
        · exact .inl h
        · refine .inr ⟨e, by simp, hb, .inl ?_⟩
          rw [Nat.one_shiftLeft, Nat.testBit_two_pow] at h
          simpa using h
        · exact .inr ⟨e, by simp, hb, .inr h⟩
    · exact .inr ⟨e', by simp [he'], h⟩

theorem masks_spec {l : List Oper} {x : Nat} : ∀ (r : List Oper) (acc : List Nat) (p : List Oper), l = p ++ r → acc.length = p.length → (∀ j, (acc.getD j 0).testBit x = true → Anc l x j) →
    ∀ j, ((masks r acc).getD j 0).testBit x = true → Anc l x j
  | [], acc, p, _, _, h, j, hj => h j hj
  | o :: r, acc, p, hl, hn, h, j, hj => by
    refine masks_spec r (acc ++ [maskOf acc o]) (p ++ [o]) (by simp [hl]) (by simp [hn]) (fun j hj => ?_) j hj
    by_cases h1 : j < acc.length
    · have e1 : (acc ++ [maskOf acc o]).getD j 0 = acc.getD j 0 := by simp only [List.getD_eq_getElem?_getD]; rw [List.getElem?_append_left h1]
      rw [e1] at hj
      exact h j hj
    · by_cases h2 : j = acc.length
      · subst h2
        have e1 : (acc ++ [maskOf acc o]).getD acc.length 0 = maskOf acc o := by simp
        rw [e1] at hj
        have ho : l[acc.length]? = some o := by rw [hl, hn]; simp
        rcases mask_spec _ _ hj with h0 | ⟨e, he, hb, hx⟩
        · simp at h0
        · have he' : e ∈ o.after := by simpa using he
          rcases hx with hx | hx
          · exact .edge ho he' hb hx
          · exact .far ho he' hb (h _ hx)
      · have hz : (acc ++ [maskOf acc o]).getD j 0 = 0 := by
          rw [List.getD_eq_getElem?_getD, List.getElem?_eq_none (by simp; omega)]
          rfl
        rw [hz] at hj
        simp at hj

theorem no_listed (n i : Nat) : (Array.replicate n false).getD i false = false := by simp only [Array.getD]; split <;> simp

theorem anc_pos {s : List Nat} (hl : Lin ops (Array.replicate ops.size false) s) {x j : Nat} (ha : Anc ops.toList x j) : j ∈ s → x ∈ s ∧ s.idxOf x < s.idxOf j := by
  induction ha with
  | edge ho he hb hx =>
    intro hj
    rcases lin_pos hl _ hj _ (by simpa using ho) _ he hb with h | h
    · exfalso
      rw [no_listed] at h; cases h
    · exact hx ▸ h
  | far ho he hb _ ih =>
    intro hj
    rcases lin_pos hl _ hj _ (by simpa using ho) _ he hb with h | h
    · exfalso
      rw [no_listed] at h; cases h
    · obtain ⟨h1, h2⟩ := ih h.1
      exact ⟨h1, by omega⟩
end
end Go.Fw
