/- PathsHeap: what one push does to one side's state. No condition but that the state is as told. -/
import Derived.Test.YtkiakofohkecaaaHx11
namespace Go.Proofs.Ytkiakofohkecaaa
open Go Go.Fw

def lessOf (down : Bool) : Value := .func (.func (if down then 8 else 7)) #[] #[]
theorem lessOk (down : Bool) : LessOk [] (lessOf down) (ltSide down) := by
  cases down
  · exact lessOk7
  · exact lessOk8
theorem ordSide (down : Bool) : Ord (aheadB (ltSide down)) := by
  cases down
  · exact ord_up
  · exact ord_down

/-- One side: its heap, and the list of what lies in it, in the order in which it came. -/
def Side (h : Hp) (down : Bool) (p : Nat) (v : Value) (N n : Nat) (S : List Nat) : Prop :=
  ∃ (its : List Item) (ck : Int) (bl : List Nat) (ws : List Item) (ol : List Nat), S = p :: (bl ++ ol) ∧ (p ∉ bl ∧ p ∉ ol ∧ ∀ b ∈ bl, b ∉ ol) ∧ HeapE h p (lessOf down) its ck bl ∧ OwnS h 26 2 v (ws.map Item.enc2) ol ∧
    its.Perm ws ∧ HeapOk (aheadB (ltSide down)) its ∧ ws.Pairwise (fun a b => a.when < b.when) ∧ (∀ x ∈ ws, x.when < ck) ∧ 0 ≤ ck ∧ ck ≤ N ∧ ws.length = n ∧ n ≤ N

theorem Side.fr {h h' : Hp} {down : Bool} {p : Nat} {v : Value} {N n : Nat} {S T : List Nat} (s : Side h down p v N n S) (f : Fr h h' T) (d : ∀ b ∈ S, b ∉ T) : Side h' down p v N n S := by
  obtain ⟨its, ck, bl, ws, ol, rfl, hd, H, O, rest⟩ := s
  exact ⟨its, ck, bl, ws, ol, rfl, hd, H.fr f (d p (by simp)) (fun b hb => d b (by simp [hb])), O.fr f (fun b hb => d b (by simp [hb])), rest⟩
theorem Side.more {h : Hp} {down : Bool} {p : Nat} {v : Value} {N n : Nat} {S : List Nat} (s : Side h down p v N n S) : Side h down p v (N + 1) n S := by
  obtain ⟨its, ck, bl, ws, ol, e, hd, H, O, h1, h2, h3, h4, h5, h6, h7, h8⟩ := s
  exact ⟨its, ck, bl, ws, ol, e, hd, H, O, h1, h2, h3, h4, h5, by omega, h7, by omega⟩
theorem Side.lt {h : Hp} {down : Bool} {p : Nat} {v : Value} {N n : Nat} {S : List Nat} (s : Side h down p v N n S) : ∀ b ∈ S, b < h.size := by
  obtain ⟨its, ck, bl, ws, ol, rfl, hd, H, O, _⟩ := s
  intro b hb
  rcases List.mem_cons.1 hb with rfl | hb
  · exact H.lt.1
  · rcases List.mem_append.1 hb with hb | hb
    · exact (H.lt.2 b hb).1
    · exact O.lt b hb
theorem Side.len {h : Hp} {down : Bool} {p : Nat} {v : Value} {N n : Nat} {S : List Nat} (s : Side h down p v N n S) : lenE v = some (.int .i64 n) := by
  obtain ⟨its, ck, bl, ws, ol, rfl, hd, H, O, h1, h2, h3, h4, h5, h6, h7, h8⟩ := s
  rw [O.lenE]; simp [h7]
theorem Side.Len {h : Hp} {down : Bool} {p : Nat} {v : Value} {N n : Nat} {S : List Nat} (s : Side h down p v N n S) {R : Value → Hp → Prop} (hR : R (.int .i64 n) h) : CallsH Try.prog 12 #[.pointer (some ⟨p, 0, none⟩)] h R := by
  obtain ⟨its, ck, bl, ws, ol, rfl, hd, H, O, h1, h2, h3, h4, h5, h6, h7, h8⟩ := s
  refine len_spec H ?_
  rw [h1.length_eq, h7]; exact hR

def two (sd : Bool) (v u : Value) : Array Value := if sd then #[u, v] else #[v, u]
def jn (sd : Bool) : Nat := if sd then 1 else 0
theorem two_at (sd : Bool) (v u : Value) : (two sd v u)[jn sd]? = some v := by cases sd <;> rfl
theorem two_idx (sd : Bool) (q : Nat) : idxA 2 1 (.pointer (some ⟨q, 0, none⟩)) (.int .i64 (jn sd : Nat)) = some (.pointer (some ⟨q, jn sd, none⟩)) := by cases sd <;> rfl
theorem two_st {h : Hp} {q : Nat} {sd : Bool} {v u v' : Value} (hq : h[q]? = some (.cells (two sd v u) 29 (0, 0))) (h1 : v'.oneCell' = true) (hc : v'.cells = #[v']) :
    stE 1 h (.pointer (some ⟨q, jn sd, none⟩)) v' = some (h.setIfInBounds q (.cells (two sd v' u) 29 (0, 0))) := by
  rw [stE_at _ hq, hc]
  cases sd <;> simp [two, jn, splice, h1]

theorem elem28 : ElemOk Try.prog 28 26 2 16 := .of (z := .agg #[.int .i64 0, .int .i64 0]) (by kernel_rfl) (by kernel_rfl) (by kernel_rfl)
theorem fill_row (k t : Int) : fillR 2 #[(.int .i64 0), (.int .i64 0)] [(0, .agg #[.int .i64 k, .int .i64 t])] = some #[.int .i64 k, .int .i64 t] := by kernel_rfl

theorem one_seg {h : Hp} {b : Nat} (x : Item) (e : h[b]? = some (.cells #[.int .i64 x.key, .int .i64 x.tag] 26 (0, 0))) : Seg h 2 b 0 [x.enc2] := by
  refine ⟨_, _, _, e, by simp, by simp [Item.enc2], fun i j y hi hj => ?_⟩
  obtain rfl : i = 0 := by
    have := (List.getElem?_eq_some_iff.1 hi).1
    simpa using this
  obtain rfl : x.enc2 = y := by simpa using hi
  simp [Item.enc2]

/-- A push on one side, and the list of that side grown. -/
theorem push_step {h : Hp} {sd : Bool} {p q q7 : Nat} {v u : Value} {N n : Nat} {S : List Nat} {b0 b1 : Value} {k : Int} {i : Nat} (s : Side h sd p v N n S) (hN : N ≤ 1048576) (hq : h[q]? = some (.cells (two sd v u) 29 (0, 0))) (hqS : q ∉ S)
    (h7 : h[q7]? = some (.cells #[b0, b1, .int .i64 k] 31 (0, 0))) (h7S : q7 ∉ S) {K : Hp → Prop}
    (hK : ∀ h' v' S', Side h' sd p v' (N + 1) (n + 1) S' → h'[q]? = some (.cells (two sd v' u) 29 (0, 0)) → Fr h h' (q :: S) → (∀ b ∈ S', b ∈ S ∨ h.size ≤ b) → K h') :
    CallsH Try.prog 9 #[.pointer (some ⟨p, 0, none⟩), .agg #[.int .i64 k, .int .i64 i]] h fun t44_1 h_15 =>
      bnd (idxA 2 1 (.pointer (some ⟨q, 0, none⟩)) (.int .i64 (jn sd : Nat))) fun t47_1 =>
      bnd (ldS h_15 t47_1) fun t48_1 =>
      bnd (ldS h_15 (.pointer (some ⟨q7, 2, none⟩))) fun t50_1 =>
      bnd ((fillS [(0, 1), (1, 1)] #[(.int .i64 0), (.int .i64 0)] [(0, t50_1), (1, .int .i64 i)]).map Value.agg) fun t52_1 =>
      bnd (fillR 2 #[(.int .i64 0), (.int .i64 0)] [(0, t52_1)]) fun c =>
      nw h_15 c 26 (fun b => .slice (some ⟨b, 0, none⟩) 1 1) fun t53_1 h_16 =>
      efS Try.prog (Go.Builtin.append_ #[28, 28] 28 #[t48_1, t53_1]) h_16 fun t54_1 h_17 =>
      bnd (idxA 2 1 (.pointer (some ⟨q, 0, none⟩)) (.int .i64 (jn sd : Nat))) fun t55_1 =>
      bnd (stE 1 h_17 t55_1 t54_1) fun h_18 => K h_18 := by
  obtain ⟨its, ck, bl, ws, ol, rfl, ⟨hd1, hd2, hd3⟩, H, O, hP, hO, hS, hB, hc0, hcN, hn, hnN⟩ := s
  have hlts := H.lt
  have hlq := lt_of_get hq
  have hl7 := lt_of_get h7
  have hlo := O.lt
  simp only [List.mem_cons, List.mem_append, not_or] at hqS h7S
  refine push_spec (L := []) (lessOk sd) (by simp [Has]) (by simp) (by simp) H (by rw [hP.length_eq]; omega) (by omega) _ _ fun h15 b cap H15 f15 hb => ?_
  have hbf : b ∈ bl ∨ h.size ≤ b := by
    rcases hb with rfl | hb
    · exact .inl (by simp)
    · exact .inr hb
  have O15 : OwnS h15 26 2 v (ws.map Item.enc2) ol := O.fr f15 (fun c hc => by
    simp only [List.mem_cons, not_or]
    exact ⟨fun e => hd2 (e ▸ hc), fun e => hd3 c e hc⟩)
  have q15 := f15.get hq (by simp only [List.mem_cons, not_or]; exact ⟨hqS.1, hqS.2.1⟩)
  have r15 := f15.get h7 (by simp only [List.mem_cons, not_or]; exact ⟨h7S.1, h7S.2.1⟩)
  simp only [two_idx, bnd_some, ldS_at q15, two_at, fldE_ptr, ldS_at r15, List.getElem?_toArray, List.getElem?_cons_succ, List.getElem?_cons_zero, Nat.zero_add, fill_entry, fill_row, nw_eq]
  have f16 := Fr.push h15 (.cells #[.int .i64 k, .int .i64 (i : Int)] 26 (0, 0)) []
  have e16 := get_new h15 (.cells #[.int .i64 k, .int .i64 (i : Int)] 26 (0, 0))
  have hsz := f15.size
  have O16 := O15.fr f16 (by simp)
  have q16 := f16.get q15 (by simp)
  have H16 := HeapE.fr (.inr ⟨b, cap, rfl, H15⟩) f16 (by simp) (by simp)
  have hlb := H15.row.lt
  generalize hq8 : h15.size = q8 at *
  generalize h15.push (.cells #[.int .i64 k, .int .i64 (i : Int)] 26 (0, 0)) = h16 at *
  refine own_app (ys := [(⟨k, i, ck⟩ : Item).enc2]) (cs := 1) elem28 O16 (one_seg _ e16) (by simp [Item.enc2]) (by simp; omega) (by simp; omega) fun h17 v' ol' O17 f17 hf17 => ?_
  have q17 := f17.get q16 (fun hm => hqS.2.2 hm)
  simp only [two_idx, bnd_some, two_st q17 O17.one O17.cells]
  have f18 : Fr h17 _ [q] := Fr.set h17 q (.cells (two sd v' u) 29 (0, 0)) (fun _ => by simp) (by rw [q17]; rfl)
  have q18 := get_set (o' := .cells (two sd v' u) 29 (0, 0)) q17
  have hsz16 := f16.size
  have hol' : ∀ c ∈ ol', c ∈ ol ∨ q8 ≤ c := fun c hc => (hf17 c hc).imp id (fun h => by omega)
  have qol : q ∉ ol' := fun hm => (hol' q hm).elim hqS.2.2 (fun h => by omega)
  have hb1 : b ≠ p := H15.ne.symm
  have bol : b ∉ ol' := fun hm => by
    rcases hol' b hm with h1 | h1
    · rcases hbf with h2 | h2
      · exact hd3 b h2 h1
      · have := hlo b h1; omega
    · omega
  have pol : p ∉ ol' := fun hm => (hol' p hm).elim hd2 (fun h => by omega)
  have hqb : b ≠ q := by
    rcases hbf with h2 | h2
    · exact fun e => hqS.2.1 (e ▸ h2)
    · omega
  refine hK _ v' (p :: ([b] ++ ol')) ?_ q18 ?_ ?_
  · refine ⟨_, ck + 1, [b], ws ++ [⟨k, i, ck⟩], ol', rfl, ⟨by simp; exact fun e => hb1 e.symm, pol, by simpa using bol⟩, ?_, ?_, ?_, push_ok (ordSide sd) hO ⟨k, i, ck⟩, ?_, ?_, by omega, by omega, by simp; omega, by omega⟩
    · refine (H16.fr f17 (fun hm => hd2 hm) (fun c hc => ?_)).fr f18 (by simp; exact fun e => hqS.1 e.symm) (by simpa using hqb)
      obtain rfl : c = b := by simpa using hc
      intro hm
      rcases hbf with h2 | h2
      · exact hd3 c h2 hm
      · have := hlo c hm; omega
    · have := O17.fr f18 (fun c hc => by simp; exact fun e => qol (e ▸ hc))
      simpa using this
    · exact (push_perm (ltSide sd) its ⟨k, i, ck⟩).trans ((hP.cons _).trans (List.perm_append_singleton _ _).symm)
    · rw [List.pairwise_append]
      refine ⟨hS, by simp, fun x hx y hy => ?_⟩
      obtain rfl : y = ⟨k, i, ck⟩ := by simpa using hy
      exact hB x hx
    · intro x hx
      rcases List.mem_append.1 hx with hx | hx
      · have := hB x hx; omega
      · obtain rfl : x = ⟨k, i, ck⟩ := by simpa using hx
        simp; omega
  · have g1 : Fr h h16 (q :: p :: (bl ++ ol)) := f15.trans f16 (fun c _ hc => by simp at hc ⊢; rcases hc with h | h <;> simp [h]) (fun c _ hc => by simp at hc)
    have g2 : Fr h h17 (q :: p :: (bl ++ ol)) := g1.trans f17 (fun _ _ hc => hc) (fun c _ hc => by simp [hc])
    exact g2.trans f18 (fun _ _ hc => hc) (fun c _ hc => by simp at hc; simp [hc])
  · intro c hc
    simp only [List.mem_cons, List.mem_append, List.not_mem_nil, or_false] at hc ⊢
    rcases hc with rfl | rfl | hc
    · exact .inl (.inl rfl)
    · exact hbf.imp (fun h => .inr (.inl h)) id
    · exact (hol' c hc).imp (fun h => .inr (.inr h)) (fun h => by omega)
end Go.Proofs.Ytkiakofohkecaaa
