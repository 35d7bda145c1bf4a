/- Push: the new thing is put behind the others and moved up. No condition but that the heap's struct is as told. -/
import Derived.Test.YtkiakofohkecaaaDoorE3
namespace Go.Proofs.YtkiakofohkecaaaDoor
open Go Go.Fw

/-- The heap's struct at p; bl: the block of its items, if it has one. -/
def HeapE (h : Hp) (p : Nat) (less : Value) (its : List Item) (ck : Int) (bl : List Nat) : Prop :=
  (its = [] ∧ bl = [] ∧ h[p]? = some (.cells #[less, .slice none 0 0, .int .i64 ck] 152 (0, 0))) ∨ ∃ b cap, bl = [b] ∧ HeapAt h p less its ck b cap

theorem push_fin {h3 : Hp} {p b cap : Nat} {less old : Value} {its : List Item} {x : Item} {ck : Int} {L : List (Nat × Obj)} {lt : Item → Item → Bool} (ok : LessOk L less lt) (hL : Has h3 L) (hp : ∀ y ∈ L, y.1 ≠ b) (hp2 : ∀ y ∈ L, y.1 ≠ p)
    (top : h3[p]? = some (.cells #[less, old, .int .i64 ck] 152 (0, 0))) (row : RowAt h3 154 3 b cap (its.map Item.enc ++ [x.enc])) (ne : p ≠ b) (hlen : its.length < 1099511627776) (hck : 0 ≤ ck ∧ ck < 1099511627776) {R : Value → Hp → Prop}
    (hR : ∀ h', HeapAt h' p less (siftUp lt (its ++ [x]) its.length) (ck + 1) b cap → Fr h3 h' [p, b] → R (.tuple #[]) h') :
    bnd (stE 1 h3 (.pointer (some ⟨p, 1, none⟩)) (.slice (some ⟨b, 0, none⟩) (its.length + 1) cap)) fun h_4 => bnd (ldS h_4 (.pointer (some ⟨p, 2, none⟩))) fun t25 => bnd (binE .add t25 (.int .i64 1)) fun t26 =>
      bnd (stE 1 h_4 (.pointer (some ⟨p, 2, none⟩)) t26) fun h_5 => bnd (ldS h_5 (.pointer (some ⟨p, 1, none⟩))) fun t32 => bnd (lenE t32) fun t33 => bnd (binE .sub t33 (.int .i64 1)) fun t34 => f69.L1 t34 h_5 (.pointer (some ⟨p, 0, none⟩)) R := by
  have e1 : stE 1 h3 (.pointer (some ⟨p, 1, none⟩)) (.slice (some ⟨b, 0, none⟩) (its.length + 1) cap) = some (h3.setIfInBounds p (.cells #[less, .slice (some ⟨b, 0, none⟩) (its.length + 1) cap, .int .i64 ck] 152 (0, 0))) := by
    rw [stE_at _ top]; simp [splice]
  have top4 := get_set (o' := .cells #[less, .slice (some ⟨b, 0, none⟩) (its.length + 1) cap, .int .i64 ck] 152 (0, 0)) top
  have f4 : Fr h3 _ [p, b] := Fr.set h3 p (.cells #[less, .slice (some ⟨b, 0, none⟩) (its.length + 1) cap, .int .i64 ck] 152 (0, 0)) (fun _ => by simp) (by rw [top]; rfl)
  have f4' : Fr h3 _ [p] := Fr.set h3 p (.cells #[less, .slice (some ⟨b, 0, none⟩) (its.length + 1) cap, .int .i64 ck] 152 (0, 0)) (fun _ => by simp) (by rw [top]; rfl)
  rw [e1]
  simp only [bnd_some]
  generalize h3.setIfInBounds p (.cells #[less, .slice (some ⟨b, 0, none⟩) (its.length + 1) cap, .int .i64 ck] 152 (0, 0)) = h4 at *
  have w1 : IntKind.i64.wrap (ck + 1) = ck + 1 := wrap_id (by omega) (by omega)
  have e2 : stE 1 h4 (.pointer (some ⟨p, 2, none⟩)) (.int .i64 (ck + 1)) = some (h4.setIfInBounds p (.cells #[less, .slice (some ⟨b, 0, none⟩) (its.length + 1) cap, .int .i64 (ck + 1)] 152 (0, 0))) := by
    rw [stE_at _ top4]; simp [splice]
  have top5 := get_set (o' := .cells #[less, .slice (some ⟨b, 0, none⟩) (its.length + 1) cap, .int .i64 (ck + 1)] 152 (0, 0)) top4
  have f5 : Fr h4 _ [p, b] := Fr.set h4 p (.cells #[less, .slice (some ⟨b, 0, none⟩) (its.length + 1) cap, .int .i64 (ck + 1)] 152 (0, 0)) (fun _ => by simp) (by rw [top4]; rfl)
  have f5' : Fr h4 _ [p] := Fr.set h4 p (.cells #[less, .slice (some ⟨b, 0, none⟩) (its.length + 1) cap, .int .i64 (ck + 1)] 152 (0, 0)) (fun _ => by simp) (by rw [top4]; rfl)
  simp only [ldS_at top4, List.getElem?_toArray, bnd_some, bin_add, w1, List.getElem?_cons_succ, List.getElem?_cons_zero, e2]
  generalize h4.setIfInBounds p (.cells #[less, .slice (some ⟨b, 0, none⟩) (its.length + 1) cap, .int .i64 (ck + 1)] 152 (0, 0)) = h5 at *
  have w2 : IntKind.i64.wrap (((its.length + 1 : Nat) : Int) - 1) = ((its.length : Nat) : Int) := by rw [wrap_id (by omega) (by omega)]; omega
  simp only [ldS_at top5, List.getElem?_toArray, bnd_some, List.getElem?_cons_succ, List.getElem?_cons_zero, lenE_sl, bin_sub, w2]
  have H5 : HeapAt h5 p less (its ++ [x]) (ck + 1) b cap := ⟨by simpa using top5, by simpa using (row.fr f4' (by simp [ne.symm])).fr f5' (by simp [ne.symm]), ne⟩
  refine up_L1 ok ((hL.fr f4' (by simpa using hp2)).fr f5' (by simpa using hp2)) hp H5 (by simp) (by simp; omega) fun h' H' f' => hR h' H' ((f4.then f5).then (f'.mono fun c _ hm => by simp at hm ⊢; exact .inr hm))

theorem push_spec {h : Hp} {p : Nat} {less : Value} {its : List Item} {ck : Int} {bl : List Nat} {L : List (Nat × Obj)} {lt : Item → Item → Bool} (ok : LessOk L less lt) (hL : Has h L) (hp : ∀ y ∈ L, y.1 ∉ bl) (hp2 : ∀ y ∈ L, y.1 ≠ p)
    (H : HeapE h p less its ck bl) (hlen : its.length < 1099511627776) (hck : 0 ≤ ck ∧ ck < 1099511627776) (k t : Int) {R : Value → Hp → Prop}
    (hR : ∀ h' b cap, HeapAt h' p less (siftUp lt (its ++ [⟨k, t, ck⟩]) its.length) (ck + 1) b cap → Fr h h' (p :: bl) → (bl = [b] ∨ h.size ≤ b) → R (.tuple #[]) h') :
    CallsH Tryd.prog 69 #[.pointer (some ⟨p, 0, none⟩), .agg #[.int .i64 k, .int .i64 t]] h R := by
  have f2 : Fr h ((h.push (.cells #[.int .i64 k, .int .i64 t] 134 (0, 0))).push (.cells #[.int .i64 k, .int .i64 t, .int .i64 ck] 154 (0, 0))) [] := (Fr.push h _ []).new _
  have e1 : (h.push (.cells #[.int .i64 k, .int .i64 t] 134 (0, 0)))[h.size]? = some (.cells #[.int .i64 k, .int .i64 t] 134 (0, 0)) := get_new h _
  have e2 := get_new (h.push (.cells #[.int .i64 k, .int .i64 t] 134 (0, 0))) (.cells #[.int .i64 k, .int .i64 t, .int .i64 ck] 154 (0, 0))
  rw [Array.size_push] at e2
  have seg : Seg ((h.push (.cells #[.int .i64 k, .int .i64 t] 134 (0, 0))).push (.cells #[.int .i64 k, .int .i64 t, .int .i64 ck] 154 (0, 0))) 3 (h.size + 1) 0 [(⟨k, t, ck⟩ : Item).enc] := by
    refine ⟨_, _, _, e2, by simp, by simp [Item.enc], fun i j x hi hj => ?_⟩
    obtain rfl : i = 0 := by
      have := (List.getElem?_eq_some_iff.1 hi).1
      simpa using this
    obtain rfl : (⟨k, t, ck⟩ : Item).enc = x := by simpa using hi
    simp [Item.enc]
  refine f69.ok ?_
  unfold f69.T
  rcases H with ⟨rfl, rfl, top⟩ | ⟨b, cap, rfl, H⟩
  · have top1 := get_push (o' := .cells #[.int .i64 k, .int .i64 t] 134 (0, 0)) top
    have top2 := get_push (o' := .cells #[.int .i64 k, .int .i64 t, .int .i64 ck] 154 (0, 0)) top1
    have lp := lt_of_get top
    simp [ldS_at top1, ldA_at e1, fill_item, fill_one]
    refine append_nil elem150 seg (by simp [Item.enc]) (by simp) (by simp) (by simp) ?_
    intro h3 b cap r f hb
    have hb' : h.size ≤ b := by
      have := f2.size
      rcases hb with hb | hb
      · simp at hb
      · omega
    simp
    refine push_fin (its := []) (x := ⟨k, t, ck⟩) ok ((hL.fr f2 (by simp)).fr f (by simp)) (fun y hy => ?_) hp2 (f.get top2 (by simp)) (by simpa using r) (by omega) (by simp) hck fun h' H' f' => hR h' b cap H' ?_ (.inr hb')
    · have := lt_of_get (hL y hy); omega
    · exact (f2.then f).trans f' (by simp) (fun c hc hm => by simp at hm ⊢; omega)
  · have top1 := get_push (o' := .cells #[.int .i64 k, .int .i64 t] 134 (0, 0)) H.top
    have top2 := get_push (o' := .cells #[.int .i64 k, .int .i64 t, .int .i64 ck] 154 (0, 0)) top1
    have lp := lt_of_get H.top
    have row2 := H.row.fr f2 (by simp)
    simp [ldS_at top1, ldA_at e1, fill_item, fill_one]
    rw [show its.length = (its.map Item.enc).length by simp]
    refine append_row elem150 row2 seg (by simp [Item.enc]) (by simp; omega) (by simp; omega) ?_
    intro h3 b' cap' r f hb
    have hb' : b' = b ∨ h.size ≤ b' := by
      have := f2.size
      rcases hb with hb | hb
      · exact .inl (by simpa using hb.symm)
      · right; omega
    have lb := H.row.lt
    simp
    refine push_fin (x := ⟨k, t, ck⟩) ok ((hL.fr f2 (by simp)).fr f (by simpa using hp)) (fun y hy => ?_) hp2 (f.get top2 (by simpa using H.ne)) r (by have := H.ne; omega) hlen hck fun h' H' f' => hR h' b' cap' H' ?_ (by simpa [eq_comm] using hb')
    · have := lt_of_get (hL y hy); have := hp y hy; simp at this; omega
    · have g : Fr h h3 [p, b] := f2.trans f (fun c _ hc => by simp at hc) (fun c _ hc => by simp at hc ⊢; exact .inr hc)
      exact g.trans f' (fun _ _ hc => hc) (fun c hc hm => by simp at hm ⊢; omega)
end Go.Proofs.YtkiakofohkecaaaDoor
