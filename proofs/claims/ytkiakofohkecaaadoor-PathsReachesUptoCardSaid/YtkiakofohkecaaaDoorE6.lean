/- Pop, the whole of it. No condition but that the heap's struct is as told. -/
import Derived.Test.YtkiakofohkecaaaDoorE5
namespace Go.Proofs.YtkiakofohkecaaaDoor
open Go Go.Fw

def popped (lt : Item → Item → Bool) (its : List Item) : List Item := siftDown lt ((swp its 0 (its.length - 1)).take (its.length - 1)) 0
theorem fill_zero : (fillS [(0, 2), (2, 1)] #[(.int .i64 0), (.int .i64 0), (.int .i64 0)] []).map Value.agg = some (.agg #[.int .i64 0, .int .i64 0, .int .i64 0]) := by kernel_rfl

theorem pop_spec {h : Hp} {p : Nat} {less : Value} {its : List Item} {ck : Int} {bl : List Nat} {L : List (Nat × Obj)} {lt : Item → Item → Bool} (ok : LessOk L less lt) (hL : Has h L) (hp : ∀ y ∈ L, y.1 ∉ bl) (hp2 : ∀ y ∈ L, y.1 ≠ p)
    (H : HeapE h p less its ck bl) (hlen : its.length < 1099511627776) {R : Value → Hp → Prop}
    (h0 : ∀ h', its = [] → Fr h h' [] → R (.tuple #[.agg #[.int .i64 0, .int .i64 0], .bool false]) h')
    (hR : ∀ h' b cap x rest, its = x :: rest → bl = [b] → HeapAt h' p less (popped lt its) ck b cap → Fr h h' [p, b] → R (.tuple #[.agg #[.int .i64 x.key, .int .i64 x.tag], .bool true]) h') :
    CallsH Tryd.prog 70 #[.pointer (some ⟨p, 0, none⟩)] h R := by
  refine f70.ok ?_
  unfold f70.T
  simp only [nw_eq, ptr0_eq]
  have f2 : Fr h ((h.push (.cells #[.int .i64 0, .int .i64 0] 134 (0, 0))).push (.cells #[.int .i64 0, .int .i64 0] 134 (0, 0))) [] := (Fr.push h _ []).new _
  have g2 : ((h.push (.cells #[.int .i64 0, .int .i64 0] 134 (0, 0))).push (.cells #[.int .i64 0, .int .i64 0] 134 (0, 0)))[h.size]? = some (.cells #[.int .i64 0, .int .i64 0] 134 (0, 0)) := get_push (get_new h _)
  have g4 := get_new (h.push (.cells #[.int .i64 0, .int .i64 0] 134 (0, 0))) (.cells #[.int .i64 0, .int .i64 0] 134 (0, 0))
  generalize (h.push (.cells #[.int .i64 0, .int .i64 0] 134 (0, 0))).size = q4 at *
  generalize (h.push (.cells #[.int .i64 0, .int .i64 0] 134 (0, 0))).push (.cells #[.int .i64 0, .int .i64 0] 134 (0, 0)) = h2 at *
  rcases H with ⟨rfl, rfl, top⟩ | ⟨b, cap, rfl, H⟩
  · refine len_spec (.inl ⟨rfl, rfl, f2.get top (by simp)⟩) ?_
    have e1 : stE 2 h2 (.pointer (some ⟨h.size, 0, none⟩)) (.agg #[.int .i64 0, .int .i64 0]) = some (h2.setIfInBounds h.size (.cells #[.int .i64 0, .int .i64 0] 134 (0, 0))) := by
      rw [stE_at _ g2]; simp [splice]
    have g2' := get_set (o' := .cells #[.int .i64 0, .int .i64 0] 134 (0, 0)) g2
    simp [ldA_at g4, e1, ldA_at g2']
    exact h0 _ rfl (f2.set_new (Nat.le_refl _) _)
  · have H2 : HeapAt h2 p less its ck b cap := ⟨f2.get H.top (by simp), H.row.fr f2 (by simp), H.ne⟩
    refine len_spec (.inr ⟨b, cap, rfl, H2⟩) ?_
    cases hi : its with
    | nil =>
      subst hi
      have e1 : stE 2 h2 (.pointer (some ⟨h.size, 0, none⟩)) (.agg #[.int .i64 0, .int .i64 0]) = some (h2.setIfInBounds h.size (.cells #[.int .i64 0, .int .i64 0] 134 (0, 0))) := by
        rw [stE_at _ g2]; simp [splice]
      have g2' := get_set (o' := .cells #[.int .i64 0, .int .i64 0] 134 (0, 0)) g2
      simp [ldA_at g4, e1, ldA_at g2']
      exact h0 _ rfl (f2.set_new (Nat.le_refl _) _)
    | cons x rest =>
      rw [← hi]
      have hn : its.length = rest.length + 1 := by rw [hi]; simp
      have lp := lt_of_get H.top
      have lb := H.row.lt
      have hz : decide ((its.length : Int) = 0) = false := decide_eq_false (by omega)
      have w1 : IntKind.i64.wrap ((its.length : Int) - 1) = ((its.length - 1 : Nat) : Int) := by rw [wrap_id (by omega) (by omega)]; omega
      have ez : (its.map Item.enc)[0]? = some x.enc := by rw [hi]; simp
      have l0 := H2.row.part (o := 0) (n := 2) ez (by omega)
      have hpos : (0 : Int) < its.length := by omega
      simp only [bin_eql, bnd_some, condT_bool, hz, Bool.false_eq_true, if_false, nilE_ptr, fldE_ptr, ldS_at H2.top, List.getElem?_toArray, List.getElem?_cons_succ, List.getElem?_cons_zero, lenE_sl, bin_sub, w1, idxE_sl, Int.le_refl, true_and, hpos, if_true,
        Int.toNat_zero, Nat.zero_mul, Nat.zero_add, Nat.add_zero, l0, nw_eq, ptr0_eq, Item.enc, List.drop_zero, List.take_succ_cons, List.take_zero]
      have f5 := f2.new (.cells #[.int .i64 0, .int .i64 0] 134 (0, 0))
      have f25 := Fr.push h2 (.cells #[.int .i64 0, .int .i64 0] 134 (0, 0)) []
      have g6 := get_new h2 (.cells #[.int .i64 0, .int .i64 0] 134 (0, 0))
      have g2a := f25.get g2 (by simp)
      have H5 : HeapAt (h2.push (.cells #[.int .i64 0, .int .i64 0] 134 (0, 0))) p less its ck b cap := ⟨f25.get H2.top (by simp), H2.row.fr f25 (by simp), H.ne⟩
      have hsz := f2.size
      have l2 := lt_of_get g2
      generalize h2.size = q6 at *
      generalize h2.push (.cells #[.int .i64 0, .int .i64 0] 134 (0, 0)) = h5 at *
      have e6 : stE 2 h5 (.pointer (some ⟨q6, 0, none⟩)) (.agg #[.int .i64 x.key, .int .i64 x.tag]) = some (h5.setIfInBounds q6 (.cells #[.int .i64 x.key, .int .i64 x.tag] 134 (0, 0))) := by
        rw [stE_at _ g6]; simp [splice]
      have f6 := f5.set_new hsz (.cells #[.int .i64 x.key, .int .i64 x.tag] 134 (0, 0))
      have f56 : Fr h5 _ [q6] := Fr.set h5 q6 (.cells #[.int .i64 x.key, .int .i64 x.tag] 134 (0, 0)) (fun _ => by simp) (by rw [g6]; rfl)
      have g6' := get_set (o' := .cells #[.int .i64 x.key, .int .i64 x.tag] 134 (0, 0)) g6
      have g2b := f56.get g2a (by simp; omega)
      have H6 : HeapAt (h5.setIfInBounds q6 (.cells #[.int .i64 x.key, .int .i64 x.tag] 134 (0, 0))) p less its ck b cap := ⟨f56.get H5.top (by simp; omega), H5.row.fr f56 (by simp; omega), H.ne⟩
      have e6' : stE 2 h5 (.pointer (some ⟨q6, 0, none⟩)) (.agg (List.toArray [.int .i64 x.key, .int .i64 x.tag])) = some (h5.setIfInBounds q6 (.cells #[.int .i64 x.key, .int .i64 x.tag] 134 (0, 0))) := e6
      simp only [e6', bnd_some]
      generalize h5.setIfInBounds q6 (.cells #[.int .i64 x.key, .int .i64 x.tag] 134 (0, 0)) = h6 at *
      refine (swap_spec H6 (i := 0) (j := its.length - 1) (by omega) (by omega)).mono ?_
      rintro v h7 ⟨H7, f7, _⟩
      have hsl : (swp its 0 (its.length - 1)).length = its.length := swp_len _ _ _
      have hlt7 : its.length - 1 < ((swp its 0 (its.length - 1)).map Item.enc).length := by simp [swp_len]; omega
      obtain ⟨h8, s8, r8, f8, z8⟩ := H7.row.set (i := its.length - 1) (vs := [.int .i64 0, .int .i64 0, .int .i64 0]) hlt7 rfl (by simp)
      have top8 := f8.get H7.top (by simp [H7.ne])
      have hcap : its.length - 1 ≤ cap := by have := H.row.len; simp at this; omega
      have hi1 : (0 : Int) ≤ ((its.length - 1 : Nat) : Int) ∧ ((its.length - 1 : Nat) : Int) < ((swp its 0 (its.length - 1)).length : Int) := by omega
      have e9 : stE 1 h8 (.pointer (some ⟨p, 1, none⟩)) (.slice (some ⟨b, 0, none⟩) (its.length - 1) cap) = some (h8.setIfInBounds p (.cells #[less, .slice (some ⟨b, 0, none⟩) (its.length - 1) cap, .int .i64 ck] 152 (0, 0))) := by
        rw [stE_at _ top8]; simp [splice]
      have s8' : stE 3 h7 (.pointer (some ⟨b, (its.length - 1) * 3, none⟩)) (.agg #[.int .i64 0, .int .i64 0, .int .i64 0]) = some h8 := s8
      simp only [nilE_ptr, bnd_some, fldE_ptr, ldS_at H7.top, List.getElem?_toArray, List.getElem?_cons_succ, List.getElem?_cons_zero, Nat.zero_add, fill_zero, idxE_sl, hi1, and_self, if_true, Int.toNat_natCast, s8', ldS_at top8, slice_to 3 b 0 _ cap .i64 _ hcap, e9]
      have f9 : Fr h8 _ [p, b] := Fr.set h8 p (.cells #[less, .slice (some ⟨b, 0, none⟩) (its.length - 1) cap, .int .i64 ck] 152 (0, 0)) (fun _ => by simp) (by rw [top8]; rfl)
      have f9' : Fr h8 _ [p] := Fr.set h8 p (.cells #[less, .slice (some ⟨b, 0, none⟩) (its.length - 1) cap, .int .i64 ck] 152 (0, 0)) (fun _ => by simp) (by rw [top8]; rfl)
      have top9 := get_set (o' := .cells #[less, .slice (some ⟨b, 0, none⟩) (its.length - 1) cap, .int .i64 ck] 152 (0, 0)) top8
      generalize h8.setIfInBounds p (.cells #[less, .slice (some ⟨b, 0, none⟩) (its.length - 1) cap, .int .i64 ck] 152 (0, 0)) = h9 at *
      have hl9 : ((swp its 0 (its.length - 1)).take (its.length - 1)).length = its.length - 1 := by simp [swp_len]
      have H9 : HeapAt h9 p less ((swp its 0 (its.length - 1)).take (its.length - 1)) ck b cap := by
        refine ⟨by rw [hl9]; exact top9, ?_, H.ne⟩
        have := (r8.fr f9' (by simp [H.ne.symm])).take (its.length - 1)
        rwa [List.take_set_of_le (Nat.le_refl _), ← List.map_take] at this
      have fin := down_L1 (R := R) (x := .int .i64 0) (y := .int .i64 0) (q2 := h.size) (q6 := q6) (k := x.key) (t := x.tag) ok ((((hL.fr f6 (by simp)).fr f7 (by simpa using hp)).fr f8 (by simpa using hp)).fr f9' (by simpa using hp2)) (by simpa using hp) H9 (by rw [hl9]; omega)
        (f9'.get (f8.get (f7.get g2b (by simp; omega)) (by simp; omega)) (by simp; omega)) (f9'.get (f8.get (f7.get g6' (by simp; omega)) (by simp; omega)) (by simp; omega)) (by omega) (by omega) (by omega) ?_
      · rw [hl9] at fin
        exact fin
      · intro h' H' f'
        refine hR h' b cap x rest hi rfl H' ?_
        have g : Fr h h9 [p, b] := ((((f6.mono (by simp)).then (f7.mono (fun c _ hm => by simp at hm ⊢; exact .inr hm))).then (f8.mono (fun c _ hm => by simp at hm ⊢; exact .inr hm)))).then f9
        exact g.trans f' (fun _ _ hc => hc) (fun c hc hm => by simp at hm ⊢; omega)
end Go.Proofs.YtkiakofohkecaaaDoor
