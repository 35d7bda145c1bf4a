/- The framework, part 16: slices of one's own: grown, cut. No condition. -/
import Derived.Test.YtkiakofohkecaaaDoorFw15
namespace Go.Fw
open Go

/-- v is a slice of its own of the records xs: nil, or the whole front of a block; bl: that block, if there is one. -/
def OwnS (h : Hp) (E k : Nat) (v : Value) (xs : List (List Value)) (bl : List Nat) : Prop :=
  (v = .slice none 0 0 ∧ xs = [] ∧ bl = []) ∨ ∃ b cap, v = .slice (some ⟨b, 0, none⟩) xs.length cap ∧ RowAt h E k b cap xs ∧ bl = [b]

theorem OwnS.nil (h : Hp) (E k : Nat) : OwnS h E k (.slice none 0 0) [] [] := .inl ⟨rfl, rfl, rfl⟩
theorem OwnS.fr {h h' : Hp} {E k : Nat} {v : Value} {xs : List (List Value)} {bl S : List Nat} (o : OwnS h E k v xs bl) (f : Fr h h' S) (hS : ∀ b ∈ bl, b ∉ S) : OwnS h' E k v xs bl := by
  rcases o with h | ⟨b, cap, hv, r, rfl⟩
  · exact .inl h
  · exact .inr ⟨b, cap, hv, r.fr f (hS b (by simp)), rfl⟩
theorem OwnS.lt {h : Hp} {E k : Nat} {v : Value} {xs : List (List Value)} {bl : List Nat} (o : OwnS h E k v xs bl) : ∀ b ∈ bl, b < h.size := by
  rcases o with ⟨_, _, rfl⟩ | ⟨b, cap, hv, r, rfl⟩
  · simp
  · intro c hc
    obtain rfl : c = b := by simpa using hc
    exact r.lt
theorem OwnS.lenE {h : Hp} {E k : Nat} {v : Value} {xs : List (List Value)} {bl : List Nat} (o : OwnS h E k v xs bl) : lenE v = some (.int .i64 xs.length) := by
  rcases o with ⟨rfl, rfl, rfl⟩ | ⟨b, cap, rfl, r, rfl⟩ <;> simp
theorem OwnS.one {h : Hp} {E k : Nat} {v : Value} {xs : List (List Value)} {bl : List Nat} (o : OwnS h E k v xs bl) : v.oneCell' = true := by
  rcases o with ⟨rfl, rfl, rfl⟩ | ⟨b, cap, rfl, r, rfl⟩ <;> rfl
theorem OwnS.cells {h : Hp} {E k : Nat} {v : Value} {xs : List (List Value)} {bl : List Nat} (o : OwnS h E k v xs bl) : v.cells = #[v] := by
  rcases o with ⟨rfl, rfl, rfl⟩ | ⟨b, cap, rfl, r, rfl⟩ <;> rfl
theorem OwnS.rowv {h : Hp} {E k : Nat} {v : Value} {xs : List (List Value)} {bl : List Nat} (o : OwnS h E k v xs bl) : RowV h k v xs := by
  rcases o with ⟨rfl, rfl, rfl⟩ | ⟨b, cap, rfl, r, rfl⟩
  · exact ⟨none, 0, rfl, fun h => absurd rfl h⟩
  · exact ⟨_, cap, rfl, fun _ => ⟨b, 0, rfl, r.seg⟩⟩

theorem RowV.fr {h h' : Hp} {k : Nat} {v : Value} {xs : List (List Value)} (r : RowV h k v xs) (f : Fr h h' []) : RowV h' k v xs := by
  obtain ⟨a, cap, hv, hx⟩ := r
  exact ⟨a, cap, hv, fun hne => let ⟨b, o, ha, s⟩ := hx hne; ⟨b, o, ha, s.fr f (by simp)⟩⟩

theorem own_app {P : Program} {t ty E k bytes : Nat} (eo : ElemOk P t E k bytes) {h : Hp} {v : Value} {bs os cs : Nat} {xs ys : List (List Value)} {bl : List Nat} (o : OwnS h E k v xs bl) (s : Seg h k bs os ys) (y1 : ∀ x ∈ ys, ∀ u ∈ x, u.oneCell' = true)
    (hB : (xs.length + ys.length) * bytes ≤ 140737488355328) (hM : xs.length + ys.length ≤ 1099511627776) {K : Value → Hp → Prop}
    (k' : ∀ h' v' bl', OwnS h' E k v' (xs ++ ys) bl' → Fr h h' bl → (∀ b ∈ bl', b ∈ bl ∨ h.size ≤ b) → K v' h') :
    efS P (Builtin.append_ #[t, t] ty #[v, .slice (some ⟨bs, os, none⟩) ys.length cs]) h K := by
  rcases o with ⟨rfl, rfl, rfl⟩ | ⟨b, cap, rfl, r, rfl⟩
  · by_cases hy : ys = []
    · subst hy
      exact append_none eo (by simp) (k' h _ _ (.nil h E k) (Fr.refl _ _) (by simp))
    · refine append_nil eo s y1 hy (by simpa using hB) (by simp at hM; omega) fun h' b cap r f hb => ?_
      refine k' h' _ [b] (.inr ⟨b, cap, by simp, by simpa using r, rfl⟩) f fun c hc => ?_
      obtain rfl : c = b := by simpa using hc
      exact .inr (hb.resolve_left (by simp))
  · refine append_row eo r s y1 hB (by omega) fun h' b' cap' r' f hb => ?_
    refine k' h' _ [b'] (.inr ⟨b', cap', rfl, r', rfl⟩) f fun c hc => ?_
    obtain rfl : c = b' := by simpa using hc
    rcases hb with hb | hb
    · exact .inl (by simpa using hb.symm)
    · exact .inr hb

/-- The front of an own slice. -/
theorem OwnS.front {h : Hp} {E k : Nat} {v : Value} {xs : List (List Value)} {bl : List Nat} (o : OwnS h E k v xs bl) {n : Nat} (hn : n < xs.length) :
    ∃ b cap, bl = [b] ∧ sliceE k v none (some (.int .i64 n)) = some (.slice (some ⟨b, 0, none⟩) (xs.take n).length cap) ∧ Seg h k b 0 (xs.take n) := by
  rcases o with ⟨rfl, rfl, rfl⟩ | ⟨b, cap, rfl, r, rfl⟩
  · simp at hn
  · have hl := r.len
    refine ⟨b, cap, rfl, ?_, by simpa using r.seg.sub (l := 0) (m := n) (by omega)⟩
    rw [slice_to k b 0 _ cap .i64 n (by omega)]
    simp; omega
/-- What lies behind the place n. -/
theorem OwnS.behind {h : Hp} {E k : Nat} {v : Value} {xs : List (List Value)} {bl : List Nat} (o : OwnS h E k v xs bl) {n : Nat} (hn : n < xs.length) :
    ∃ b o cap, bl = [b] ∧ sliceE k v (some (.int .i64 ((n + 1 : Nat) : Int))) none = some (.slice (some ⟨b, o, none⟩) (xs.drop (n + 1)).length cap) ∧ Seg h k b o (xs.drop (n + 1)) := by
  rcases o with ⟨rfl, rfl, rfl⟩ | ⟨b, cap, rfl, r, rfl⟩
  · simp at hn
  · have hl := r.len
    by_cases hc : n + 1 < cap
    · refine ⟨b, (n + 1) * k, cap - (n + 1), rfl, ?_, ?_⟩
      · rw [slice_from k b 0 _ cap .i64 (n + 1) (by omega) hc]
        simp
      · have := r.seg.sub (l := n + 1) (m := xs.length - (n + 1)) (by omega)
        rw [List.take_of_length_le (by simp)] at this
        simpa using this
    · have e1 : cap = n + 1 := by omega
      have e2 : xs.drop (n + 1) = [] := List.drop_eq_nil_of_le (by omega)
      rw [e2]
      have hx : xs.length = n + 1 := by omega
      refine ⟨b, 0, 0, rfl, ?_, ?_⟩
      · have hb1 : bndE (n + 1) (.int .i64 ((n + 1 : Nat) : Int)) = some (n + 1) := bndE_nat .i64 (Nat.le_refl _)
        simp only [sliceE, hiE, loE, Option.bind_some, e1, hx, hb1]
        simp
      · obtain ⟨c, E', f, hb, _⟩ := r.seg
        exact ⟨c, E', f, hb, by simp, by simp, fun i j x hi => by simp at hi⟩
end Go.Fw
