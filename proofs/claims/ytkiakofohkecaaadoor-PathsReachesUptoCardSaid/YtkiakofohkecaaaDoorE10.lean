/- The reference's sight and next. No condition but that the lists are read in memory as told. -/
import Derived.Test.YtkiakofohkecaaaDoorE9
namespace Go.Proofs.YtkiakofohkecaaaDoor
open Go Go.Fw

theorem elem98 : ElemOk Tryd.prog 98 105 2 16 := .of (z := .agg #[.int .i64 0, .int .i64 0]) (by kernel_rfl) (by kernel_rfl) (by kernel_rfl)
theorem fill_seen (k t : Int) : (fillS [(0, 1), (1, 1)] #[(.int .i64 0), (.int .i64 0)] [(0, .int .i64 k), (1, .int .i64 t)]).map Value.agg = some (.agg #[.int .i64 k, .int .i64 t]) := by kernel_rfl
theorem fill_seen1 (k t : Int) : fillR 2 #[(.int .i64 0), (.int .i64 0)] [(0, .agg #[.int .i64 k, .int .i64 t])] = some #[.int .i64 k, .int .i64 t] := by kernel_rfl

/-- The nodes in sight, with one of them at that sum or less. -/
def sightL (l : List Seen) (id sum : Int) : List Seen :=
  match l.findIdx? (fun s => s.id == id) with
  | some i => if sum < ((l[i]?).map (·.sum)).getD 0 then l.set i ⟨id, sum⟩ else l
  | none => l ++ [⟨id, sum⟩]

theorem findIdx_none {l : List Seen} {t : Int} (h : ∀ s ∈ l, s.id ≠ t) : l.findIdx? (fun s => s.id == t) = none := by
  rw [List.findIdx?_eq_none_iff]
  intro s hs
  simpa using h s hs
theorem findIdx_at {l : List Seen} {t : Int} {i : Nat} (hi : i < l.length) (hno : ∀ s ∈ l.take i, s.id ≠ t) (he : l[i].id = t) : l.findIdx? (fun s => s.id == t) = some i := by
  rw [List.findIdx?_eq_some_iff_getElem]
  refine ⟨hi, by simpa using he, fun j hj => ?_⟩
  have := hno l[j] (by rw [List.mem_take_iff_getElem]; exact ⟨j, by omega, rfl⟩)
  simpa using this

theorem sight_spec {h : Hp} {v : Value} {l : List Seen} {bl : List Nat} (O : OwnS h 105 2 v (l.map Seen.enc) bl) (nd sum : Int) (hn : l.length ≤ 8589934592) {R : Value → Hp → Prop}
    (hR : ∀ h' v' bl', OwnS h' 105 2 v' ((sightL l nd sum).map Seen.enc) bl' → Fr h h' bl → (∀ b ∈ bl', b ∈ bl ∨ h.size ≤ b) → R v' h') : CallsH Tryd.prog 74 #[v, .int .i64 nd, .int .i64 sum] h R := by
  have r := O.rowv
  refine f74.ok ?_
  unfold f74.T f74.L1
  refine ⟨NInv l nd h, muI l.length, ⟨0, rfl, by omega, by simp, rfl⟩, ?_⟩
  intro t8 t9 t10 t11 t14 t15 t16 t17 t18 t19 t20 t21 t22 t23 t24 t25 t26 t27 t28 t29 t30 t31 t32 t33 t6 t12 t13 t7 h1
  rintro ⟨i, hl, hi, hno, rfl⟩
  obtain rfl : t7 = .int .i64 i := by simpa using hl
  simp only [seen_len r, bin_lss, bnd_some, condT_bool]
  by_cases hlt : i < l.length
  · have hdec : decide ((i : Int) < (l.length : Int)) = true := by simp; omega
    have w1 : IntKind.i64.wrap ((i : Int) + 1) = ((i + 1 : Nat) : Int) := by rw [i64_id (by omega) (by omega)]; omega
    by_cases he : l[i].id = nd
    · have hf := findIdx_at hlt hno he
      have hsum : ((l[i]?).map (·.sum)).getD 0 = l[i].sum := by simp [hlt]
      rcases O with ⟨rfl, hx, rfl⟩ | ⟨b, cap, rfl, ro, rfl⟩
      · simp at hx; subst hx; simp at hlt
      · have ei : (l.map Seen.enc)[i]? = some (l[i]).enc := by simp [hlt]
        have r0 : ldS h1 (.pointer (some ⟨b, i * 2, none⟩)) = some (.int .i64 nd) := by rw [ro.one0 ei (by omega), ← he]; rfl
        have r1 : ldS h1 (.pointer (some ⟨b, i * 2 + 1, none⟩)) = some (.int .i64 l[i].sum) := by rw [ro.one ei (by omega)]; rfl
        by_cases hs : sum < l[i].sum
        · obtain ⟨h2, s2, ro2, f2, _⟩ := ro.put (i := i) (o := 1) (vs := [.int .i64 sum]) (v := .int .i64 sum) ei (by simp) (by simp) (by simp)
          have s2' : stE 1 h1 (.pointer (some ⟨b, i * 2 + 1, none⟩)) (.int .i64 sum) = some h2 := s2
          have e : sightL l nd sum = l.set i ⟨nd, sum⟩ := by simp only [sightL, hf, hsum, hs, if_true]
          have key := hR h2 (.slice (some ⟨b, 0, none⟩) (l.map Seen.enc).length cap) [b] (.inr ⟨b, cap, by rw [e]; simp, by rw [e, List.map_set]; simpa [Seen.enc, he] using ro2, rfl⟩) f2 (by simp)
          simpa [f74.J1, hdec, hlt, r0, r1, hs, s2'] using key
        · have e : sightL l nd sum = l := by simp only [sightL, hf, hsum, hs, if_false]
          have key := hR h1 (.slice (some ⟨b, 0, none⟩) (l.map Seen.enc).length cap) [b] (.inr ⟨b, cap, by rw [e], by rw [e]; exact ro, rfl⟩) (Fr.refl _ _) (by simp)
          simpa [f74.J1, hdec, hlt, r0, r1, hs] using key
    · obtain ⟨b, o, e, r0, _⟩ := seen_read r hlt
      have inv := NInv.next (h := h1) hlt hno he
      have mu := muI_lt h1 h1 hlt
      simp only [hdec, if_true, e, bnd_some, fldE_ptr, Nat.add_zero, r0, bin_eql, he, decide_false, condT_bool, Bool.false_eq_true, if_false, bin_add, w1]
      exact ⟨inv, mu⟩
  · have hdec : decide ((i : Int) < (l.length : Int)) = false := by simp; omega
    obtain rfl : i = l.length := by omega
    rw [List.take_length] at hno
    have hf := findIdx_none hno
    have e : sightL l nd sum = l ++ [⟨nd, sum⟩] := by simp only [sightL, hf]
    simp only [hdec, Bool.false_eq_true, if_false, fill_seen, bnd_some, fill_seen1, nw_eq]
    have f2 := Fr.push h1 (.cells #[.int .i64 nd, .int .i64 sum] 105 (0, 0)) []
    have e2 := get_new h1 (.cells #[.int .i64 nd, .int .i64 sum] 105 (0, 0))
    have seg : Seg (h1.push (.cells #[.int .i64 nd, .int .i64 sum] 105 (0, 0))) 2 h1.size 0 [(⟨nd, sum⟩ : Seen).enc] := by
      refine ⟨_, _, _, e2, by simp, by simp [Seen.enc], fun a j y hi hj => ?_⟩
      obtain rfl : a = 0 := by
        have := (List.getElem?_eq_some_iff.1 hi).1
        simpa using this
      obtain rfl : (⟨nd, sum⟩ : Seen).enc = y := by simpa using hi
      simp [Seen.enc]
    refine own_app (ys := [(⟨nd, sum⟩ : Seen).enc]) (cs := 1) elem98 (O.fr f2 (by simp)) seg (by simp [Seen.enc]) (by simp; omega) (by simp; omega) fun h3 v' bl' O3 f3 n3 => ?_
    refine hR h3 v' bl' (by rw [e]; simpa using O3) ((f2.mono (by simp)).then f3) fun b hb => (n3 b hb).imp id (fun h => by simp at h; omega)
end Go.Proofs.YtkiakofohkecaaaDoor
