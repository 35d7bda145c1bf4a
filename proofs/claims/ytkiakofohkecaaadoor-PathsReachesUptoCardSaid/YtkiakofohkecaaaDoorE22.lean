/- What the rows answer, with the block where it lies; what an arc counts; the reference's search as it lies in memory. No condition but that the memory is as told. -/
import Derived.Test.YtkiakofohkecaaaDoorE21
namespace Go.Proofs.YtkiakofohkecaaaDoor
open Go Go.Fw

theorem rowv_low {h0 h : Hp} {k : Nat} {v : Value} {xs : List (List Value)} (r : RowV h0 k v xs) (f : Fr h0 h []) (n : Nat) : ∃ B, RowB h k v xs B ∧ ∀ b ∈ B, b < h0.size ∨ n ≤ b := by
  obtain ⟨a, c, e, hx⟩ := r
  by_cases hne : xs = []
  · exact ⟨[], ⟨a, c, e, fun h => absurd hne h⟩, by simp⟩
  · obtain ⟨b, o, ha, s⟩ := hx hne
    exact ⟨[b], ⟨a, c, e, fun _ => ⟨b, o, ha, by simp, s.fr f (by simp)⟩⟩, fun b' hb => by simp at hb; subst hb; exact .inl s.lt⟩
theorem of_specB {h0 h : Hp} {v : Value} {rows : List NRow} {tail : Bool} (net : NetOk h0 v rows) (f0 : Fr h0 h []) (id : Int) {R : Value → Hp → Prop} (hR : ∀ h' v', (∃ B, RowB h' 3 v' ((ofL rows tail id).1.map Arc.enc) B ∧ ∀ b ∈ B, b < h0.size ∨ h.size ≤ b) → Fr h h' [] → R (.tuple #[v', .int .i64 (ofL rows tail id).2]) h') :
    CallsH Tryd.prog 32 #[.agg #[v, .bool tail], .int .i64 id] h R := by
  have o := net.fr f0
  have nilr : ∀ hh : Hp, ∃ B, RowB hh 3 (.slice none 0 0) (([] : List Arc).map Arc.enc) B ∧ ∀ b ∈ B, b < h0.size ∨ h.size ≤ b := fun hh => ⟨[], ⟨none, 0, rfl, fun h => absurd rfl h⟩, by simp⟩
  refine f32.ok ?_
  unfold f32.T
  simp only [nw_eq, cells_agg, ptr0_eq]
  have f1 := Fr.push h (.cells #[v, .bool tail] 26 (0, 0)) []
  have g1 := get_new h (.cells #[v, .bool tail] 26 (0, 0))
  have fs1 := f1.size
  generalize h.push (.cells #[v, .bool tail] 26 (0, 0)) = hb at *
  generalize h.size = q at *
  have o1 := o.fr f1
  have hlen : lenE v = some (.int .i64 rows.length) := by obtain ⟨a, cap, rfl, _⟩ := o.rows; simp
  have hbd := o.bound
  unfold f32.L1
  refine ⟨RInv rows id hb, muI rows.length, ⟨0, rfl, by omega, by simp, rfl⟩, ?_⟩
  intro t7 t8 t9 t10 t11 t14 t15 t16 t17 t18 t19 t20 t21 t22 t23 t24 t25 t26 t27 t28 t29 t30 t31 t32 t33 t34 t35 t36 t37 t38 t39 t40 t4 t5 t12 t13 t6 h2
  rintro ⟨i, hl, hi, hno, rfl⟩
  obtain rfl : t6 = .int .i64 i := by simpa using hl
  simp only [fldE_ptr, bnd_some, ldS_at g1, Nat.zero_add, List.getElem?_toArray, List.getElem?_cons_succ, List.getElem?_cons_zero, hlen, bin_lss, condT_bool]
  by_cases hlt : i < rows.length
  · have hdec : decide ((i : Int) < (rows.length : Int)) = true := by simp; omega
    have w1 : IntKind.i64.wrap ((i : Int) + 1) = ((i + 1 : Nat) : Int) := by rw [i64_id (by omega) (by omega)]; omega
    obtain ⟨eb, eo, ee, _, er⟩ := o1.rows.get (i := i) (x := (rows[i]).enc) (by simp [hlt]) .i64
    have er' := (er h2 (Fr.refl _ _)).1
    have r0 : ldS h2 (.pointer (some ⟨eb, eo + 0, none⟩)) = some (.int .i64 rows[i].id) := er' 0 (by omega)
    have r1 : ldS h2 (.pointer (some ⟨eb, eo + 1, none⟩)) = some rows[i].v := er' 1 (by omega)
    have r2 : ldS h2 (.pointer (some ⟨eb, eo + 2, none⟩)) = some (.int .i64 rows[i].code) := er' 2 (by omega)
    by_cases he : rows[i].id = id
    · have hf := find_at hlt hno he
      by_cases hc : rows[i].code = 0
      · have e : ofL rows tail id = (rows[i].arcs, 0) := by simp only [ofL, hf, hc, if_true]
        rw [e] at hR
        have := hR h2 rows[i].v (rowv_low (net.arcs _ (List.getElem_mem hlt)) (f0.then f1) q) f1
        simp only [hdec, if_true, ee, bnd_some, fldE_ptr, r0, bin_eql, he, decide_true, condT_bool, r2, bin_neq, hc, ne_eq, not_true_eq_false, decide_false, Bool.false_eq_true, if_false, r1]
        exact this
      · have e : ofL rows tail id = ([], rows[i].code) := by simp only [ofL, hf, hc, if_false]
        rw [e] at hR
        have := hR h2 (.slice none 0 0) (nilr h2) f1
        simp only [hdec, if_true, ee, bnd_some, fldE_ptr, r0, bin_eql, he, decide_true, condT_bool, r2, bin_neq, hc, ne_eq, not_false_eq_true]
        exact this
    · have inv := RInv.next (h := h2) hlt hno he
      have mu := muI_lt h2 h2 hlt
      simp only [hdec, if_true, ee, bnd_some, fldE_ptr, r0, bin_eql, he, decide_false, condT_bool, Bool.false_eq_true, if_false, bin_add, w1]
      exact ⟨inv, mu⟩
  · have hdec : decide ((i : Int) < (rows.length : Int)) = false := by simp; omega
    obtain rfl : i = rows.length := by omega
    rw [List.take_length] at hno
    have hf : rows.find? (fun s => s.id == id) = none := List.find?_eq_none.2 fun s hs => by simpa using hno s hs
    simp only [hdec, Bool.false_eq_true, if_false]
    cases tail
    · have e : ofL rows false id = ([], 0) := by simp [ofL, hf]
      rw [e] at hR
      simp only [Bool.false_eq_true, if_false]
      exact hR h2 (.slice none 0 0) (nilr h2) f1
    · have e : ofL rows true id = ([⟨id, IntKind.i64.wrap (id + 1), 1⟩], 0) := by simp [ofL, hf]
      rw [e] at hR
      simp only [if_true, bin_add, bnd_some, fill_arc, fill_arc1, nw_eq]
      have f2 := Fr.push h2 (.cells #[.int .i64 id, .int .i64 (IntKind.i64.wrap (id + 1)), .int .i64 1] 62 (0, 0)) []
      have e2 := get_new h2 (.cells #[.int .i64 id, .int .i64 (IntKind.i64.wrap (id + 1)), .int .i64 1] 62 (0, 0))
      refine hR _ (.slice (some ⟨h2.size, 0, none⟩) 1 1) ⟨[h2.size], ⟨_, 1, rfl, fun _ => ⟨h2.size, 0, rfl, by simp, _, _, _, e2, by simp, by simp [Arc.enc], fun a j y hi hj => ?_⟩⟩, by simp; omega⟩ (f1.then f2)
      obtain rfl : a = 0 := by
        have := (List.getElem?_eq_some_iff.1 hi).1
        simpa using this
      obtain rfl : (⟨id, IntKind.i64.wrap (id + 1), 1⟩ : Arc).enc = y := by simpa using hi
      simp [Arc.enc]

theorem weigh_spec {h : Hp} {a : Arc} {hops : Bool} {R : Value → Hp → Prop} (hR : ∀ h', Fr h h' [] → R (.int .i64 (wt hops a)) h') : CallsH Tryd.prog 72 #[.agg #[.int .i64 a.edge, .int .i64 a.to, .int .i64 a.weight], .bool hops] h R := by
  refine f72.ok ?_
  unfold f72.T
  simp only [nw_eq, cells_agg, ptr0_eq]
  have f1 := Fr.push h (.cells #[.int .i64 a.edge, .int .i64 a.to, .int .i64 a.weight] 62 (0, 0)) []
  have g1 := get_new h (.cells #[.int .i64 a.edge, .int .i64 a.to, .int .i64 a.weight] 62 (0, 0))
  generalize h.push (.cells #[.int .i64 a.edge, .int .i64 a.to, .int .i64 a.weight] 62 (0, 0)) = h1 at *
  have := hR h1 f1
  cases hops
  · simpa [wt, ldS_at g1] using this
  · simpa [wt] using this

structure WantI where
  aim : Bool
  to : Int
  most : Int
  hops : Bool
def srW (of : Int → List Arc × Int) (w : WantI) : Sr := ⟨of, fun id => w.aim && decide (id = w.to), fun s => decide (w.most < 0) || decide (s < w.most), w.hops⟩
/-- The search's variables: n is the first of their blocks. -/
structure RefB (hS : Hp) (n : Nat) (v : Value) (tail : Bool) (w : WantI) (at_ : Seen) (sv av : Value) (c : Int) (d : Bool) (h : Hp) : Prop where
  fr : Fr hS h []
  n0 : n = hS.size
  e3 : h[n]? = some (.cells #[v, .bool tail] 26 (0, 0))
  e5 : h[n + 1]? = some (.cells #[.bool w.aim, .int .i64 w.to, .int .i64 w.most, .bool w.hops] 103 (0, 0))
  e6 : h[n + 2]? = some (.cells #[.slice none 0 0, .slice none 0 0, .int .i64 0, .bool false] 100 (0, 0))
  e7 : h[n + 3]? = some (.cells #[sv, av, .int .i64 c, .bool d] 100 (0, 0))
  e9 : h[n + 4]? = some (.cells #[.int .i64 at_.id, .int .i64 at_.sum] 105 (0, 0))
/-- The lists. -/
structure RefL (n : Nat) (sv av : Value) (st : List Seen) (a : List Int) (bs ba : List Nat) (h : Hp) : Prop where
  os : OwnS h 105 2 sv (st.map Seen.enc) bs
  oa : OwnS h 2 1 av (ints a) ba
  new : (∀ b ∈ bs, n + 5 ≤ b) ∧ (∀ b ∈ ba, n + 5 ≤ b) ∧ ∀ b ∈ bs, b ∉ ba

section
variable {hS h h' : Hp} {n : Nat} {v sv av : Value} {tail : Bool} {w : WantI} {at_ : Seen} {st : List Seen} {a : List Int} {c : Int} {d : Bool} {bs ba S : List Nat}
theorem RefB.fr' (H : RefB hS n v tail w at_ sv av c d h) (f : Fr h h' S) (hS' : ∀ b ∈ S, n + 5 ≤ b) : RefB hS n v tail w at_ sv av c d h' := by
  have hn := H.n0
  have hlow : ∀ k, k < n + 5 → k ∉ S := fun k hk hm => by have := hS' k hm; omega
  exact ⟨H.fr.news f fun c hc => by have := hS' c hc; omega, hn, f.get H.e3 (hlow _ (by omega)), f.get H.e5 (hlow _ (by omega)), f.get H.e6 (hlow _ (by omega)), f.get H.e7 (hlow _ (by omega)), f.get H.e9 (hlow _ (by omega))⟩
theorem RefB.lt (H : RefB hS n v tail w at_ sv av c d h) : n + 5 ≤ h.size := by have := lt_of_get H.e9; omega
theorem RefL.fr' (H : RefL n sv av st a bs ba h) (f : Fr h h' S) (hS' : ∀ b ∈ S, b ∉ bs ∧ b ∉ ba) : RefL n sv av st a bs ba h' :=
  ⟨H.os.fr f fun b hb hm => (hS' b hm).1 hb, H.oa.fr f fun b hb hm => (hS' b hm).2 hb, H.new⟩
/-- The variable f is written. -/
theorem RefB.put7 (H : RefB hS n v tail w at_ sv av c d h) (sv' av' : Value) (c' : Int) (d' : Bool) :
    RefB hS n v tail w at_ sv' av' c' d' (h.setIfInBounds (n + 3) (.cells #[sv', av', .int .i64 c', .bool d'] 100 (0, 0))) ∧ Fr h (h.setIfInBounds (n + 3) (.cells #[sv', av', .int .i64 c', .bool d'] 100 (0, 0))) [n + 3] := by
  have f : Fr h (h.setIfInBounds (n + 3) (.cells #[sv', av', .int .i64 c', .bool d'] 100 (0, 0))) [n + 3] := Fr.set _ _ _ (fun _ => by simp) (by rw [H.e7]; rfl)
  have hn := H.n0
  exact ⟨⟨H.fr.news f fun c hc => by simp at hc; omega, hn, f.get H.e3 (by simp), f.get H.e5 (by simp), f.get H.e6 (by simp), get_set H.e7, f.get H.e9 (by simp)⟩, f⟩
theorem RefB.put9 (H : RefB hS n v tail w at_ sv av c d h) (at' : Seen) :
    RefB hS n v tail w at' sv av c d (h.setIfInBounds (n + 4) (.cells #[.int .i64 at'.id, .int .i64 at'.sum] 105 (0, 0))) ∧ Fr h (h.setIfInBounds (n + 4) (.cells #[.int .i64 at'.id, .int .i64 at'.sum] 105 (0, 0))) [n + 4] := by
  have f : Fr h (h.setIfInBounds (n + 4) (.cells #[.int .i64 at'.id, .int .i64 at'.sum] 105 (0, 0))) [n + 4] := Fr.set _ _ _ (fun _ => by simp) (by rw [H.e9]; rfl)
  have hn := H.n0
  exact ⟨⟨H.fr.news f fun c hc => by simp at hc; omega, hn, f.get H.e3 (by simp), f.get H.e5 (by simp), f.get H.e6 (by simp), f.get H.e7 (by simp), get_set H.e9⟩, f⟩
theorem RefL.low (H : RefL n sv av st a bs ba h) {k : Nat} (hk : k < n + 5) : k ∉ bs ∧ k ∉ ba := ⟨fun hb => by have := H.new.1 k hb; omega, fun hb => by have := H.new.2.1 k hb; omega⟩
/-- The answer is given. -/
theorem RefB.ret (H : RefB hS n v tail w at_ sv av c d h) (L : RefL n sv av st a bs ba h) {R : Value → Hp → Prop} (hR : ∀ h', RefL n sv av st a bs ba h' → Fr hS h' [] → R (.agg #[sv, av, .int .i64 c, .bool d]) h') :
    bnd (ldA 4 h (.pointer (some ⟨n + 3, 0, none⟩))) fun t111_1 =>
    bnd (stE 4 h (.pointer (some ⟨n + 2, 0, none⟩)) t111_1) fun h_13 =>
    bnd (ldA 4 h_13 (.pointer (some ⟨n + 2, 0, none⟩))) fun r6_1 => R r6_1 h_13 := by
  have l7 : ldA 4 h (.pointer (some ⟨n + 3, 0, none⟩)) = some (.agg #[sv, av, .int .i64 c, .bool d]) := by rw [ldA_at H.e7]; simp
  have s6 : stE 4 h (.pointer (some ⟨n + 2, 0, none⟩)) (.agg #[sv, av, .int .i64 c, .bool d]) = some (h.setIfInBounds (n + 2) (.cells #[sv, av, .int .i64 c, .bool d] 100 (0, 0))) := by
    rw [stE_at _ H.e6]; simp [splice, L.os.one, L.oa.one]
  have g6 := get_set (o' := .cells #[sv, av, .int .i64 c, .bool d] 100 (0, 0)) H.e6
  have f6 : Fr h (h.setIfInBounds (n + 2) (.cells #[sv, av, .int .i64 c, .bool d] 100 (0, 0))) [n + 2] := Fr.set _ _ _ (fun _ => by simp) (by rw [H.e6]; rfl)
  simp only [l7, bnd_some, s6]
  generalize h.setIfInBounds (n + 2) (.cells #[sv, av, .int .i64 c, .bool d] 100 (0, 0)) = h6 at *
  have l6 : ldA 4 h6 (.pointer (some ⟨n + 2, 0, none⟩)) = some (.agg #[sv, av, .int .i64 c, .bool d]) := by rw [ldA_at g6]; simp
  simp only [l6, bnd_some]
  have hn := H.n0
  exact hR h6 (L.fr' f6 fun b hb => by simp at hb; subst hb; exact L.low (by omega)) (H.fr.news f6 fun c hc => by simp at hc; omega)
/-- The answer is given with a code or a mark. -/
theorem RefB.st2 (H : RefB hS n v tail w at_ sv av c d h) (c' : Int) : stE 1 h (.pointer (some ⟨n + 3, 2, none⟩)) (.int .i64 c') = some (h.setIfInBounds (n + 3) (.cells #[sv, av, .int .i64 c', .bool d] 100 (0, 0))) := by
  rw [stE_at _ H.e7]; simp [splice]
theorem RefB.st3 (H : RefB hS n v tail w at_ sv av c d h) (d' : Bool) : stE 1 h (.pointer (some ⟨n + 3, 3, none⟩)) (.bool d') = some (h.setIfInBounds (n + 3) (.cells #[sv, av, .int .i64 c, .bool d'] 100 (0, 0))) := by
  rw [stE_at _ H.e7]; simp [splice]
theorem RefB.st0 (H : RefB hS n v tail w at_ sv av c d h) {u : Value} (hu : u.cells = #[u]) (h1 : u.oneCell' = true) : stE 1 h (.pointer (some ⟨n + 3, 0, none⟩)) u = some (h.setIfInBounds (n + 3) (.cells #[u, av, .int .i64 c, .bool d] 100 (0, 0))) := by
  rw [stE_at _ H.e7]; simp [splice, hu, h1]
theorem RefB.st1 (H : RefB hS n v tail w at_ sv av c d h) {u : Value} (hu : u.cells = #[u]) (h1 : u.oneCell' = true) : stE 1 h (.pointer (some ⟨n + 3, 1, none⟩)) u = some (h.setIfInBounds (n + 3) (.cells #[sv, u, .int .i64 c, .bool d] 100 (0, 0))) := by
  rw [stE_at _ H.e7]; simp [splice, hu, h1]
end
theorem rowB_low {h : Hp} {k : Nat} {v : Value} {xs : List (List Value)} {B : List Nat} (r : RowB h k v xs B) : ∃ B', RowB h k v xs B' ∧ ∀ b ∈ B', b ∈ B ∧ b < h.size := by
  obtain ⟨a, c, e, hx⟩ := r
  by_cases hne : xs = []
  · exact ⟨[], ⟨a, c, e, fun h => absurd hne h⟩, by simp⟩
  · obtain ⟨b, o, ha, hb, s⟩ := hx hne
    exact ⟨[b], ⟨a, c, e, fun _ => ⟨b, o, ha, by simp, s⟩⟩, fun b' hb' => by simp at hb'; subst hb'; exact ⟨hb, s.lt⟩⟩
theorem sight_len (l : List Seen) (id sum : Int) : (sightL l id sum).length ≤ l.length + 1 := by
  unfold sightL
  split
  · split <;> simp
  · simp
theorem sight_nodup {l : List Seen} (hd : (ids l).Nodup) (id sum : Int) : (ids (sightL l id sum)).Nodup := by
  rcases sight_cases hd id sum with ⟨_, e⟩ | ⟨_, h, _⟩
  · rw [e]; exact hd
  · exact h
end Go.Proofs.YtkiakofohkecaaaDoor
