/- What the rows answer, with the block where it lies; what an arc counts; the reference's search as it lies in memory. No condition but that the memory is as told. -/
import Derived.Test.YtkiakofohkecaaaDoorMd
import Derived.Laws.StructEq
import Derived.Test.YtkiakofohkecaaaDoorCards
import Derived.Test.YtkiakofohkecaaaDoorTie
import Derived.WalkKit
import Derived.ProofKit
import Derived.OpenShut
import Derived.Deep.DeepHandedRow
import Derived.Lib.LaidTab
import Derived.Test.YtkiakofohkecaaaDoorMb
namespace Go.Proofs.YtkiakofohkecaaaDoor
open Go Go.Fw

theorem rowv_low {h0 h : Hp} {k : Nat} {v : Value} {xs : List (List Value)} (r : RowV h0 k v xs) (f : Fr h0 h []) (n : Nat) : ∃ B, RowB h k v xs B ∧ ∀ b ∈ B, b < h0.size ∨ n ≤ b := by
  obtain ⟨a, c, e, hx⟩ := r
  by_cases hne : xs = []
  · exact ⟨[], ⟨a, c, e, fun h => absurd hne h⟩, by simp⟩
  · obtain ⟨b, o, ha, s⟩ := hx hne
    exact ⟨[b], ⟨a, c, e, fun _ => ⟨b, o, ha, by simp, s.fr f (by simp)⟩⟩, fun b' hb => by simp at hb; subst hb; exact .inl s.lt⟩
theorem of_specB {h0 h : Hp} {v : Value} {rows : List NRow} {tail : Bool} (net : NetOk h0 v rows) (f0 : Fr h0 h []) (id : Int) {R : Value → Hp → Prop} (hR : ∀ h' v', (∃ B, RowB h' 3 v' ((ofL rows tail id).1.map Arc.enc) B ∧ ∀ b ∈ B, b < h0.size ∨ h.size ≤ b) → Fr h h' [] → R (.tuple #[v', .int .i64 (ofL rows tail id).2]) h') :
    CallsH Tryd.prog 32 #[.agg #[v, .bool tail], .int .i64 id] h R := by
  have o := net.fr f0
  have nilr : ∀ hh : Hp, ∃ B, RowB hh 3 (.slice none 0 0) (([] : List Arc).map Arc.enc) B ∧ ∀ b ∈ B, b < h0.size ∨ h.size ≤ b := fun hh => ⟨[], ⟨none, 0, rfl, fun h => absurd rfl h⟩, by simp⟩
  refine f32.ok ?_
  unfold f32.T
  simp only [nw_eq, cells_agg, ptr0_eq]
  have f1 := Fr.push h (.cells #[v, .bool tail] 26 (0, 0)) []
  have g1 := get_new h (.cells #[v, .bool tail] 26 (0, 0))
  have fs1 := f1.size
  generalize h.push (.cells #[v, .bool tail] 26 (0, 0)) = hb at *
  generalize h.size = q at *
  have o1 := o.fr f1
  have hlen : lenE v = some (.int .i64 rows.length) := by obtain ⟨a, cap, rfl, _⟩ := o.rows; simp
  have hbd := o.bound
  unfold f32.L1
  refine ⟨RInv rows id hb, muI rows.length, ⟨0, rfl, by omega, by simp, rfl⟩, ?_⟩
  intro t7 t8 t9 t10 t11 t14 t15 t16 t17 t18 t19 t20 t21 t22 t23 t24 t25 t26 t27 t28 t29 t30 t31 t32 t33 t34 t35 t36 t37 t38 t39 t40 t4 t5 t12 t13 t6 h2
  rintro ⟨i, hl, hi, hno, rfl⟩
  obtain rfl : t6 = .int .i64 i := by simpa using hl
  simp only [fldE_ptr, bnd_some, ldS_at g1, Nat.zero_add, List.getElem?_toArray, List.getElem?_cons_succ, List.getElem?_cons_zero, hlen, bin_lss, condT_bool]
  by_cases hlt : i < rows.length
  · have hdec : decide ((i : Int) < (rows.length : Int)) = true := by simp; omega
    have w1 : IntKind.i64.wrap ((i : Int) + 1) = ((i + 1 : Nat) : Int) := by rw [i64_id (by omega) (by omega)]; omega
    obtain ⟨eb, eo, ee, _, er⟩ := o1.rows.get (i := i) (x := (rows[i]).enc) (by simp [hlt]) .i64
    have er' := (er h2 (Fr.refl _ _)).1
    have r0 : ldS h2 (.pointer (some ⟨eb, eo + 0, none⟩)) = some (.int .i64 rows[i].id) := er' 0 (by omega)
    have r1 : ldS h2 (.pointer (some ⟨eb, eo + 1, none⟩)) = some rows[i].v := er' 1 (by omega)
    have r2 : ldS h2 (.pointer (some ⟨eb, eo + 2, none⟩)) = some (.int .i64 rows[i].code) := er' 2 (by omega)
    by_cases he : rows[i].id = id
    · have hf := find_at hlt hno he
      by_cases hc : rows[i].code = 0
      · have e : ofL rows tail id = (rows[i].arcs, 0) := by simp only [ofL, hf, hc, if_true]
        rw [e] at hR
        have := hR h2 rows[i].v (rowv_low (net.arcs _ (List.getElem_mem hlt)) (f0.then f1) q) f1
        simp only [hdec, if_true, ee, bnd_some, fldE_ptr, r0, bin_eql, he, decide_true, condT_bool, r2, bin_neq, hc, ne_eq, not_true_eq_false, decide_false, Bool.false_eq_true, if_false, r1]
        exact this
      · have e : ofL rows tail id = ([], rows[i].code) := by simp only [ofL, hf, hc, if_false]
        rw [e] at hR
        have := hR h2 (.slice none 0 0) (nilr h2) f1
        simp only [hdec, if_true, ee, bnd_some, fldE_ptr, r0, bin_eql, he, decide_true, condT_bool, r2, bin_neq, hc, ne_eq, not_false_eq_true]
        exact this
    · have inv := RInv.next (h := h2) hlt hno he
      have mu := muI_lt h2 h2 hlt
      simp only [hdec, if_true, ee, bnd_some, fldE_ptr, r0, bin_eql, he, decide_false, condT_bool, Bool.false_eq_true, if_false, bin_add, w1]
      exact ⟨inv, mu⟩
  · have hdec : decide ((i : Int) < (rows.length : Int)) = false := by simp; omega
    obtain rfl : i = rows.length := by omega
    rw [List.take_length] at hno
    have hf : rows.find? (fun s => s.id == id) = none := List.find?_eq_none.2 fun s hs => by simpa using hno s hs
    simp only [hdec, Bool.false_eq_true, if_false]
    cases tail
    · have e : ofL rows false id = ([], 0) := by simp [ofL, hf]
      rw [e] at hR
      simp only [Bool.false_eq_true, if_false]
      exact hR h2 (.slice none 0 0) (nilr h2) f1
    · have e : ofL rows true id = ([⟨id, IntKind.i64.wrap (id + 1), 1⟩], 0) := by simp [ofL, hf]
      rw [e] at hR
      simp only [if_true, bin_add, bnd_some, fill_arc, fill_arc1, nw_eq]
      have f2 := Fr.push h2 (.cells #[.int .i64 id, .int .i64 (IntKind.i64.wrap (id + 1)), .int .i64 1] 62 (0, 0)) []
      have e2 := get_new h2 (.cells #[.int .i64 id, .int .i64 (IntKind.i64.wrap (id + 1)), .int .i64 1] 62 (0, 0))
      refine hR _ (.slice (some ⟨h2.size, 0, none⟩) 1 1) ⟨[h2.size], ⟨_, 1, rfl, fun _ => ⟨h2.size, 0, rfl, by simp, _, _, _, e2, by simp, by simp [Arc.enc], fun a j y hi hj => ?_⟩⟩, by simp; omega⟩ (f1.then f2)
      obtain rfl : a = 0 := by
        have := (List.getElem?_eq_some_iff.1 hi).1
        simpa using this
      obtain rfl : (⟨id, IntKind.i64.wrap (id + 1), 1⟩ : Arc).enc = y := by simpa using hi
      simp [Arc.enc]

theorem weigh_spec {h : Hp} {a : Arc} {hops : Bool} {R : Value → Hp → Prop} (hR : ∀ h', Fr h h' [] → R (.int .i64 (wt hops a)) h') : CallsH Tryd.prog 72 #[.agg #[.int .i64 a.edge, .int .i64 a.to, .int .i64 a.weight], .bool hops] h R := by
  refine f72.ok ?_
  unfold f72.T
  simp only [nw_eq, cells_agg, ptr0_eq]
  have f1 := Fr.push h (.cells #[.int .i64 a.edge, .int .i64 a.to, .int .i64 a.weight] 62 (0, 0)) []
  have g1 := get_new h (.cells #[.int .i64 a.edge, .int .i64 a.to, .int .i64 a.weight] 62 (0, 0))
  generalize h.push (.cells #[.int .i64 a.edge, .int .i64 a.to, .int .i64 a.weight] 62 (0, 0)) = h1 at *
  have := hR h1 f1
  cases hops
  · simpa [wt, ldS_at g1] using this
  · simpa [wt] using this

structure WantI where
  aim : Bool
  to : Int
  most : Int
  hops : Bool
def srW (of : Int → List Arc × Int) (w : WantI) : Sr := ⟨of, fun id => w.aim && decide (id = w.to), fun s => decide (w.most < 0) || decide (s < w.most), w.hops⟩
/-- The search's variables: n is the first of their blocks. -/
structure RefB (hS : Hp) (n : Nat) (v : Value) (tail : Bool) (w : WantI) (at_ : Seen) (sv av : Value) (c : Int) (d : Bool) (h : Hp) : Prop where
  fr : Fr hS h []
  n0 : n = hS.size
  e3 : h[n]? = some (.cells #[v, .bool tail] 26 (0, 0))
  e5 : h[n + 1]? = some (.cells #[.bool w.aim, .int .i64 w.to, .int .i64 w.most, .bool w.hops] 103 (0, 0))
  e6 : h[n + 2]? = some (.cells #[.slice none 0 0, .slice none 0 0, .int .i64 0, .bool false] 100 (0, 0))
  e7 : h[n + 3]? = some (.cells #[sv, av, .int .i64 c, .bool d] 100 (0, 0))
  e9 : h[n + 4]? = some (.cells #[.int .i64 at_.id, .int .i64 at_.sum] 105 (0, 0))
/-- The lists. -/
structure RefL (n : Nat) (sv av : Value) (st : List Seen) (a : List Int) (bs ba : List Nat) (h : Hp) : Prop where
  os : OwnS h 105 2 sv (st.map Seen.enc) bs
  oa : OwnS h 2 1 av (ints a) ba
  new : (∀ b ∈ bs, n + 5 ≤ b) ∧ (∀ b ∈ ba, n + 5 ≤ b) ∧ ∀ b ∈ bs, b ∉ ba

section
variable {hS h h' : Hp} {n : Nat} {v sv av : Value} {tail : Bool} {w : WantI} {at_ : Seen} {st : List Seen} {a : List Int} {c : Int} {d : Bool} {bs ba S : List Nat}
theorem RefB.fr' (H : RefB hS n v tail w at_ sv av c d h) (f : Fr h h' S) (hS' : ∀ b ∈ S, n + 5 ≤ b) : RefB hS n v tail w at_ sv av c d h' := by
  have hn := H.n0
  have hlow : ∀ k, k < n + 5 → k ∉ S := fun k hk hm => by have := hS' k hm; omega
  exact ⟨H.fr.news f fun c hc => by have := hS' c hc; omega, hn, f.get H.e3 (hlow _ (by omega)), f.get H.e5 (hlow _ (by omega)), f.get H.e6 (hlow _ (by omega)), f.get H.e7 (hlow _ (by omega)), f.get H.e9 (hlow _ (by omega))⟩
theorem RefB.lt (H : RefB hS n v tail w at_ sv av c d h) : n + 5 ≤ h.size := by have := lt_of_get H.e9; omega
theorem RefL.fr' (H : RefL n sv av st a bs ba h) (f : Fr h h' S) (hS' : ∀ b ∈ S, b ∉ bs ∧ b ∉ ba) : RefL n sv av st a bs ba h' :=
  ⟨H.os.fr f fun b hb hm => (hS' b hm).1 hb, H.oa.fr f fun b hb hm => (hS' b hm).2 hb, H.new⟩
/-- The variable f is written. -/
theorem RefB.put7 (H : RefB hS n v tail w at_ sv av c d h) (sv' av' : Value) (c' : Int) (d' : Bool) :
    RefB hS n v tail w at_ sv' av' c' d' (h.setIfInBounds (n + 3) (.cells #[sv', av', .int .i64 c', .bool d'] 100 (0, 0))) ∧ Fr h (h.setIfInBounds (n + 3) (.cells #[sv', av', .int .i64 c', .bool d'] 100 (0, 0))) [n + 3] := by
  have f : Fr h (h.setIfInBounds (n + 3) (.cells #[sv', av', .int .i64 c', .bool d'] 100 (0, 0))) [n + 3] := Fr.set _ _ _ (fun _ => by simp) (by rw [H.e7]; rfl)
  have hn := H.n0
  exact ⟨⟨H.fr.news f fun c hc => by simp at hc; omega, hn, f.get H.e3 (by simp), f.get H.e5 (by simp), f.get H.e6 (by simp), get_set H.e7, f.get H.e9 (by simp)⟩, f⟩
theorem RefB.put9 (H : RefB hS n v tail w at_ sv av c d h) (at' : Seen) :
    RefB hS n v tail w at' sv av c d (h.setIfInBounds (n + 4) (.cells #[.int .i64 at'.id, .int .i64 at'.sum] 105 (0, 0))) ∧ Fr h (h.setIfInBounds (n + 4) (.cells #[.int .i64 at'.id, .int .i64 at'.sum] 105 (0, 0))) [n + 4] := by
  have f : Fr h (h.setIfInBounds (n + 4) (.cells #[.int .i64 at'.id, .int .i64 at'.sum] 105 (0, 0))) [n + 4] := Fr.set _ _ _ (fun _ => by simp) (by rw [H.e9]; rfl)
  have hn := H.n0
  exact ⟨⟨H.fr.news f fun c hc => by simp at hc; omega, hn, f.get H.e3 (by simp), f.get H.e5 (by simp), f.get H.e6 (by simp), f.get H.e7 (by simp), get_set H.e9⟩, f⟩
theorem RefL.low (H : RefL n sv av st a bs ba h) {k : Nat} (hk : k < n + 5) : k ∉ bs ∧ k ∉ ba := ⟨fun hb => by have := H.new.1 k hb; omega, fun hb => by have := H.new.2.1 k hb; omega⟩
/-- The answer is given. -/
theorem RefB.ret (H : RefB hS n v tail w at_ sv av c d h) (L : RefL n sv av st a bs ba h) {R : Value → Hp → Prop} (hR : ∀ h', RefL n sv av st a bs ba h' → Fr hS h' [] → R (.agg #[sv, av, .int .i64 c, .bool d]) h') :
    bnd (ldA 4 h (.pointer (some ⟨n + 3, 0, none⟩))) fun t111_1 =>
    bnd (stE 4 h (.pointer (some ⟨n + 2, 0, none⟩)) t111_1) fun h_13 =>
    bnd (ldA 4 h_13 (.pointer (some ⟨n + 2, 0, none⟩))) fun r6_1 => R r6_1 h_13 := by
  have l7 : ldA 4 h (.pointer (some ⟨n + 3, 0, none⟩)) = some (.agg #[sv, av, .int .i64 c, .bool d]) := by rw [ldA_at H.e7]; simp
  have s6 : stE 4 h (.pointer (some ⟨n + 2, 0, none⟩)) (.agg #[sv, av, .int .i64 c, .bool d]) = some (h.setIfInBounds (n + 2) (.cells #[sv, av, .int .i64 c, .bool d] 100 (0, 0))) := by
    rw [stE_at _ H.e6]; simp [splice, L.os.one, L.oa.one]
  have g6 := get_set (o' := .cells #[sv, av, .int .i64 c, .bool d] 100 (0, 0)) H.e6
  have f6 : Fr h (h.setIfInBounds (n + 2) (.cells #[sv, av, .int .i64 c, .bool d] 100 (0, 0))) [n + 2] := Fr.set _ _ _ (fun _ => by simp) (by rw [H.e6]; rfl)
  simp only [l7, bnd_some, s6]
  generalize h.setIfInBounds (n + 2) (.cells #[sv, av, .int .i64 c, .bool d] 100 (0, 0)) = h6 at *
  have l6 : ldA 4 h6 (.pointer (some ⟨n + 2, 0, none⟩)) = some (.agg #[sv, av, .int .i64 c, .bool d]) := by rw [ldA_at g6]; simp
  simp only [l6, bnd_some]
  have hn := H.n0
  exact hR h6 (L.fr' f6 fun b hb => by simp at hb; subst hb; exact L.low (by omega)) (H.fr.news f6 fun c hc => by simp at hc; omega)
/-- The answer is given with a code or a mark. -/
theorem RefB.st2 (H : RefB hS n v tail w at_ sv av c d h) (c' : Int) : stE 1 h (.pointer (some ⟨n + 3, 2, none⟩)) (.int .i64 c') = some (h.setIfInBounds (n + 3) (.cells #[sv, av, .int .i64 c', .bool d] 100 (0, 0))) := by
  rw [stE_at _ H.e7]; simp [splice]
theorem RefB.st3 (H : RefB hS n v tail w at_ sv av c d h) (d' : Bool) : stE 1 h (.pointer (some ⟨n + 3, 3, none⟩)) (.bool d') = some (h.setIfInBounds (n + 3) (.cells #[sv, av, .int .i64 c, .bool d'] 100 (0, 0))) := by
  rw [stE_at _ H.e7]; simp [splice]
theorem RefB.st0 (H : RefB hS n v tail w at_ sv av c d h) {u : Value} (hu : u.cells = #[u]) (h1 : u.oneCell' = true) : stE 1 h (.pointer (some ⟨n + 3, 0, none⟩)) u = some (h.setIfInBounds (n + 3) (.cells #[u, av, .int .i64 c, .bool d] 100 (0, 0))) := by
  rw [stE_at _ H.e7]; simp [splice, hu, h1]
theorem RefB.st1 (H : RefB hS n v tail w at_ sv av c d h) {u : Value} (hu : u.cells = #[u]) (h1 : u.oneCell' = true) : stE 1 h (.pointer (some ⟨n + 3, 1, none⟩)) u = some (h.setIfInBounds (n + 3) (.cells #[sv, u, .int .i64 c, .bool d] 100 (0, 0))) := by
  rw [stE_at _ H.e7]; simp [splice, hu, h1]
end
theorem rowB_low {h : Hp} {k : Nat} {v : Value} {xs : List (List Value)} {B : List Nat} (r : RowB h k v xs B) : ∃ B', RowB h k v xs B' ∧ ∀ b ∈ B', b ∈ B ∧ b < h.size := by
  obtain ⟨a, c, e, hx⟩ := r
  by_cases hne : xs = []
  · exact ⟨[], ⟨a, c, e, fun h => absurd hne h⟩, by simp⟩
  · obtain ⟨b, o, ha, hb, s⟩ := hx hne
    exact ⟨[b], ⟨a, c, e, fun _ => ⟨b, o, ha, by simp, s⟩⟩, fun b' hb' => by simp at hb'; subst hb'; exact ⟨hb, s.lt⟩⟩
theorem sight_len (l : List Seen) (id sum : Int) : (sightL l id sum).length ≤ l.length + 1 := by
  unfold sightL
  split
  · split <;> simp
  · simp
theorem sight_nodup {l : List Seen} (hd : (ids l).Nodup) (id sum : Int) : (ids (sightL l id sum)).Nodup := by
  rcases sight_cases hd id sum with ⟨_, e⟩ | ⟨_, h, _⟩
  · rw [e]; exact hd
  · exact h
end Go.Proofs.YtkiakofohkecaaaDoor

/- The reference's search, its parts: the next node; the arcs of a node. No condition but that the memory is as told. -/
namespace Go.Proofs.YtkiakofohkecaaaDoor
open Go Go.Fw

section
variable {hS h : Hp} {n : Nat} {v sv av nv : Value} {tail : Bool} {w : WantI} {at_ : Seen} {st nr : List Seen} {a : List Int} {bs ba bn : List Nat} {S : Sr} {fd : Fd} {R : Value → Hp → Prop} {I1 : List Value → Hp → Prop} {μ1 : List Value → Hp → Nat} {t8 : Value} {h_7 : Hp}

theorem ref_J1 (H : RefB hS n v tail w at_ sv av 0 false h) (L : RefL n sv av st a bs ba h) (N : OwnS h 105 2 nv (nr.map Seen.enc) bn) (hbn : ∀ b ∈ bn, n + 5 ≤ b ∧ b ∉ bs ∧ b ∉ ba) (hst : st.length ≤ 4096) (hnd : (ids nr).Nodup) (hlen : nr.length ≤ 8589934592) (hfd : restF S (4096 - st.length) st nr a = fd)
    (ret : ∀ h' sv av bs ba, RefL n sv av fd.settled fd.asked bs ba h' → Fr hS h' [] → R (.agg #[sv, av, .int .i64 fd.code, .bool fd.hit]) h')
    (next : st.length < 4096 → leastI nr < nr.length → settleF S (restF S (4095 - st.length)) (snth nr (leastI nr)) st (nr.eraseIdx (leastI nr)) a = fd → ∀ h' nv' bn', RefB hS n v tail w (snth nr (leastI nr)) sv av 0 false h' → RefL n sv av st a bs ba h' → OwnS h' 105 2 nv' ((nr.eraseIdx (leastI nr)).map Seen.enc) bn' → (∀ b ∈ bn', n + 5 ≤ b ∧ b ∉ bs ∧ b ∉ ba) → I1 [nv'] h' ∧ μ1 [nv'] h' < μ1 [t8] h_7) :
    f52.J1 nv h (.pointer (some ⟨n + 3, 0, none⟩)) (.pointer (some ⟨n + 2, 0, none⟩)) R (.pointer (some ⟨n + 4, 0, none⟩)) I1 μ1 t8 h_7 := by
  unfold f52.J1
  have hl : (nr.map Seen.enc).length = nr.length := by simp
  simp only [N.lenE, bnd_some, bin_eql, condT_bool, hl]
  by_cases hnr : nr = []
  · have hd : decide ((nr.length : Int) = 0) = true := by simp [hnr]
    simp only [hd, if_true]
    refine H.ret L fun h' L' f' => ?_
    have : fd = ⟨st, a, 0, false⟩ := by rw [← hfd, hnr]; cases 4096 - st.length <;> simp [restF]
    subst this
    exact ret h' sv av bs ba L' f'
  · have hpos : 0 < nr.length := List.length_pos_iff.2 hnr
    have hd : decide ((nr.length : Int) = 0) = false := by simp; omega
    simp only [hd, Bool.false_eq_true, if_false, fldE_ptr, bnd_some, Nat.zero_add, ldS_at H.e7, List.getElem?_toArray, List.getElem?_cons_zero, L.os.lenE, List.length_map, bin_eql, condT_bool]
    by_cases hf : st.length = 4096
    · have hd : decide ((st.length : Int) = 4096) = true := by simp; omega
      simp only [hd, if_true, H.st2, bnd_some]
      obtain ⟨H', f'⟩ := H.put7 sv av 92 false
      refine H'.ret (L.fr' f' fun b hb => by simp at hb; subst hb; exact L.low (by omega)) fun h' L' f' => ?_
      have : fd = ⟨st, a, 92, false⟩ := by rw [← hfd, hf]; simp [restF, hnr]
      subst this
      exact ret h' sv av bs ba L' f'
    · have hd : decide ((st.length : Int) = 4096) = false := by simp; omega
      simp only [hd, Bool.false_eq_true, if_false]
      refine next_spec N.rowv hpos (by omega) fun k hk => ?_
      have hkl := hk.1
      have hki := leastI_eq hnd hk
      subst hki
      obtain ⟨bb, oo, ei, _, rd⟩ := N.rowv.get (i := leastI nr) (x := (snth nr (leastI nr)).enc) (by rw [snth_get hkl]; simp [hkl]) .i64
      have rall := (rd h (Fr.refl _ _)).2
      simp only [Seen.enc] at rall
      have s9 : stE 2 h (.pointer (some ⟨n + 4, 0, none⟩)) (.agg #[.int .i64 (snth nr (leastI nr)).id, .int .i64 (snth nr (leastI nr)).sum]) = some (h.setIfInBounds (n + 4) (.cells #[.int .i64 (snth nr (leastI nr)).id, .int .i64 (snth nr (leastI nr)).sum] 105 (0, 0))) := by
        rw [stE_at _ H.e9]; simp [splice]
      simp only [ei, rall, s9, bnd_some]
      obtain ⟨H1, f1⟩ := H.put9 (snth nr (leastI nr))
      generalize h.setIfInBounds (n + 4) (.cells #[.int .i64 (snth nr (leastI nr)).id, .int .i64 (snth nr (leastI nr)).sum] 105 (0, 0)) = h1 at *
      have L1 := L.fr' f1 fun b hb => by simp at hb; subst hb; exact L.low (by omega)
      have N1 := N.fr f1 fun b hb hm => by simp at hm; have := (hbn b hb).1; omega
      have lt1 := H1.lt
      obtain ⟨b1, c1, hb1, sl1, sg1⟩ := N1.front (n := leastI nr) (by simpa using hkl)
      simp only [sl1, bnd_some]
      have y1 : ∀ xs : List Seen, ∀ x ∈ xs.map Seen.enc, ∀ u ∈ x, u.oneCell' = true := fun xs x hx => by obtain ⟨s, _, rfl⟩ := List.mem_map.1 hx; simp [Seen.enc]
      refine own_app elem98 (OwnS.nil h1 105 2) sg1 (fun x hx => y1 nr x (List.mem_of_mem_take hx)) (by simp; omega) (by simp; omega) fun h2 v2 bl2 o2 f2 n2 => ?_
      have N2 := N1.fr f2 (by simp)
      obtain ⟨b3, o3, c3, hb3, sl3, sg3⟩ := N2.behind (n := leastI nr) (by simpa using hkl)
      have w1 : IntKind.i64.wrap ((leastI nr : Int) + 1) = ((leastI nr + 1 : Nat) : Int) := by rw [i64_id (by omega) (by omega)]; omega
      simp only [bin_add, bnd_some, w1, sl3]
      refine own_app elem98 o2 sg3 (fun x hx => y1 nr x (List.mem_of_mem_drop hx)) (by simp; omega) (by simp; omega) fun h4 v4 bl4 o4 f4 n4 => ?_
      have f2s := f2.size
      have hbl2 : ∀ b ∈ bl2, h1.size ≤ b := fun b hb => by rcases n2 b hb with h | h; simp at h; exact h
      have F4 : Fr h1 h4 [] := f2.trans f4 (by simp) fun c hc hm => by have := hbl2 c hm; omega
      have hbl4 : ∀ b ∈ bl4, h1.size ≤ b := fun b hb => by rcases n4 b hb with h | h; exact hbl2 b h; omega
      have e4 : List.take (leastI nr) (List.map Seen.enc nr) ++ List.drop (leastI nr + 1) (List.map Seen.enc nr) = (nr.eraseIdx (leastI nr)).map Seen.enc := by
        rw [List.eraseIdx_eq_take_drop_succ, List.map_append, List.map_take, List.map_drop]
      simp only [List.nil_append, e4] at o4
      have hlL := L1.os.lt
      have hlA := L1.oa.lt
      refine next (by omega) hkl ?_ h4 v4 bl4 (H1.fr' F4 (by simp)) (L1.fr' F4 (by simp)) o4 fun b hb => ⟨by have := hbl4 b hb; omega, fun hb' => ?_, fun hb' => ?_⟩
      · rw [← hfd]
        obtain ⟨m, hm⟩ : ∃ m, 4096 - st.length = m + 1 := ⟨4095 - st.length, by omega⟩
        rw [hm, show 4095 - st.length = m by omega]
        simp only [restF, if_neg hnr]
      · have := hlL b hb'; have := hbl4 b hb; omega
      · have := hlA b hb'; have := hbl4 b hb; omega

/-- Where the arcs' loop stands. -/
def AInv (hS : Hp) (n : Nat) (v : Value) (tail : Bool) (w : WantI) (at_ : Seen) (sv av : Value) (st : List Seen) (a : List Int) (bs ba : List Nat) (t57 : Value) (l : List Arc) (B1 : List Nat) (nr0 : List Seen) (m : Nat) (vs : List Value) (h : Hp) : Prop :=
  ∃ (j : Nat) (nv : Value) (nr : List Seen) (bn : List Nat), vs = [nv, .int .i64 j] ∧ j ≤ l.length ∧ RefB hS n v tail w at_ sv av 0 false h ∧ RefL n sv av st a bs ba h ∧ OwnS h 105 2 nv (nr.map Seen.enc) bn ∧ (∀ b ∈ bn, n + 5 ≤ b ∧ b ∉ bs ∧ b ∉ ba) ∧ (∀ b ∈ B1, b < h.size ∧ b ∉ bn) ∧ RowB h 3 t57 (l.map Arc.enc) B1 ∧
    arcsL w.hops st at_.sum (l.drop j) nr = arcsL w.hops st at_.sum l nr0 ∧ (ids nr).Nodup ∧ nr.length ≤ m + j ∧ ∀ s ∈ nr, 0 ≤ s.sum ∧ s.sum ≤ 1099511627776

set_option maxHeartbeats 2000000 in
theorem ref_L2 {l : List Arc} {t57 : Value} {B1 : List Nat} (H : RefB hS n v tail w at_ sv av 0 false h) (L : RefL n sv av st a bs ba h) (N : OwnS h 105 2 nv (nr.map Seen.enc) bn) (hbn : ∀ b ∈ bn, n + 5 ≤ b ∧ b ∉ bs ∧ b ∉ ba) (rv : RowB h 3 t57 (l.map Arc.enc) B1) (hB1 : ∀ b ∈ B1, b < h.size ∧ b ∉ bn)
    (hst : st.length ≤ 4096) (hnd : (ids nr).Nodup) (hlen : nr.length ≤ 4296015872) (hal : l.length ≤ 1048576) (hat : 0 ≤ at_.sum ∧ at_.sum ≤ 1099511627776) (hns : ∀ s ∈ nr, 0 ≤ s.sum ∧ s.sum ≤ 1099511627776)
    (bad : (arcsL w.hops st at_.sum l nr).1 ≠ 0 → ∀ h', RefL n sv av st a bs ba h' → Fr hS h' [] → R (.agg #[sv, av, .int .i64 (arcsL w.hops st at_.sum l nr).1, .bool false]) h')
    (good : (arcsL w.hops st at_.sum l nr).1 = 0 → ∀ h' nv' nr' bn', nr' = (arcsL w.hops st at_.sum l nr).2 → RefB hS n v tail w at_ sv av 0 false h' → RefL n sv av st a bs ba h' → OwnS h' 105 2 nv' (nr'.map Seen.enc) bn' → (∀ b ∈ bn', n + 5 ≤ b ∧ b ∉ bs ∧ b ∉ ba) → (ids nr').Nodup → nr'.length ≤ nr.length + 1048576 → (∀ s ∈ nr', 0 ≤ s.sum ∧ s.sum ≤ 1099511627776) →
      f52.J1 nv' h' (.pointer (some ⟨n + 3, 0, none⟩)) (.pointer (some ⟨n + 2, 0, none⟩)) R (.pointer (some ⟨n + 4, 0, none⟩)) I1 μ1 nv h_7) :
    f52.L2 nv h t57 (.pointer (some ⟨n + 1, 0, none⟩)) (.pointer (some ⟨n + 3, 0, none⟩)) (.pointer (some ⟨n + 2, 0, none⟩)) R (.pointer (some ⟨n + 4, 0, none⟩)) I1 μ1 h_7 := by
  obtain ⟨av', cv, rfl, xv⟩ := id rv
  unfold f52.L2
  refine ⟨AInv hS n v tail w at_ sv av st a bs ba (.slice av' (l.map Arc.enc).length cv) l B1 nr nr.length, muF l.length, ⟨0, nv, nr, bn, rfl, by omega, H, L, N, hbn, hB1, rv, rfl, hnd, by omega, hns⟩, ?_⟩
  intro t64_1 t65_1 t66_1 t67_1 t70_1 t71_1 t72_1 t73_1 t74_1 t75_1 t76_1 t13_1 t77_1 t78_1 t79_1 t80_1 t81_1 t82_1 t83_1 t84_1 t85_1 t86_1 t87_1 t88_1 t89_1 t90_1 t91_1 t92_1 t93_1 t94_1 t95_1 t96_1 t97_1 t98_1 t99_1 t100_1 t101_1 t102_1 t103_1 t104_1 t105_1 t106_1 t107_1 t8_1 t68_1 t69_1 t12_1 h3
  rintro ⟨j, nv3, nr3, bn3, hv, hj, H3, L3, N3, hbn3, hB3, rv3, har, hnd3, hlen3, hns3⟩
  obtain ⟨rfl, rfl⟩ : t8_1 = nv3 ∧ t12_1 = .int .i64 j := by simpa using hv
  have hll : (l.map Arc.enc).length = l.length := by simp
  simp only [lenE_sl, bnd_some, bin_lss, condT_bool]
  by_cases hlt : j < l.length
  · have hdec : decide ((j : Int) < ((l.map Arc.enc).length : Int)) = true := by simp; omega
    have w1 : IntKind.i64.wrap ((j : Int) + 1) = ((j + 1 : Nat) : Int) := by rw [i64_id (by omega) (by omega)]; omega
    obtain ⟨bb, oo, ei, hbl, rd⟩ := rv3.rowv.get (i := j) (x := (l[j]).enc) (by simp [hlt]) .i64
    have rall := (rd h3 (Fr.refl _ _)).2
    simp only [Arc.enc] at rall
    have hdr : l.drop j = l[j] :: l.drop (j + 1) := List.drop_eq_getElem_cons hlt
    rw [hdr] at har
    simp only [hdec, if_true, ei, rall, bnd_some, fldE_ptr, Nat.zero_add, ldS_at H3.e5, List.getElem?_toArray, List.getElem?_cons_succ, List.getElem?_cons_zero]
    refine weigh_spec fun h4 f4 => ?_
    have H4 := H3.fr' f4 (by simp)
    have L4 := L3.fr' f4 (by simp)
    have N4 := N3.fr f4 (by simp)
    have rv4 := rv3.fr f4 (by simp)
    have rd4 := (rd h4 f4).1 1 (by omega)
    simp only [Arc.enc, List.getElem?_cons_succ, List.getElem?_cons_zero] at rd4
    have f4s := f4.size
    simp only [bin_lss, bnd_some, condT_bool]
    by_cases hneg : wt w.hops l[j] < 0
    · have he : (arcsL w.hops st at_.sum l nr).1 = 90 := by rw [← har]; simp only [arcsL, if_pos hneg]
      simp only [hneg, decide_true, if_true, H4.st2, bnd_some]
      obtain ⟨H', f'⟩ := H4.put7 sv av 90 false
      refine H'.ret (L4.fr' f' fun b hb => by simp at hb; subst hb; exact L4.low (by omega)) fun h' L' f' => ?_
      have := bad (by rw [he]; decide) h' L' f'
      rwa [he] at this
    · have w2 : IntKind.i64.wrap (1099511627776 - at_.sum) = 1099511627776 - at_.sum := i64_id (by omega) (by omega)
      simp only [hneg, decide_false, Bool.false_eq_true, if_false, ldS_at H4.e9, List.getElem?_toArray, List.getElem?_cons_succ, List.getElem?_cons_zero, bnd_some, bin_sub, w2, bin_gtr, condT_bool]
      by_cases hfar : 1099511627776 - at_.sum < wt w.hops l[j]
      · have he : (arcsL w.hops st at_.sum l nr).1 = 91 := by rw [← har]; simp only [arcsL, if_neg hneg, if_pos hfar]
        have hfar' : decide (wt w.hops l[j] > 1099511627776 - at_.sum) = true := decide_eq_true hfar
        simp only [hfar', if_true, H4.st2, bnd_some]
        obtain ⟨H', f'⟩ := H4.put7 sv av 91 false
        refine H'.ret (L4.fr' f' fun b hb => by simp at hb; subst hb; exact L4.low (by omega)) fun h' L' f' => ?_
        have := bad (by rw [he]; decide) h' L' f'
        rwa [he] at this
      · have hfar' : decide (wt w.hops l[j] > 1099511627776 - at_.sum) = false := decide_eq_false hfar
        have w3 : IntKind.i64.wrap (at_.sum + wt w.hops l[j]) = at_.sum + wt w.hops l[j] := i64_id (by omega) (by omega)
        simp only [arcsL, if_neg hneg, if_neg hfar] at har
        simp only [hfar', Bool.false_eq_true, if_false, ldS_at H4.e7, ei, rd4, fldE_ptr, Nat.zero_add, List.getElem?_toArray, List.getElem?_cons_zero, bnd_some]
        refine settled_spec L4.os.rowv l[j].to (by omega) ?_
        simp only [unE_not, bnd_some, condT_bool]
        by_cases hs : ∃ s ∈ st, s.id = l[j].to
        · have hd : decide (∃ s ∈ st, s.id = l[j].to) = true := decide_eq_true hs
          rw [if_pos hs] at har
          simp only [hd, Bool.not_true, Bool.false_eq_true, if_false]
          unfold f52.J2
          simp only [bin_add, bnd_some, w1]
          exact ⟨⟨j + 1, t8_1, nr3, bn3, rfl, by omega, H4, L4, N4, hbn3, fun b hb => ⟨by have := (hB3 b hb).1; omega, (hB3 b hb).2⟩, rv4, har, hnd3, by omega, hns3⟩, by simp only [muF, Int.toNat_natCast]; omega⟩
        · have hd : decide (∃ s ∈ st, s.id = l[j].to) = false := decide_eq_false hs
          rw [if_neg hs] at har
          simp only [hd, Bool.not_false, if_true, ei, rd4, fldE_ptr, bnd_some, ldS_at H4.e9, List.getElem?_toArray, List.getElem?_cons_succ, List.getElem?_cons_zero, Nat.zero_add, bin_add, w3]
          refine sight_spec N4 l[j].to (at_.sum + wt w.hops l[j]) (by omega) fun h5 v5 bl5 N5 f5 n5 => ?_
          have f5s := f5.size
          have lt4 := H4.lt
          have hlL := L4.os.lt
          have hlA := L4.oa.lt
          unfold f52.J2
          simp only [bin_add, bnd_some, w1]
          refine ⟨⟨j + 1, v5, _, bl5, rfl, by omega, H4.fr' f5 fun b hb => (hbn3 b hb).1, L4.fr' f5 fun b hb => (hbn3 b hb).2, N5, fun b hb => ?_, fun b hb => ⟨by have := (hB3 b hb).1; omega, fun hb' => ?_⟩, rv4.fr f5 fun b hb => (hB3 b hb).2, har, sight_nodup hnd3 _ _, by have := sight_len nr3 l[j].to (at_.sum + wt w.hops l[j]); omega, fun s hs' => ?_⟩, by simp only [muF, Int.toNat_natCast]; omega⟩
          · rcases n5 b hb with h | h
            · exact hbn3 b h
            · exact ⟨by omega, fun hb => by have := hlL b hb; omega, fun hb => by have := hlA b hb; omega⟩
          · rcases n5 b hb' with h | h
            · exact (hB3 b hb).2 h
            · have := (hB3 b hb).1; omega
          · rcases sight_mem hs' with h | rfl
            · exact hns3 s h
            · simp only; omega
  · have hdec : decide ((j : Int) < ((l.map Arc.enc).length : Int)) = false := by simp; omega
    obtain rfl : j = l.length := by omega
    simp only [hdec, Bool.false_eq_true, if_false]
    have har' : arcsL w.hops st at_.sum l nr = (0, nr3) := by rw [← har]; simp [arcsL]
    exact good (by rw [har']) h3 t8_1 nr3 bn3 (by rw [har']) H3 L3 N3 hbn3 hnd3 (by omega) hns3
end
end Go.Proofs.YtkiakofohkecaaaDoor

/- The reference's search, whole. No condition but that the memory is as told. -/
namespace Go.Proofs.YtkiakofohkecaaaDoor
open Go Go.Fw

section
variable {S : Sr} {k : List Seen → List Seen → List Int → Fd} {at_ : Seen} {st nr : List Seen} {a : List Int} {fd : Fd}
theorem settle_over (h : S.over at_.id = true) (e : settleF S k at_ st nr a = fd) : fd = ⟨st ++ [at_], a, 0, true⟩ := by rw [← e]; simp [settleF, h]
theorem settle_pass (h : S.over at_.id = false) (h2 : S.asks at_.sum = false) (e : settleF S k at_ st nr a = fd) : k (st ++ [at_]) nr a = fd := by rw [← e]; simp [settleF, h, h2]
theorem settle_code (h : S.over at_.id = false) (h2 : S.asks at_.sum = true) (h3 : (S.of at_.id).2 ≠ 0) (e : settleF S k at_ st nr a = fd) : fd = ⟨st ++ [at_], a ++ [at_.id], (S.of at_.id).2, false⟩ := by rw [← e]; simp [settleF, h, h2, h3]
theorem settle_bad (h : S.over at_.id = false) (h2 : S.asks at_.sum = true) (h3 : (S.of at_.id).2 = 0) (h4 : (arcsL S.hops (st ++ [at_]) at_.sum (S.of at_.id).1 nr).1 ≠ 0) (e : settleF S k at_ st nr a = fd) : fd = ⟨st ++ [at_], a ++ [at_.id], (arcsL S.hops (st ++ [at_]) at_.sum (S.of at_.id).1 nr).1, false⟩ := by rw [← e]; simp [settleF, h, h2, h3, h4]
theorem settle_good (h : S.over at_.id = false) (h2 : S.asks at_.sum = true) (h3 : (S.of at_.id).2 = 0) (h4 : (arcsL S.hops (st ++ [at_]) at_.sum (S.of at_.id).1 nr).1 = 0) (e : settleF S k at_ st nr a = fd) : k (st ++ [at_]) (arcsL S.hops (st ++ [at_]) at_.sum (S.of at_.id).1 nr).2 (a ++ [at_.id]) = fd := by rw [← e]; simp [settleF, h, h2, h3, h4]
end
def slen (h : Hp) (p : Nat) : Nat :=
  match h[p]? with
  | some (.cells c _ _) => (match (c[0]? : Option Value) with
    | some (.slice _ n _) => n
    | _ => 0)
  | _ => 0
def muS (n : Nat) (_ : List Value) (h : Hp) : Nat := 4096 - slen h (n + 3)

structure RefI (hS : Hp) (n : Nat) (rows : List NRow) (v : Value) (tail : Bool) (w : WantI) (fd : Fd) (st nr : List Seen) (a : List Int) (at_ : Seen) (sv av nv : Value) (bs ba bn : List Nat) (h : Hp) : Prop where
  b : RefB hS n v tail w at_ sv av 0 false h
  l : RefL n sv av st a bs ba h
  near : OwnS h 105 2 nv (nr.map Seen.enc) bn
  nb : ∀ b ∈ bn, n + 5 ≤ b ∧ b ∉ bs ∧ b ∉ ba
  nd : (ids nr).Nodup
  n1 : nr.length ≤ st.length * 1048576
  n2 : st.length ≤ 4095
  n3 : a.length ≤ st.length
  at0 : 0 ≤ at_.sum ∧ at_.sum ≤ 1099511627776
  nr0 : ∀ s ∈ nr, 0 ≤ s.sum ∧ s.sum ≤ 1099511627776
  eq : settleF (srW (ofL rows tail) w) (restF (srW (ofL rows tail) w) (4095 - st.length)) at_ st nr a = fd
def RefInv (hS : Hp) (n : Nat) (rows : List NRow) (v : Value) (tail : Bool) (w : WantI) (fd : Fd) (vs : List Value) (h : Hp) : Prop :=
  ∃ st nr a at_ sv av nv bs ba bn, vs = [nv] ∧ RefI hS n rows v tail w fd st nr a at_ sv av nv bs ba bn h

theorem slen_of {hS h : Hp} {n : Nat} {v sv av : Value} {tail : Bool} {w : WantI} {at_ : Seen} {st : List Seen} {a : List Int} {bs ba : List Nat} {c : Int} {d : Bool} (H : RefB hS n v tail w at_ sv av c d h) (L : RefL n sv av st a bs ba h) : slen h (n + 3) = st.length := by
  rcases L.os with ⟨rfl, hx, _⟩ | ⟨b, cap, rfl, _, _⟩
  · simp at hx; subst hx; simp [slen, H.e7]
  · simp [slen, H.e7]

set_option maxHeartbeats 2000000 in
theorem ref_round {hS h7 : Hp} {n : Nat} {rows : List NRow} {v : Value} {tail : Bool} {w : WantI} {fd : Fd} {st nr : List Seen} {a : List Int} {at_ : Seen} {sv av nv : Value} {bs ba bn : List Nat} (net : NetOk hS v rows) (I : RefI hS n rows v tail w fd st nr a at_ sv av nv bs ba bn h7) {R : Value → Hp → Prop}
    (ret : ∀ h' sv av bs ba, RefL n sv av fd.settled fd.asked bs ba h' → Fr hS h' [] → R (.agg #[sv, av, .int .i64 fd.code, .bool fd.hit]) h') :
    bnd (fldE 0 (.pointer (some ⟨n + 3, 0, none⟩))) fun t18_1 =>
    bnd (ldS h7 t18_1) fun t19_1 =>
    bnd (ldA 2 h7 (.pointer (some ⟨n + 4, 0, none⟩))) fun t20_1 =>
    bnd (fillR 2 #[(.int .i64 0), (.int .i64 0)] [(0, t20_1)]) fun c =>
    nw h7 c 105 (fun b => .slice (some ⟨b, 0, none⟩) 1 1) fun t21_1 h_8 =>
    efS Tryd.prog (Go.Builtin.append_ #[98, 98] 98 #[t19_1, t21_1]) h_8 fun t22_1 h_9 =>
    bnd (fldE 0 (.pointer (some ⟨n + 3, 0, none⟩))) fun t23_1 =>
    bnd (stE 1 h_9 t23_1 t22_1) fun h_10 =>
    bnd (fldE 0 (.pointer (some ⟨n + 1, 0, none⟩))) fun t24_1 =>
    bnd (ldS h_10 t24_1) fun t25_1 =>
    bnd (bif isB t25_1 true then fldE 0 (.pointer (some ⟨n + 4, 0, none⟩)) else some undef) fun t27_1 =>
    bnd (bif isB t25_1 true then ldS h_10 t27_1 else some undef) fun t28_1 =>
    bnd (bif isB t25_1 true then fldE 1 (.pointer (some ⟨n + 1, 0, none⟩)) else some undef) fun t29_1 =>
    bnd (bif isB t25_1 true then ldS h_10 t29_1 else some undef) fun t30_1 =>
    bnd (bif isB t25_1 true then binE .eql t28_1 t30_1 else some undef) fun t31_1 =>
    bnd ((asB t25_1).map fun t => bif t then t31_1 else (.bool false)) fun t32_1 =>
    condT t32_1 (
    bnd (fldE 3 (.pointer (some ⟨n + 3, 0, none⟩))) fun t33_1 =>
    bnd (stE 1 h_10 t33_1 (.bool true)) fun h_11 =>
    bnd (ldA 4 h_11 (.pointer (some ⟨n + 3, 0, none⟩))) fun t34_1 =>
    bnd (stE 4 h_11 (.pointer (some ⟨n + 2, 0, none⟩)) t34_1) fun h_12 =>
    bnd (ldA 4 h_12 (.pointer (some ⟨n + 2, 0, none⟩))) fun r6 =>
    R r6 h_12) (
    bnd (fldE 2 (.pointer (some ⟨n + 1, 0, none⟩))) fun t35_1 =>
    bnd (ldS h_10 t35_1) fun t36_1 =>
    bnd (binE .lss t36_1 (.int .i64 0)) fun t37_1 =>
    bnd (bif isB t37_1 false then fldE 1 (.pointer (some ⟨n + 4, 0, none⟩)) else some undef) fun t39_1 =>
    bnd (bif isB t37_1 false then ldS h_10 t39_1 else some undef) fun t40_1 =>
    bnd (bif isB t37_1 false then fldE 2 (.pointer (some ⟨n + 1, 0, none⟩)) else some undef) fun t41_1 =>
    bnd (bif isB t37_1 false then ldS h_10 t41_1 else some undef) fun t42_1 =>
    bnd (bif isB t37_1 false then binE .lss t40_1 t42_1 else some undef) fun t43_1 =>
    bnd ((asB t37_1).map fun t => bif t then (.bool true) else t43_1) fun t44_1 =>
    condT t44_1 (
    bnd (fldE 1 (.pointer (some ⟨n + 3, 0, none⟩))) fun t45_1 =>
    bnd (ldS h_10 t45_1) fun t46_1 =>
    bnd (fldE 0 (.pointer (some ⟨n + 4, 0, none⟩))) fun t47_1 =>
    bnd (ldS h_10 t47_1) fun t48_1 =>
    bnd (fillR 1 #[(.int .i64 0)] [(0, t48_1)]) fun c_1 =>
    nw h_10 c_1 2 (fun b => .slice (some ⟨b, 0, none⟩) 1 1) fun t49_1 h_20 =>
    efS Tryd.prog (Go.Builtin.append_ #[28, 28] 28 #[t46_1, t49_1]) h_20 fun t50_1 h_21 =>
    bnd (fldE 1 (.pointer (some ⟨n + 3, 0, none⟩))) fun t51_1 =>
    bnd (stE 1 h_21 t51_1 t50_1) fun h_22 =>
    bnd (ldA 2 h_22 (.pointer (some ⟨n, 0, none⟩))) fun t53_1 =>
    bnd (fldE 0 (.pointer (some ⟨n + 4, 0, none⟩))) fun t54_1 =>
    bnd (ldS h_22 t54_1) fun t55_1 =>
    CallsH Tryd.prog 32 #[t53_1, t55_1] h_22 fun t56_1 h_23 =>
    bnd (extE 0 t56_1) fun t57_1 =>
    bnd (extE 1 t56_1) fun t58_1 =>
    bnd (binE .neq t58_1 (.int .i64 0)) fun t60_1 =>
    condT t60_1 (
    bnd (fldE 2 (.pointer (some ⟨n + 3, 0, none⟩))) fun t62_1 =>
    bnd (stE 1 h_23 t62_1 t58_1) fun h_24 =>
    bnd (ldA 4 h_24 (.pointer (some ⟨n + 3, 0, none⟩))) fun t63_1 =>
    bnd (stE 4 h_24 (.pointer (some ⟨n + 2, 0, none⟩)) t63_1) fun h_25 =>
    bnd (ldA 4 h_25 (.pointer (some ⟨n + 2, 0, none⟩))) fun r6_3 =>
    R r6_3 h_25) (
    (f52.L2 nv h_23 t57_1 (.pointer (some ⟨n + 1, 0, none⟩)) (.pointer (some ⟨n + 3, 0, none⟩)) (.pointer (some ⟨n + 2, 0, none⟩)) R (.pointer (some ⟨n + 4, 0, none⟩)) (RefInv hS n rows v tail w fd) (muS n) h7))) (
    (f52.J1 nv h_10 (.pointer (some ⟨n + 3, 0, none⟩)) (.pointer (some ⟨n + 2, 0, none⟩)) R (.pointer (some ⟨n + 4, 0, none⟩)) (RefInv hS n rows v tail w fd) (muS n) nv h7))) := by
  have hb := I.b
  have hL := I.l
  have hn0 := hb.n0
  have hlt7 := hb.lt
  have hn1 := I.n1
  have hn2 := I.n2
  have hn3 := I.n3
  have hat := I.at0
  have heq := I.eq
  have l9 : ldA 2 h7 (.pointer (some ⟨n + 4, 0, none⟩)) = some (.agg #[.int .i64 at_.id, .int .i64 at_.sum]) := by rw [ldA_at hb.e9]; simp
  simp only [fldE_ptr, Nat.zero_add, bnd_some, ldS_at hb.e7, List.getElem?_toArray, List.getElem?_cons_succ, List.getElem?_cons_zero, l9, fill_seen1, nw_eq]
  have f8 := Fr.push h7 (.cells #[.int .i64 at_.id, .int .i64 at_.sum] 105 (0, 0)) []
  have g8 := get_new h7 (.cells #[.int .i64 at_.id, .int .i64 at_.sum] 105 (0, 0))
  generalize h7.push (.cells #[.int .i64 at_.id, .int .i64 at_.sum] 105 (0, 0)) = h8 at *
  have sg8 : Seg h8 2 h7.size 0 [at_.enc] := by
    refine ⟨_, _, _, g8, by simp, by simp [Seen.enc], fun i j y hi hj => ?_⟩
    obtain rfl : i = 0 := by
      have := (List.getElem?_eq_some_iff.1 hi).1
      simpa using this
    obtain rfl : at_.enc = y := by simpa using hi
    simp [Seen.enc]
  refine own_app (ys := [at_.enc]) elem98 (hL.os.fr f8 (by simp)) sg8 (by simp [Seen.enc]) (by simp; omega) (by simp; omega) fun h9 sv' bs' os9 f9 nb9 => ?_
  have f8s := f8.size
  have f9s := f9.size
  have F9 : Fr h7 h9 bs := f8.trans f9 (by simp) (fun c _ hc => hc)
  have H9 := hb.fr' F9 hL.new.1
  have hdis := hL.new.2.2
  have oa9 := hL.oa.fr F9 fun b hb hb' => hdis b hb' hb
  have near9 := I.near.fr F9 fun b hb hb' => (I.nb b hb).2.1 hb'
  have nbs : ∀ b ∈ bs', n + 5 ≤ b := fun b hb => by rcases nb9 b hb with h | h; exact hL.new.1 b h; omega
  have ltb := hL.oa.lt
  have ltn := I.near.lt
  have L9 : RefL n sv' av (st ++ [at_]) a bs' ba h9 := ⟨by simpa using os9, oa9, nbs, hL.new.2.1, fun b hb hb' => by rcases nb9 b hb with h | h; exact hdis b h hb'; (have := ltb b hb'; omega)⟩
  have nn9 : ∀ b ∈ bn, n + 5 ≤ b ∧ b ∉ bs' ∧ b ∉ ba := fun b hb => ⟨(I.nb b hb).1, fun hb' => by rcases nb9 b hb' with h | h; exact (I.nb b hb).2.1 h; (have := ltn b hb; omega), (I.nb b hb).2.2⟩
  simp only [H9.st0 os9.cells os9.one, bnd_some]
  obtain ⟨H10, f10⟩ := H9.put7 sv' av 0 false
  generalize h9.setIfInBounds (n + 3) (.cells #[sv', av, .int .i64 0, .bool false] 100 (0, 0)) = h10 at *
  have L10 := L9.fr' f10 fun b hb => by simp at hb; subst hb; exact L9.low (by omega)
  have near10 := near9.fr f10 fun b hb hb' => by simp at hb'; have := (nn9 b hb).1; omega
  have hl1 : (st ++ [at_]).length = st.length + 1 := by simp
  have mu7 : muS n [nv] h7 = 4096 - st.length := by simp only [muS, slen_of hb hL]
  -- the next node
  have J1c : ∀ (nv' : Value) (h' : Hp) (nr' : List Seen) (a' : List Int) (av' : Value) (ba' bn' : List Nat), RefB hS n v tail w at_ sv' av' 0 false h' → RefL n sv' av' (st ++ [at_]) a' bs' ba' h' → OwnS h' 105 2 nv' (nr'.map Seen.enc) bn' → (∀ b ∈ bn', n + 5 ≤ b ∧ b ∉ bs' ∧ b ∉ ba') → (ids nr').Nodup → nr'.length ≤ (st.length + 1) * 1048576 → a'.length ≤ st.length + 1 → (∀ s ∈ nr', 0 ≤ s.sum ∧ s.sum ≤ 1099511627776) →
      restF (srW (ofL rows tail) w) (4095 - st.length) (st ++ [at_]) nr' a' = fd →
      f52.J1 nv' h' (.pointer (some ⟨n + 3, 0, none⟩)) (.pointer (some ⟨n + 2, 0, none⟩)) R (.pointer (some ⟨n + 4, 0, none⟩)) (RefInv hS n rows v tail w fd) (muS n) nv h7 := by
    intro nv' h' nr' a' av' ba' bn' H' L' N' hnn hnd hlen hla hns hfd
    refine ref_J1 (S := srW (ofL rows tail) w) H' L' N' hnn (by omega) hnd (by omega) (by rw [hl1, show 4096 - (st.length + 1) = 4095 - st.length by omega]; exact hfd) ret fun h1 h2 h3 h'' nv'' bn'' H'' L'' N'' hnn'' => ?_
    have hmem : ∀ s ∈ nr'.eraseIdx (leastI nr'), s ∈ nr' := fun s hs => List.mem_of_mem_eraseIdx hs
    refine ⟨⟨st ++ [at_], nr'.eraseIdx (leastI nr'), a', snth nr' (leastI nr'), sv', av', nv'', bs', ba', bn'', rfl, H'', L'', N'', hnn'', ?_, ?_, by omega, by omega, hns _ (snth_mem h2), fun s hs => hns s (hmem s hs), h3⟩, ?_⟩
    · exact hnd.sublist ((List.eraseIdx_sublist _ _).map _)
    · rw [hl1]; have := (List.eraseIdx_sublist nr' (leastI nr')).length_le; omega
    · rw [mu7]; simp only [muS, slen_of H'' L'', hl1]; omega
  -- an end
  have retF : ∀ (h' : Hp) (a' : List Int) (av' : Value) (ba' : List Nat) (c : Int) (d : Bool), RefB hS n v tail w at_ sv' av' c d h' → RefL n sv' av' (st ++ [at_]) a' bs' ba' h' → fd = ⟨st ++ [at_], a', c, d⟩ →
      bnd (ldA 4 h' (.pointer (some ⟨n + 3, 0, none⟩))) fun t111_1 =>
      bnd (stE 4 h' (.pointer (some ⟨n + 2, 0, none⟩)) t111_1) fun h_13 =>
      bnd (ldA 4 h_13 (.pointer (some ⟨n + 2, 0, none⟩))) fun r6_1 => R r6_1 h_13 := by
    intro h' a' av' ba' c d H' L' hfd
    refine H'.ret L' fun h'' L'' f'' => ?_
    have := ret h'' sv' av' bs' ba' (by rw [hfd]; exact L'') f''
    rwa [hfd] at this
  have hcond : ∀ X Y : Prop, (((w.aim && decide (at_.id = w.to)) = true → X) ∧ ((w.aim && decide (at_.id = w.to)) = false → Y)) →
      bnd (bif isB (.bool w.aim) true then some (.pointer (some ⟨n + 4, 0, none⟩)) else some undef) fun t27_1 =>
      bnd (bif isB (.bool w.aim) true then ldS h10 t27_1 else some undef) fun t28_1 =>
      bnd (bif isB (.bool w.aim) true then some (.pointer (some ⟨n + 1, 1, none⟩)) else some undef) fun t29_1 =>
      bnd (bif isB (.bool w.aim) true then ldS h10 t29_1 else some undef) fun t30_1 =>
      bnd (bif isB (.bool w.aim) true then binE .eql t28_1 t30_1 else some undef) fun t31_1 =>
      bnd ((asB (.bool w.aim)).map fun t => bif t then t31_1 else (.bool false)) fun t32_1 => condT t32_1 X Y := by
    intro X Y h
    cases ha : w.aim
    · rw [ha] at h
      simpa using h.2 rfl
    · rw [ha] at h
      by_cases ht : at_.id = w.to
      · simpa [ldS_at H10.e9, ldS_at H10.e5, ht] using h.1 (by simp [ht])
      · simpa [ldS_at H10.e9, ldS_at H10.e5, ht] using h.2 (by simp [ht])
  simp only [ldS_at H10.e5, List.getElem?_toArray, List.getElem?_cons_succ, List.getElem?_cons_zero, bnd_some]
  refine hcond _ _ ⟨fun hov => ?_, fun hov => ?_⟩
  · simp only [H10.st3, bnd_some]
    obtain ⟨H', f'⟩ := H10.put7 sv' av 0 true
    refine retF _ a av ba 0 true H' (L10.fr' f' fun b hb => by simp at hb; subst hb; exact L10.low (by omega)) ?_
    exact settle_over (S := srW (ofL rows tail) w) hov heq
  · have hcond2 : ∀ X Y : Prop, (((decide (w.most < 0) || decide (at_.sum < w.most)) = true → X) ∧ ((decide (w.most < 0) || decide (at_.sum < w.most)) = false → Y)) →
        bnd (binE .lss (.int .i64 w.most) (.int .i64 0)) fun t37_1 =>
        bnd (bif isB t37_1 false then some (.pointer (some ⟨n + 4, 1, none⟩)) else some undef) fun t39_1 =>
        bnd (bif isB t37_1 false then ldS h10 t39_1 else some undef) fun t40_1 =>
        bnd (bif isB t37_1 false then some (.pointer (some ⟨n + 1, 2, none⟩)) else some undef) fun t41_1 =>
        bnd (bif isB t37_1 false then ldS h10 t41_1 else some undef) fun t42_1 =>
        bnd (bif isB t37_1 false then binE .lss t40_1 t42_1 else some undef) fun t43_1 =>
        bnd ((asB t37_1).map fun t => bif t then (.bool true) else t43_1) fun t44_1 => condT t44_1 X Y := by
      intro X Y h
      by_cases hm : w.most < 0
      · simpa [hm] using h.1 (by simp [hm])
      · by_cases ht : at_.sum < w.most
        · simpa [ldS_at H10.e9, ldS_at H10.e5, hm, ht] using h.1 (by simp [ht])
        · simpa [ldS_at H10.e9, ldS_at H10.e5, hm, ht] using h.2 (by simp [hm, ht])
    refine hcond2 _ _ ⟨fun has => ?_, fun has => ?_⟩
    · simp only [ldS_at H10.e7, ldS_at H10.e9, List.getElem?_toArray, List.getElem?_cons_succ, List.getElem?_cons_zero, bnd_some, fill_int, nw_eq]
      have f20 := Fr.push h10 (.cells #[.int .i64 at_.id] 2 (0, 0)) []
      have g20 := get_new h10 (.cells #[.int .i64 at_.id] 2 (0, 0))
      generalize h10.push (.cells #[.int .i64 at_.id] 2 (0, 0)) = h20 at *
      refine own_app elem28 (L10.oa.fr f20 (by simp)) (seg_one g20) (by simp) (by simp [ints]; omega) (by simp [ints]; omega) fun h21 av' ba' oa21 f21 nb21 => ?_
      have F21 : Fr h10 h21 ba := f20.trans f21 (by simp) (fun c _ hc => hc)
      have f20s := f20.size
      have H21 := H10.fr' F21 L10.new.2.1
      have lt10 := H10.lt
      have lts := L10.os.lt
      have ltn := near10.lt
      have hdis' := L10.new.2.2
      have L21 : RefL n sv' av' (st ++ [at_]) (a ++ [at_.id]) bs' ba' h21 := ⟨L10.os.fr F21 hdis', by simpa [ints] using oa21, L10.new.1, fun b hb => by rcases nb21 b hb with h | h; exact L10.new.2.1 b h; omega, fun b hb hb' => by rcases nb21 b hb' with h | h; exact hdis' b hb h; (have := lts b hb; omega)⟩
      have near21 := near10.fr F21 fun b hb hb' => (nn9 b hb).2.2 hb'
      have nn21 : ∀ b ∈ bn, n + 5 ≤ b ∧ b ∉ bs' ∧ b ∉ ba' := fun b hb => ⟨(nn9 b hb).1, (nn9 b hb).2.1, fun hb' => by rcases nb21 b hb' with h | h; exact (nn9 b hb).2.2 h; (have := ltn b hb; omega)⟩
      simp only [H21.st1 oa21.cells oa21.one, bnd_some]
      obtain ⟨H22, f22⟩ := H21.put7 sv' av' 0 false
      generalize h21.setIfInBounds (n + 3) (.cells #[sv', av', .int .i64 0, .bool false] 100 (0, 0)) = h22 at *
      have L22 := L21.fr' f22 fun b hb => by simp at hb; subst hb; exact L21.low (by omega)
      have near22 := near21.fr f22 fun b hb hb' => by simp at hb'; have := (nn21 b hb).1; omega
      have ltn22 := near22.lt
      have l3 : ldA 2 h22 (.pointer (some ⟨n, 0, none⟩)) = some (.agg #[v, .bool tail]) := by rw [ldA_at H22.e3]; simp
      simp only [l3, ldS_at H22.e9, List.getElem?_toArray, List.getElem?_cons_zero, bnd_some]
      refine of_specB net H22.fr at_.id fun h23 v23 hB f23 => ?_
      obtain ⟨B0, rv0, hB0⟩ := hB
      obtain ⟨B1, rv, hB1⟩ := rowB_low rv0
      have H23 := H22.fr' f23 (by simp)
      have L23 := L22.fr' f23 (by simp)
      have near23 := near22.fr f23 (by simp)
      have hal := ofL_len net tail at_.id
      simp only [extE_tuple, List.getElem?_toArray, List.getElem?_cons_succ, List.getElem?_cons_zero, bnd_some, bin_neq, condT_bool]
      by_cases hc : (ofL rows tail at_.id).2 = 0
      · have hd : decide ((ofL rows tail at_.id).2 ≠ 0) = false := by simp [hc]
        simp only [hd, Bool.false_eq_true, if_false]
        refine ref_L2 H23 L23 near23 nn21 rv (fun b hb => ⟨(hB1 b hb).2, fun hb' => ?_⟩) (by omega) I.nd (by omega) hal hat I.nr0 (fun hbad h' L' f' => ?_) fun hgood h' nv' nr' bn' hnr' H' L' N' hnn hnd hlen hns => ?_
        · have h1 := (nn21 b hb').1
          have h2 := ltn22 b hb'
          rcases hB0 b (hB1 b hb).1 with h | h <;> omega
        · have e := settle_bad (S := srW (ofL rows tail) w) hov has hc hbad heq
          have := ret h' sv' av' bs' ba' (by rw [e]; exact L') f'
          rw [e] at this
          exact this
        · have e := settle_good (S := srW (ofL rows tail) w) hov has hc hgood heq
          exact J1c nv' h' nr' (a ++ [at_.id]) av' ba' bn' H' L' N' hnn hnd (by omega) (by simp; omega) hns (by rw [hnr']; exact e)
      · have hd : decide ((ofL rows tail at_.id).2 ≠ 0) = true := by simp [hc]
        simp only [hd, if_true, H23.st2, bnd_some]
        obtain ⟨H', f'⟩ := H23.put7 sv' av' (ofL rows tail at_.id).2 false
        exact retF _ (a ++ [at_.id]) av' ba' _ false H' (L23.fr' f' fun b hb => by simp at hb; subst hb; exact L23.low (by omega)) (settle_code (S := srW (ofL rows tail) w) hov has hc heq)
    · have q1 : nr.length ≤ (st.length + 1) * 1048576 := Nat.le_trans hn1 (Nat.mul_le_mul_right _ (Nat.le_succ _))
      have q2 : a.length ≤ st.length + 1 := Nat.le_succ_of_le hn3
      have q3 := settle_pass (S := srW (ofL rows tail) w) hov has heq
      have q4 := J1c nv h10 nr a av ba bn H10 L10 near10 nn9 I.nd q1 q2 I.nr0
      exact q4 q3
end Go.Proofs.YtkiakofohkecaaaDoor

/- The reference's search, Hops and Reach. No condition but that the memory is as told. -/
namespace Go.Proofs.YtkiakofohkecaaaDoor
open Go Go.Fw

theorem fill_at (k : Int) : (fillS [(0, 1), (1, 1)] #[(.int .i64 0), (.int .i64 0)] [(0, .int .i64 k)]).map Value.agg = some (.agg #[.int .i64 k, .int .i64 0]) := by kernel_rfl
theorem fill_want1 (t : Int) : (fillS [(0, 1), (1, 1), (2, 1), (3, 1)] #[(.bool false), (.int .i64 0), (.int .i64 0), (.bool false)] [(0, (.bool true)), (1, .int .i64 t), (2, (.int .i64 (-1))), (3, (.bool true))]).map Value.agg = some (.agg #[.bool true, .int .i64 t, .int .i64 (-1), .bool true]) := by kernel_rfl
theorem fill_want2 (t : Int) : (fillS [(0, 1), (1, 1), (2, 1), (3, 1)] #[(.bool false), (.int .i64 0), (.int .i64 0), (.bool false)] [(2, .int .i64 t), (3, (.bool true))]).map Value.agg = some (.agg #[.bool false, .int .i64 0, .int .i64 t, .bool true]) := by kernel_rfl

theorem search_spec {h : Hp} {v : Value} {rows : List NRow} {tail : Bool} (net : NetOk h v rows) (w : WantI) (start : Int) {R : Value → Hp → Prop}
    (hR : ∀ h' sv av bs ba, RefL h.size sv av (searchF (srW (ofL rows tail) w) start).settled (searchF (srW (ofL rows tail) w) start).asked bs ba h' → Fr h h' [] → R (.agg #[sv, av, .int .i64 (searchF (srW (ofL rows tail) w) start).code, .bool (searchF (srW (ofL rows tail) w) start).hit]) h') :
    CallsH Tryd.prog 52 #[.agg #[v, .bool tail], .int .i64 start, .agg #[.bool w.aim, .int .i64 w.to, .int .i64 w.most, .bool w.hops]] h R := by
  refine f52.ok ?_
  unfold f52.T
  simp only [nw_eq, cells_agg, ptr0_eq, fill_at, bnd_some]
  have f1 := Fr.push h (.cells #[v, .bool tail] 26 (0, 0)) []
  have g1 := get_new h (.cells #[v, .bool tail] 26 (0, 0))
  have z1 : (h.push (.cells #[v, .bool tail] 26 (0, 0))).size = h.size + 1 := by simp
  generalize h.push (.cells #[v, .bool tail] 26 (0, 0)) = h1 at *
  have f2 := Fr.push h1 (.cells #[.bool w.aim, .int .i64 w.to, .int .i64 w.most, .bool w.hops] 103 (0, 0)) []
  have g2 := get_new h1 (.cells #[.bool w.aim, .int .i64 w.to, .int .i64 w.most, .bool w.hops] 103 (0, 0))
  have z2 : (h1.push (.cells #[.bool w.aim, .int .i64 w.to, .int .i64 w.most, .bool w.hops] 103 (0, 0))).size = h.size + 2 := by simp [z1]
  rw [z1] at g2
  simp only [z1, z2]
  generalize h1.push (.cells #[.bool w.aim, .int .i64 w.to, .int .i64 w.most, .bool w.hops] 103 (0, 0)) = h2 at *
  have f3 := Fr.push h2 (.cells #[.slice none 0 0, .slice none 0 0, .int .i64 0, .bool false] 100 (0, 0)) []
  have g3 := get_new h2 (.cells #[.slice none 0 0, .slice none 0 0, .int .i64 0, .bool false] 100 (0, 0))
  have z3 : (h2.push (.cells #[.slice none 0 0, .slice none 0 0, .int .i64 0, .bool false] 100 (0, 0))).size = h.size + 3 := by simp [z2]
  rw [z2] at g3
  simp only [z3]
  generalize h2.push (.cells #[.slice none 0 0, .slice none 0 0, .int .i64 0, .bool false] 100 (0, 0)) = h3 at *
  have f4 := Fr.push h3 (.cells #[.slice none 0 0, .slice none 0 0, .int .i64 0, .bool false] 100 (0, 0)) []
  have g4 := get_new h3 (.cells #[.slice none 0 0, .slice none 0 0, .int .i64 0, .bool false] 100 (0, 0))
  have z4 : (h3.push (.cells #[.slice none 0 0, .slice none 0 0, .int .i64 0, .bool false] 100 (0, 0))).size = h.size + 4 := by simp [z3]
  rw [z3] at g4
  simp only [z4]
  generalize h3.push (.cells #[.slice none 0 0, .slice none 0 0, .int .i64 0, .bool false] 100 (0, 0)) = h4 at *
  have f5 := Fr.push h4 (.cells #[.int .i64 0, .int .i64 0] 105 (0, 0)) []
  have g5 := get_new h4 (.cells #[.int .i64 0, .int .i64 0] 105 (0, 0))
  rw [z4] at g5
  generalize h4.push (.cells #[.int .i64 0, .int .i64 0] 105 (0, 0)) = h5 at *
  have s6 : stE 2 h5 (.pointer (some ⟨h.size + 4, 0, none⟩)) (.agg #[.int .i64 start, .int .i64 0]) = some (h5.setIfInBounds (h.size + 4) (.cells #[.int .i64 start, .int .i64 0] 105 (0, 0))) := by
    rw [stE_at _ g5]; simp [splice]
  simp only [s6, bnd_some]
  have F5 : Fr h h5 [] := (((f1.then f2).then f3).then f4).then f5
  have F6 := F5.set_new (n := h.size + 4) (by omega) (.cells #[.int .i64 start, .int .i64 0] 105 (0, 0))
  have e3 := get_set_ne (c := h.size + 4) (o' := .cells #[.int .i64 start, .int .i64 0] 105 (0, 0)) ((((f2.then f3).then f4).then f5).get g1 (by simp)) (by omega)
  have e5 := get_set_ne (c := h.size + 4) (o' := .cells #[.int .i64 start, .int .i64 0] 105 (0, 0)) (((f3.then f4).then f5).get g2 (by simp)) (by omega)
  have e6 := get_set_ne (c := h.size + 4) (o' := .cells #[.int .i64 start, .int .i64 0] 105 (0, 0)) ((f4.then f5).get g3 (by simp)) (by omega)
  have e7 := get_set_ne (c := h.size + 4) (o' := .cells #[.int .i64 start, .int .i64 0] 105 (0, 0)) (f5.get g4 (by simp)) (by omega)
  have e9 := get_set (o' := .cells #[.int .i64 start, .int .i64 0] 105 (0, 0)) g5
  generalize h5.setIfInBounds (h.size + 4) (.cells #[.int .i64 start, .int .i64 0] 105 (0, 0)) = h6 at *
  have I0 : RefI h h.size rows v tail w (searchF (srW (ofL rows tail) w) start) [] [] [] ⟨start, 0⟩ (.slice none 0 0) (.slice none 0 0) (.slice none 0 0) [] [] [] h6 :=
    ⟨⟨F6, rfl, e3, e5, e6, e7, e9⟩, ⟨.nil _ _ _, .nil _ _ _, by simp, by simp, by simp⟩, .nil _ _ _, by simp, by simp [ids], by simp, by simp, by simp, by simp, by simp, rfl⟩
  unfold f52.L1
  refine ⟨RefInv h h.size rows v tail w (searchF (srW (ofL rows tail) w) start), muS h.size, ⟨_, _, _, _, _, _, _, _, _, _, rfl, I0⟩, ?_⟩
  intro t18 t19 t20 t21 t22 t23 t24 t25 t26 t27 t28 t29 t30 t31 t32 t33 t34 t35 t36 t37 t38 t39 t40 t41 t42 t43 t44 t45 t46 t47 t48 t49 t50 t51 t53 t54 t55 t56 t52 t57 t58 t10 t11 t59 t60 t61 t62 t63 t64 t65 t66 t67 t70 t71 t72 t73 t74 t75 t76 t13 t77 t78 t79 t80 t81 t82 t83 t84 t85 t86 t87 t88 t89 t90 t91 t92 t93 t94 t95 t96 t97 t98 t99 t100 t101 t102 t103 t104 t105 t106 t107 t68 t69 t12 t108 t109 t110 t111 t112 t113 t114 t115 t116 t117 t118 t119 t14 t120 t121 t122 t123 t124 t125 t126 t127 t128 t15 t129 t130 t131 t132 t133 t134 t8 h7
  rintro ⟨st, nr, a, at_, sv, av, nv, bs, ba, bn, hv, I⟩
  obtain rfl : t8 = nv := by simpa using hv
  exact ref_round net I hR

def zero100 : Obj := .cells #[.slice none 0 0, .slice none 0 0, .int .i64 0, .bool false] 100 (0, 0)
theorem new_box100 (h : Hp) {a b : Value} {c : Int} {d : Bool} (ha : a.oneCell' = true) (hb : b.oneCell' = true) : stE 4 (h.push (.cells #[.slice none 0 0, .slice none 0 0, .int .i64 0, .bool false] 100 (0, 0))) (.pointer (some ⟨h.size, 0, none⟩)) (.agg #[a, b, .int .i64 c, .bool d]) =
    some ((h.push (.cells #[.slice none 0 0, .slice none 0 0, .int .i64 0, .bool false] 100 (0, 0))).setIfInBounds h.size (.cells #[a, b, .int .i64 c, .bool d] 100 (0, 0))) := by
  rw [stE_at _ (get_new h _)]; simp [splice, ha, hb]
theorem srW_hops (of : Int → List Arc × Int) (to : Int) : srW of ⟨true, to, -1, true⟩ = srHops of to := by simp [srW, srHops]
theorem srW_reach (of : Int → List Arc × Int) {most : Int} (hm : 0 ≤ most) : srW of ⟨false, 0, most, true⟩ = srReach of most := by
  have : ¬ most < 0 := by omega
  simp [srW, srReach, this]

theorem rest_len (S : Sr) : ∀ n st nr a, (restF S n st nr a).settled.length ≤ st.length + n
  | 0, st, nr, a => by
    unfold restF
    split <;> simp
  | n + 1, st, nr, a => by
    have h1 : ∀ st' nr' a', st'.length = st.length + 1 → (restF S n st' nr' a').settled.length ≤ st.length + (n + 1) := fun st' nr' a' e => by have := rest_len S n st' nr' a'; omega
    unfold restF
    split
    · simp
    · unfold settleF
      split
      · simp
      · split
        · split
          · simp
          · split
            · simp
            · exact h1 _ _ _ (by simp)
        · exact h1 _ _ _ (by simp)
theorem search_len (S : Sr) (start : Int) : (searchF S start).settled.length ≤ 4096 := by
  rw [← search_start]
  have := rest_len S 4096 [] [⟨start, 0⟩] []
  simpa using this
theorem rhops_spec {h : Hp} {v : Value} {rows : List NRow} {tail : Bool} (net : NetOk h v rows) (start to : Int) {R : Value → Hp → Prop}
    (hR : ∀ h' av ba, OwnS h' 2 1 av (ints (searchF (srHops (ofL rows tail) to) start).asked) ba → Fr h h' [] → (∀ b ∈ ba, h.size ≤ b) → R (.tuple #[.int .i64 (if (searchF (srHops (ofL rows tail) to) start).hit then lastSum (searchF (srHops (ofL rows tail) to) start) else 0), .bool (searchF (srHops (ofL rows tail) to) start).hit, .int .i64 (searchF (srHops (ofL rows tail) to) start).code, av]) h') :
    CallsH Tryd.prog 20 #[.agg #[v, .bool tail], .int .i64 start, .int .i64 to] h R := by
  refine f20.ok ?_
  unfold f20.T
  simp only [nw_eq, cells_agg, ptr0_eq]
  have f1 := Fr.push h (.cells #[v, .bool tail] 26 (0, 0)) []
  have g1 := get_new h (.cells #[v, .bool tail] 26 (0, 0))
  generalize h.push (.cells #[v, .bool tail] 26 (0, 0)) = h1 at *
  have l1 : ldA 2 h1 (.pointer (some ⟨h.size, 0, none⟩)) = some (.agg #[v, .bool tail]) := by rw [ldA_at g1]; simp
  simp only [l1, bnd_some, fill_want1]
  refine search_spec (net.fr f1) ⟨true, to, -1, true⟩ start fun h2 sv av bs ba L2 f2 => ?_
  rw [srW_hops] at L2 ⊢
  have hh := search_hit (srHops (ofL rows tail) to) start
  have hln := search_len (srHops (ofL rows tail) to) start
  have f1s := f1.size
  simp only [nw_eq, ptr0_eq, new_box100 h2 L2.os.one L2.oa.one, bnd_some]
  obtain ⟨f3, g3⟩ := box_fr h2 (.cells #[.slice none 0 0, .slice none 0 0, .int .i64 0, .bool false] 100 (0, 0)) (.cells #[sv, av, .int .i64 (searchF (srHops (ofL rows tail) to) start).code, .bool (searchF (srHops (ofL rows tail) to) start).hit] 100 (0, 0)) rfl rfl
  generalize (h2.push (.cells #[.slice none 0 0, .slice none 0 0, .int .i64 0, .bool false] 100 (0, 0))).setIfInBounds h2.size (.cells #[sv, av, .int .i64 (searchF (srHops (ofL rows tail) to) start).code, .bool (searchF (srHops (ofL rows tail) to) start).hit] 100 (0, 0)) = h4 at *
  have L4 := L2.fr' f3 (by simp)
  have fin := hR h4 av ba L4.oa ((f1.then f2).then f3) fun b hb => by have := L2.new.2.1 b hb; omega
  generalize searchF (srHops (ofL rows tail) to) start = fd at *
  simp only [fldE_ptr, Nat.zero_add, ldS_at g3, List.getElem?_toArray, List.getElem?_cons_succ, List.getElem?_cons_zero, bnd_some, bin_neq]
  cases hit : fd.hit
  · rw [hit] at fin
    by_cases hc : fd.code = 0
    · simpa [hc, hit, ldS_at g3] using fin
    · simpa [hc, isB_undef] using fin
  · obtain ⟨hc, st, s, hst, _⟩ := hh hit
    rw [hit, hc] at fin
    have hlen : fd.settled.length = st.length + 1 := by rw [hst]; simp
    obtain ⟨b, o, e, r0, r1⟩ := seen_read L4.os.rowv (j := st.length) (by omega)
    have hs : fd.settled[st.length]'(by omega) = s := by simp [hst]
    rw [hs] at r1
    have hls : lastSum fd = s.sum := by simp [lastSum, hst]
    have hbd : (fd.settled.map Seen.enc).length = st.length + 1 := by simp [hlen]
    have hsz : st.length + 1 ≤ 4096 := by omega
    have w1 : IntKind.i64.wrap (((fd.settled.map Seen.enc).length : Int) - 1) = (st.length : Int) := by rw [hbd, i64_id (by omega) (by omega)]; omega
    have hd : decide (fd.code ≠ 0) = false := by simp [hc]
    simp only [hd, isB_bool, beq_self_eq_true, cond_true, unE_not, Bool.not_true, asB_bool, Option.map_some, cond_false, bnd_some, condT_bool, Bool.false_eq_true, if_false, ldS_at g3, List.getElem?_toArray, List.getElem?_cons_succ, List.getElem?_cons_zero, L4.os.lenE, bin_sub, w1, e, fldE_ptr, r1]
    rw [hls] at fin
    simpa [hit] using fin

def OInv (h0 : Hp) (l : List Seen) (q : Nat) (sv av : Value) (bs ba : List Nat) (a : List Int) (vs : List Value) (h : Hp) : Prop :=
  ∃ (i : Nat) (v : Value) (bl : List Nat), vs = [v, .int .i64 i] ∧ i ≤ l.length ∧ OwnS h 2 1 v (ints (ids (l.take i))) bl ∧ (∀ b ∈ bl, h0.size ≤ b) ∧ Fr h0 h []

theorem rreach_spec {h : Hp} {v : Value} {rows : List NRow} {tail : Bool} (net : NetOk h v rows) (start : Int) {most : Int} (hm : 0 ≤ most) {R : Value → Hp → Prop}
    (hR : ∀ h' ov av bv ba, OwnS h' 2 1 ov (if (searchF (srReach (ofL rows tail) most) start).code = 0 then ints (ids (searchF (srReach (ofL rows tail) most) start).settled) else []) bv → OwnS h' 2 1 av (ints (searchF (srReach (ofL rows tail) most) start).asked) ba → Fr h h' [] → (∀ b ∈ bv, h.size ≤ b) → (∀ b ∈ ba, h.size ≤ b) → R (.tuple #[ov, .int .i64 (searchF (srReach (ofL rows tail) most) start).code, av]) h') :
    CallsH Tryd.prog 23 #[.agg #[v, .bool tail], .int .i64 start, .int .i64 most] h R := by
  refine f23.ok ?_
  unfold f23.T
  simp only [nw_eq, cells_agg, ptr0_eq]
  have f1 := Fr.push h (.cells #[v, .bool tail] 26 (0, 0)) []
  have g1 := get_new h (.cells #[v, .bool tail] 26 (0, 0))
  generalize h.push (.cells #[v, .bool tail] 26 (0, 0)) = h1 at *
  have l1 : ldA 2 h1 (.pointer (some ⟨h.size, 0, none⟩)) = some (.agg #[v, .bool tail]) := by rw [ldA_at g1]; simp
  have hmd : decide (most < 0) = false := by simp; omega
  simp only [bin_lss, hmd, condT_bool, Bool.false_eq_true, if_false, l1, bnd_some, fill_want2]
  refine search_spec (net.fr f1) ⟨false, 0, most, true⟩ start fun h2 sv av bs ba L2 f2 => ?_
  rw [srW_reach _ hm] at L2 ⊢
  have hln := search_len (srReach (ofL rows tail) most) start
  have f1s := f1.size
  have f2s := f2.size
  simp only [nw_eq, ptr0_eq, new_box100 h2 L2.os.one L2.oa.one, bnd_some]
  obtain ⟨f3, g3⟩ := box_fr h2 (.cells #[.slice none 0 0, .slice none 0 0, .int .i64 0, .bool false] 100 (0, 0)) (.cells #[sv, av, .int .i64 (searchF (srReach (ofL rows tail) most) start).code, .bool (searchF (srReach (ofL rows tail) most) start).hit] 100 (0, 0)) rfl rfl
  generalize (h2.push (.cells #[.slice none 0 0, .slice none 0 0, .int .i64 0, .bool false] 100 (0, 0))).setIfInBounds h2.size (.cells #[sv, av, .int .i64 (searchF (srReach (ofL rows tail) most) start).code, .bool (searchF (srReach (ofL rows tail) most) start).hit] 100 (0, 0)) = h4 at *
  have L4 := L2.fr' f3 (by simp)
  have f3s := f3.size
  have hba : ∀ b ∈ ba, h.size ≤ b := fun b hb => by have := L2.new.2.1 b hb; omega
  have F4 : Fr h h4 [] := (f1.then f2).then f3
  generalize searchF (srReach (ofL rows tail) most) start = fd at *
  simp only [fldE_ptr, Nat.zero_add, ldS_at g3, List.getElem?_toArray, List.getElem?_cons_succ, List.getElem?_cons_zero, bnd_some, bin_neq, condT_bool]
  by_cases hc : fd.code = 0
  · have hd : decide (fd.code ≠ 0) = false := by simp [hc]
    simp only [hd, Bool.false_eq_true, if_false]
    unfold f23.L1
    refine ⟨OInv h4 fd.settled h2.size sv av bs ba fd.asked, muF fd.settled.length, ⟨0, _, [], rfl, by omega, by simpa [ids, ints] using OwnS.nil h4 2 1, by simp, Fr.refl _ _⟩, ?_⟩
    intro t26 t27 t28 t29 t30 t33 t34 t35 t36 t37 t38 t39 t40 t41 t10 t31 t32 t11 h5
    rintro ⟨i, v5, bl5, hv, hi, o5, nb5, F5⟩
    obtain ⟨rfl, rfl⟩ : t10 = v5 ∧ t11 = .int .i64 i := by simpa using hv
    have g5 := F5.get g3 (by simp)
    have F5s := F5.size
    have os5 := L4.os.fr F5 (by simp)
    simp only [fldE_ptr, Nat.zero_add, ldS_at g5, List.getElem?_toArray, List.getElem?_cons_succ, List.getElem?_cons_zero, bnd_some, os5.lenE, bin_lss, condT_bool]
    by_cases hlt : i < fd.settled.length
    · have hdec : decide ((i : Int) < ((fd.settled.map Seen.enc).length : Int)) = true := by simp; omega
      have w1 : IntKind.i64.wrap ((i : Int) + 1) = ((i + 1 : Nat) : Int) := by rw [i64_id (by omega) (by omega)]; omega
      obtain ⟨b, o, e, r0, r1⟩ := seen_read os5.rowv (j := i) hlt
      simp only [hdec, if_true, e, fldE_ptr, Nat.add_zero, r0, bnd_some, fill_int, nw_eq]
      have f6 := Fr.push h5 (.cells #[.int .i64 fd.settled[i].id] 2 (0, 0)) []
      have g6 := get_new h5 (.cells #[.int .i64 fd.settled[i].id] 2 (0, 0))
      generalize h5.push (.cells #[.int .i64 fd.settled[i].id] 2 (0, 0)) = h6 at *
      refine own_app elem28 (o5.fr f6 (by simp)) (seg_one g6) (by simp) (by simp [ints, ids]; omega) (by simp [ints, ids]; omega) fun h7 v7 bl7 o7 f7 nb7 => ?_
      have f6s := f6.size
      simp only [bin_add, bnd_some, w1]
      refine ⟨⟨i + 1, v7, bl7, rfl, by omega, ?_, fun b hb => ?_, F5.trans (f6.trans f7 (by simp) (fun c _ hc => hc)) (fun _ _ h => h) (fun c hc hm => by have := nb5 c hm; omega)⟩, by simp only [muF, Int.toNat_natCast]; omega⟩
      · have e : ints (ids (fd.settled.take (i + 1))) = ints (ids (fd.settled.take i)) ++ [[.int .i64 fd.settled[i].id]] := by
          rw [List.take_add_one, List.getElem?_eq_getElem hlt, Option.toList_some, ids, List.map_append, ints, List.map_append]; rfl
        rw [e]; exact o7
      · rcases nb7 b hb with h | h
        · exact nb5 b h
        · omega
    · have hdec : decide ((i : Int) < ((fd.settled.map Seen.enc).length : Int)) = false := by simp; omega
      obtain rfl : i = fd.settled.length := by omega
      rw [List.take_length] at o5
      simp only [hdec, Bool.false_eq_true, if_false]
      have := hR h5 t10 av bl5 ba (by simpa [hc] using o5) (L4.oa.fr F5 (by simp)) (F4.then F5) (fun b hb => by have := nb5 b hb; omega) hba
      rwa [hc] at this
  · have hd : decide (fd.code ≠ 0) = true := by simp [hc]
    simp only [hd, if_true]
    exact hR h4 _ av [] ba (by simpa [hc] using OwnS.nil h4 2 1) L4.oa F4 (by simp) hba
theorem rreach_none {h : Hp} {v : Value} {tail : Bool} (start : Int) {most : Int} (hm : most < 0) {R : Value → Hp → Prop} (hR : ∀ h', Fr h h' [] → R (.tuple #[.slice none 0 0, .int .i64 1, .slice none 0 0]) h') :
    CallsH Tryd.prog 23 #[.agg #[v, .bool tail], .int .i64 start, .int .i64 most] h R := by
  refine f23.ok ?_
  unfold f23.T
  have f1 := Fr.push h (.cells #[v, .bool tail] 26 (0, 0)) []
  simpa [hm] using hR _ f1
end Go.Proofs.YtkiakofohkecaaaDoor

/- Are the rows that were shown as they were: whole. No condition but that the memory is as told. -/
namespace Go.Proofs.YtkiakofohkecaaaDoor
open Go Go.Fw
theorem fs62 : (Tryd.prog.fieldsOf 62).toList.map (fun f => (f.name == "_", f.type, f.offset)) = [(false, 2, 0), (false, 2, 1), (false, 2, 2)] := by kernel_rfl
theorem u62 : Tryd.prog.underlying 62 = some (.struct (Tryd.prog.fieldsOf 62)) := by kernel_rfl
theorem u2 : Tryd.prog.underlying 2 = some (.int .i64) := by kernel_rfl
theorem eqf {w : World} {d : Nat} (xs : Array Value) {fs : List Field} (n : ∀ f ∈ fs, (f.name == "_") = false) (t : ∀ f ∈ fs, f.type = 2) (o : ∀ f ∈ fs, ∃ k : Int, xs[f.offset]? = some (.int .i64 k)) : (Op.eqFields (d + 1) xs xs fs).run Tryd.prog w = .ok true w := by
  induction fs with
  | nil => simp [Op.eqFields]
  | cons f fs ih =>
    have hn : f.name ≠ "_" := by simpa using n f (by simp)
    have ht := t f (by simp)
    obtain ⟨k, hk⟩ := o f (by simp)
    have hp : (part 2 xs f.offset).run Tryd.prog w = .ok (.int .i64 k) w := by
      simp [part, isAgg, run_underlying u2, Result.andThen, hk]
    have hi := run_equalIn_int (P := Tryd.prog) w d 2 .i64 .i64 k k u2
    have ih' := ih (fun f hf => n f (by simp [hf])) (fun f hf => t f (by simp [hf])) fun f hf => o f (by simp [hf])
    simp [Op.eqFields, hn, ht, hp, hi, Result.andThen, ih']
theorem neq_arc (x : Arc) {a b : Operand} {K : Value → Prop} (hK : K (.bool false)) :
    prS Tryd.prog (binS .neq 62 a b (.agg #[.int .i64 x.edge, .int .i64 x.to, .int .i64 x.weight]) (.agg #[.int .i64 x.edge, .int .i64 x.to, .int .i64 x.weight])) K := by
  refine ⟨_, fun w => ?_, hK⟩
  have hg : Tryd.prog.eqGuardType Tryd.prog.depth 62 = false := by kernel_rfl
  have hs : Tryd.prog.stoodInHeld 62 = false := by kernel_rfl
  have h3 := fs62
  have hf : ∀ f ∈ (Tryd.prog.fieldsOf 62).toList, (f.name == "_", f.type, f.offset) ∈ [(false, 2, 0), (false, 2, 1), (false, 2, 2)] := fun f hf => by rw [← h3]; exact List.mem_map.2 ⟨f, hf, rfl⟩
  have hq : (Op.equalIn 10000 62 (.agg #[.int .i64 x.edge, .int .i64 x.to, .int .i64 x.weight]) (.agg #[.int .i64 x.edge, .int .i64 x.to, .int .i64 x.weight])).run Tryd.prog w = .ok true w := by
    rw [run_equalIn_struct (d := 9999) _ _ _ _ u62 hs]
    refine eqf (d := 9998) _ (fun f h => ?_) (fun f h => ?_) fun f h => ?_
    · have := hf f h; simp at this; rcases this with h | h | h <;> simp [h]
    · have := hf f h; simp at this; rcases this with h | h | h <;> simp [h]
    · have := hf f h; simp at this; rcases this with h | h | h <;> simp [h]
  unfold binS
  simp [run_eqGuard_agg w _ _ _ _ _ _ hg, run_neq_struct, hq, Result.andThen]

def WInv (n : Nat) (h : Hp) (vs : List Value) (h' : Hp) : Prop := ∃ i : Nat, vs = [.int .i64 i] ∧ i ≤ n ∧ Fr h h' []
def WInv2 (n : Nat) (h : Hp) (vs : List Value) (h' : Hp) : Prop := ∃ i : Nat, vs = [.int .i64 i] ∧ i ≤ n ∧ h' = h

set_option maxHeartbeats 2000000 in
theorem whole_spec {h0 h : Hp} {rows : List NRow} {tail : Bool} {v t1 : Value} {q : Nat} {gs : List GRow} {bla blg : List Nat} {Em : Nat} {fm : Nat × Nat} (net : NetOk h0 v rows) (hm : h0[2]? = some (.cells #[.int .i64 (-71), .int .i64 (-72), .int .i64 (-73)] Em fm))
    (H : ShownAt h0 rows tail v q gs bla blg h) (ra : RowV h 1 t1 (ints (gs.map (·.id)))) (hn : gs.length ≤ 1099511627776) {R : Value → Hp → Prop} (hR : ∀ h', Fr h h' [] → R (.bool true) h') :
    CallsH Tryd.prog 21 #[.pointer (some ⟨q, 0, none⟩), t1] h R := by
  obtain ⟨av, gv, e, oa, og⟩ := H.top
  refine f21.ok ?_
  unfold f21.T
  simp only [nilE_ptr, bnd_some, fldE_ptr, Nat.zero_add, ldS_at e, List.getElem?_toArray, List.getElem?_cons_succ, List.getElem?_cons_zero]
  refine ids_spec oa.rowv ra (by simpa using hn) ?_
  have hlg : (gs.map fun g => [g.val rows tail]).length = gs.length := by simp
  simp only [decide_true, unE_not, Bool.not_true, bnd_some, isB_bool, beq_self_eq_true, cond_true, cond_false, nilE_ptr, fldE_ptr, Nat.zero_add, ldS_at e, List.getElem?_toArray, List.getElem?_cons_succ, List.getElem?_cons_zero, og.lenE, ints_len ra, bin_neq, asB_bool, Option.map_some]
  have hd : decide (((gs.map fun g => [g.val rows tail]).length : Int) ≠ ((gs.map (·.id)).length : Int)) = false := by simp
  simp only [hd, condT_bool, Bool.false_eq_true, if_false]
  unfold f21.L1
  refine ⟨WInv gs.length h, muI gs.length, ⟨0, rfl, by omega, Fr.refl _ _⟩, ?_⟩
  intro t26 t27 t28 t29 t33 t34 t35 t36 t37 t38 t39 t40 t41 t32 t42 t43 t6 t7 t44 t45 t46 t47 t48 t49 t50 t51 t52 t53 t54 t55 t56 t57 t58 t59 t60 t61 t62 t63 t64 t65 t66 t67 t68 t69 t70 t71 t72 t73 t74 t75 t76 t77 t78 t79 t80 t81 t82 t83 t84 t85 t86 t87 t88 t89 t90 t93 t94 t95 t96 t97 t98 t99 t100 t101 t102 t103 t104 t105 t106 t107 t4 t91 t92 t8 t30 t31 t5 h2
  rintro ⟨i, hv, hi, f2⟩
  obtain rfl : t5 = .int .i64 i := by simpa using hv
  have ra2 := ra.fr f2
  have e2 := f2.get e (by simp)
  have og2 := og.fr f2 (by simp)
  simp only [ints_len ra2, bnd_some, bin_lss, condT_bool]
  by_cases hlt : i < gs.length
  · have hdec : decide ((i : Int) < ((gs.map (·.id)).length : Int)) = true := by simp; omega
    have w1 : IntKind.i64.wrap ((i : Int) + 1) = ((i + 1 : Nat) : Int) := by rw [i64_id (by omega) (by omega)]; omega
    have l2 : ldA 2 h2 (.pointer (some ⟨q, 0, none⟩)) = some (.agg #[v, .bool tail]) := by rw [ldA_at e2]; simp
    obtain ⟨b1, o1, e1, r1⟩ := ints_read ra2 (j := i) (k := gs[i].id) (by simp [hlt])
    simp only [hdec, if_true, nilE_ptr, bnd_some, fldE_ptr, Nat.zero_add, l2, e1, r1]
    refine of_specB net (H.base.then f2) gs[i].id fun h3 v3 hB f3 => ?_
    obtain ⟨B, rB, _⟩ := hB
    have rv := rB.rowv
    have e3 := f3.get e2 (by simp)
    have og3 := og2.fr f3 (by simp)
    have hal := ofL_len net tail gs[i].id
    have F3 : Fr h h3 [] := f2.then f3
    have own := ((H.each gs[i] (by simp)).fr F3 (by simp)).seg
    have hol : (ownL rows tail gs[i].id).length = (ofL rows tail gs[i].id).1.length + 2 := by simp [ownL]
    have ownv : RowV h3 3 (gs[i].val rows tail) (ownL rows tail gs[i].id) := ⟨_, gs[i].cap, rfl, fun _ => ⟨gs[i].b, 0, rfl, own⟩⟩
    have hol' : lenE (gs[i].val rows tail) = some (.int .i64 (((ofL rows tail gs[i].id).1.length + 2 : Nat) : Int)) := by simp [GRow.val, hol]
    -- the given list
    obtain ⟨b4, o4, e4, _, rd4⟩ := og3.rowv.get (i := i) (x := [gs[i].val rows tail]) (by simp [hlt]) .i64
    have r4 : ldS h3 (.pointer (some ⟨b4, o4, none⟩)) = some (gs[i].val rows tail) := by simpa using (rd4 h3 (Fr.refl _ _)).1 0 (by omega)
    have m3 := (H.base.then F3).get hm (by simp)
    have l3 : ldA 3 h3 (.pointer (some ⟨2, 0, none⟩)) = some (.agg #[.int .i64 markA.edge, .int .i64 markA.to, .int .i64 markA.weight]) := by rw [ldA_at m3]; simp [markA]
    have rdo : ∀ (j : Nat) (x : Arc), (ownL rows tail gs[i].id)[j]? = some x.enc → ∃ b o, idxE 3 (gs[i].val rows tail) (.int .i64 (j : Int)) = some (.pointer (some ⟨b, o, none⟩)) ∧ ldA 3 h3 (.pointer (some ⟨b, o, none⟩)) = some (.agg #[.int .i64 x.edge, .int .i64 x.to, .int .i64 x.weight]) := fun j x hx => by
      obtain ⟨b, o, e, _, rd⟩ := ownv.get hx .i64
      exact ⟨b, o, e, (rd h3 (Fr.refl _ _)).2⟩
    obtain ⟨b5, o5, e5, r5⟩ := rdo (ofL rows tail gs[i].id).1.length markA (by simp [ownL])
    obtain ⟨b6, o6, e6, r6⟩ := rdo ((ofL rows tail gs[i].id).1.length + 1) markA (by simp [ownL])
    obtain ⟨a3, c3, rfl, x3⟩ := id rv
    have hml : ((ofL rows tail gs[i].id).1.map Arc.enc).length = (ofL rows tail gs[i].id).1.length := by simp
    have w2 : IntKind.i64.wrap (((ofL rows tail gs[i].id).1.length : Int) + 2) = (((ofL rows tail gs[i].id).1.length + 2 : Nat) : Int) := by rw [i64_id (by omega) (by omega)]; omega
    have w3 : IntKind.i64.wrap (((ofL rows tail gs[i].id).1.length : Int) + 1) = (((ofL rows tail gs[i].id).1.length + 1 : Nat) : Int) := by rw [i64_id (by omega) (by omega)]; omega
    have hlen3 : lenE (.slice a3 ((ofL rows tail gs[i].id).1.map Arc.enc).length c3) = some (.int .i64 (ofL rows tail gs[i].id).1.length) := by simp
    generalize hvv : Value.slice a3 ((ofL rows tail gs[i].id).1.map Arc.enc).length c3 = vv at *
    generalize hgv : gs[i].val rows tail = gvv at *
    simp only [extE_tuple, nilE_ptr, bnd_some, fldE_ptr, Nat.zero_add, ldS_at e3, List.getElem?_toArray, List.getElem?_cons_succ, List.getElem?_cons_zero, e4, r4, hol', hlen3, bin_add, w2, bin_neq, ne_eq, not_true_eq_false, decide_false, isB_bool, beq_self_eq_true, cond_true, cond_false, e5, r5, l3, guardT_true]
    refine neq_arc markA ?_
    simp only [asB_bool, Option.map_some, cond_false, bnd_some, isB_bool, beq_self_eq_true, cond_true, nilE_ptr, fldE_ptr, Nat.zero_add, ldS_at e3, List.getElem?_toArray, List.getElem?_cons_succ, List.getElem?_cons_zero, e4, r4, hlen3, bin_add, w3, e6, r6, l3, guardT_true]
    refine neq_arc markA ?_
    simp only [asB_bool, Option.map_some, cond_false, bnd_some, condT_bool, Bool.false_eq_true, if_false]
    unfold f21.L2
    refine ⟨WInv2 (ofL rows tail gs[i].id).1.length h3, muI (ofL rows tail gs[i].id).1.length, ⟨0, rfl, by omega, rfl⟩, ?_⟩
    intro t87_1 t88_1 t89_1 t90_1 t93_1 t94_1 t95_1 t96_1 t97_1 t98_1 t99_1 t100_1 t101_1 t102_1 t103_1 t104_1 t105_1 t106_1 t107_1 t4_1 t91_1 t92_1 t8_1 h6
    rintro ⟨j, hv, hj, rfl⟩
    obtain rfl : t8_1 = .int .i64 j := by simpa using hv
    simp only [hlen3, bnd_some, bin_lss, condT_bool]
    by_cases hjl : j < (ofL rows tail gs[i].id).1.length
    · have hdec2 : decide ((j : Int) < ((ofL rows tail gs[i].id).1.length : Int)) = true := by simp; omega
      have w4 : IntKind.i64.wrap ((j : Int) + 1) = ((j + 1 : Nat) : Int) := by rw [i64_id (by omega) (by omega)]; omega
      obtain ⟨b7, o7, e7, r7⟩ := rdo j (ofL rows tail gs[i].id).1[j] (by simp [ownL, List.getElem?_append_left, hjl])
      obtain ⟨b8, o8, e8, _, rd8⟩ := rv.get (i := j) (x := ((ofL rows tail gs[i].id).1[j]).enc) (by simp [hjl]) .i64
      have r8 := (rd8 h6 (Fr.refl _ _)).2
      simp only [Arc.enc] at r8
      simp only [hdec2, if_true, nilE_ptr, bnd_some, fldE_ptr, Nat.zero_add, ldS_at e3, List.getElem?_toArray, List.getElem?_cons_succ, List.getElem?_cons_zero, e4, r4, e7, r7, e8, r8]
      refine neq_arc _ ?_
      simp only [condT_bool, Bool.false_eq_true, if_false, bin_add, bnd_some, w4]
      exact ⟨⟨j + 1, rfl, by omega, rfl⟩, muI_lt _ _ hjl⟩
    · have hdec2 : decide ((j : Int) < ((ofL rows tail gs[i].id).1.length : Int)) = false := by simp; omega
      simp only [hdec2, Bool.false_eq_true, if_false, bin_add, bnd_some, w1]
      exact ⟨⟨i + 1, rfl, by omega, F3⟩, muI_lt _ _ hlt⟩
  · have hdec : decide ((i : Int) < ((gs.map (·.id)).length : Int)) = false := by simp; omega
    simp only [hdec, Bool.false_eq_true, if_false]
    exact hR h2 f2
end Go.Proofs.YtkiakofohkecaaaDoor

/- The law PathsHops: the program's Hops is the document's, and asks the same. No condition but that the rows are read in memory as told. -/
namespace Go.Proofs.YtkiakofohkecaaaDoor
open Go Go.Fw

theorem fill_shown {v : Value} (hv : v.oneCell' = true) (b : Bool) : (fillS [(0, 2), (2, 1), (3, 1)] #[(.slice none 0 0), (.bool false), (.slice none 0 0), (.slice none 0 0)] [(0, .agg #[v, .bool b])]).map Value.agg = some (.agg #[v, .bool b, .slice none 0 0, .slice none 0 0]) := by
  simp [fillS, Instr.fill]

/-- A new Shown. -/
theorem shown_new {h0 h : Hp} {rows : List NRow} {tail : Bool} {v : Value} (f : Fr h0 h []) :
    ShownS h0 rows tail v h.size [] [h.size] (h.push (.cells #[v, .bool tail, .slice none 0 0, .slice none 0 0] 31 (0, 0))) :=
  ⟨[], [], [], rfl, rfl, ⟨f.new _, ⟨f.size, by simp, by simp, by simp⟩, ⟨_, _, get_new h _, .nil _ _ _, .nil _ _ _⟩, by simp, ⟨by simp, by simp, by simp, by simp⟩⟩⟩

theorem asks_len {S : Sr} {start : Int} : (searchF S start).asked.length ≤ 4096 := by
  have h1 : ∀ (n : Nat) (st nr : List Seen) (a : List Int), (restF S n st nr a).asked.length ≤ a.length + n := by
    intro n
    induction n with
    | zero => intro st nr a; unfold restF; split <;> simp
    | succ n ih =>
      intro st nr a
      have h2 : ∀ st' nr', (restF S n st' nr' a).asked.length ≤ a.length + (n + 1) := fun st' nr' => by have := ih st' nr' a; omega
      have h3 : ∀ st' nr' x, (restF S n st' nr' (a ++ [x])).asked.length ≤ a.length + (n + 1) := fun st' nr' x => by have := ih st' nr' (a ++ [x]); simp at this; omega
      unfold restF
      split
      · simp
      · unfold settleF
        split
        · simp
        · split
          · split
            · simp
            · split
              · simp
              · exact h3 _ _ _
          · exact h2 _ _
  rw [← search_start]
  simpa using h1 4096 [] [⟨start, 0⟩] []

set_option maxHeartbeats 1000000 in
theorem law4 {h : Hp} {rows : List NRow} {tail : Bool} {v : Value} {Em : Nat} {fm : Nat × Nat} (net : NetOk h v rows) (hm : h[2]? = some (.cells #[.int .i64 (-71), .int .i64 (-72), .int .i64 (-73)] Em fm)) (start to : Int) :
    CallsH Tryd.prog 4 #[.agg #[v, .bool tail], .int .i64 start, .int .i64 to] h fun r h' => r = .bool true ∧ Fr h h' [] := by
  have hv := RowV.one net.rows
  refine f4.ok ?_
  unfold f4.T
  simp only [nw_eq, cells_agg, ptr0_eq]
  have f1 := Fr.push h (.cells #[v, .bool tail] 26 (0, 0)) []
  have g1 := get_new h (.cells #[v, .bool tail] 26 (0, 0))
  generalize h.push (.cells #[v, .bool tail] 26 (0, 0)) = h1 at *
  have l1 : ∀ h', Fr h1 h' [] → ldA 2 h' (.pointer (some ⟨h.size, 0, none⟩)) = some (.agg #[v, .bool tail]) := fun h' f => by rw [ldA_at (f.get g1 (by simp))]; simp
  simp only [l1 h1 (Fr.refl _ _), bnd_some, fill_shown hv, cells_agg]
  have sh := shown_new (rows := rows) (tail := tail) (v := v) f1
  have f2 := Fr.push h1 (.cells #[v, .bool tail, .slice none 0 0, .slice none 0 0] 31 (0, 0)) []
  generalize h1.push (.cells #[v, .bool tail, .slice none 0 0, .slice none 0 0] 31 (0, 0)) = h2 at *
  refine hops_spec (shown_ok net hm) sh (by simp) start to fun h3 B' sh3 f3 hB' => ?_
  have hal := asks_len (S := srHops (ofL rows tail) to) (start := start)
  obtain ⟨gs, bla, blg, ea, eB, H3⟩ := sh3
  have hq : ∀ c ∈ [h1.size], c < h1.size → False := fun c hc => by simp at hc; omega
  have F13 : Fr h1 h3 [] := f2.trans f3 (by simp) (fun c hc hm => by simp at hm; omega)
  simp only [hopsV, extE_tuple, List.getElem?_toArray, List.getElem?_cons_succ, List.getElem?_cons_zero, bnd_some, l1 h3 F13]
  refine rhops_spec (net.fr (f1.then F13)) start to fun h4 av ba oa f4 nb => ?_
  have H4 := H3.fr f4 (by simp)
  simp only [List.nil_append] at ea
  simp only [extE_tuple, List.getElem?_toArray, List.getElem?_cons_succ, List.getElem?_cons_zero, bnd_some, bin_eql, decide_true, isB_bool, beq_self_eq_true, cond_true, binB, asB_bool, Option.map_some, guardT_true]
  refine whole_spec net hm H4 (by rw [← ea]; exact oa.rowv) (by have := congrArg List.length ea; simp at this; omega) fun h5 f5 => ?_
  simp only [asB_bool, Option.map_some, cond_true, bnd_some]
  exact ⟨by trivial, ((f1.then F13).then f4).then f5⟩
end Go.Proofs.YtkiakofohkecaaaDoor

/- The rows as a statement's argument reads them; the mark that is laid. No condition but those each theorem states. -/
namespace Go.Proofs.YtkiakofohkecaaaDoor
open Go Go.Fw Go.ChangeShapes Go.WideShapes Go.ChangeAt Go.RowKit

theorem laidOut : laidOutB Tryd.prog = true := by kernel_rfl
theorem own : ownKnob Tryd.prog.godebug = none := by kernel_rfl
theorem und2 : Tryd.prog.underlying 2 = some (.int .i64) := by kernel_rfl
theorem und3 : Tryd.prog.underlying 3 = some (.int .i64) := by kernel_rfl
theorem und4 : Tryd.prog.underlying 4 = some .bool := by kernel_rfl
theorem und32 : Tryd.prog.underlying 32 = some (.int .i64) := by kernel_rfl
theorem und24 : Tryd.prog.underlying 24 = some (.slice 74) := by kernel_rfl
theorem und28 : Tryd.prog.underlying 28 = some (.slice 2) := by kernel_rfl
theorem und59 : Tryd.prog.underlying 59 = some (.slice 62) := by kernel_rfl
theorem und26 : Tryd.prog.underlying 26 = some (.struct (Tryd.prog.fieldsOf 26)) := by kernel_rfl
theorem und74 : Tryd.prog.underlying 74 = some (.struct (Tryd.prog.fieldsOf 74)) := by kernel_rfl
theorem und62 : Tryd.prog.underlying 62 = some (.struct (Tryd.prog.fieldsOf 62)) := by kernel_rfl
theorem fs26 : (Tryd.prog.fieldsOf 26).toList.map (fun f => (f.type, f.offset)) = [(24, 0), (4, 1)] := by kernel_rfl
theorem fs74 : (Tryd.prog.fieldsOf 74).toList.map (fun f => (f.type, f.offset)) = [(2, 0), (59, 1), (32, 2)] := by kernel_rfl
theorem fso62 : (Tryd.prog.fieldsOf 62).toList.map (fun f => (f.type, f.offset)) = [(2, 0), (2, 1), (2, 2)] := by kernel_rfl
theorem cells2 : Tryd.prog.cellsOf 2 = 1 := by kernel_rfl
theorem cells4 : Tryd.prog.cellsOf 4 = 1 := by kernel_rfl
theorem cells24 : Tryd.prog.cellsOf 24 = 1 := by kernel_rfl
theorem cells32 : Tryd.prog.cellsOf 32 = 1 := by kernel_rfl
theorem cells59 : Tryd.prog.cellsOf 59 = 1 := by kernel_rfl
theorem cells62 : Tryd.prog.cellsOf 62 = 3 := by kernel_rfl
theorem cells74 : Tryd.prog.cellsOf 74 = 3 := by kernel_rfl
theorem cells26 : Tryd.prog.cellsOf 26 = 2 := by kernel_rfl

theorem len3 {α : Type} : ∀ {l : List α}, l.length = 3 → ∃ a b c, l = [a, b, c]
  | [a, b, c], _ => ⟨a, b, c, rfl⟩
theorem len2 {α : Type} : ∀ {l : List α}, l.length = 2 → ∃ a b, l = [a, b]
  | [a, b], _ => ⟨a, b, rfl⟩
theorem bulk_len {H : Type} : ∀ (l : List (DataW H)), l.length ≤ Rows.uptoBulkAll l
  | [] => by simp
  | d :: r => by
    have h1 : 1 ≤ Rows.uptoBulk d := by
      cases d with
      | lit l => cases l <;> simp [Rows.uptoBulk]
      | _ => simp [Rows.uptoBulk]
    have := bulk_len r
    simp only [Rows.uptoBulkAll, List.length_cons]; omega
theorem bulk_mem {H : Type} : ∀ {l : List (DataW H)} {d : DataW H}, d ∈ l → Rows.uptoBulk d ≤ Rows.uptoBulkAll l
  | e :: r, d, h => by
    rcases List.mem_cons.1 h with rfl | h
    · simp only [Rows.uptoBulkAll]; omega
    · have := bulk_mem h; simp only [Rows.uptoBulkAll]; omega
theorem list_map_of {α β : Type} {f : α → β} : ∀ {l : List β}, (∀ x ∈ l, ∃ a, x = f a) → ∃ zs : List α, l = zs.map f
  | [], _ => ⟨[], rfl⟩
  | x :: l, h => by
    obtain ⟨a, rfl⟩ := h x (by simp)
    obtain ⟨zs, rfl⟩ := list_map_of (l := l) fun y hy => h y (by simp [hy])
    exact ⟨a :: zs, rfl⟩
theorem list_map_of' {α β : Type} {f : α → β} {p : α → Prop} : ∀ {l : List β}, (∀ x ∈ l, ∃ a, x = f a ∧ p a) → ∃ zs : List α, l = zs.map f ∧ ∀ z ∈ zs, p z
  | [], _ => ⟨[], rfl, by simp⟩
  | x :: l, h => by
    obtain ⟨a, rfl, ha⟩ := h x (by simp)
    obtain ⟨zs, rfl, hz⟩ := list_map_of' (l := l) fun y hy => h y (by simp [hy])
    exact ⟨a :: zs, rfl, fun z hm => by rcases List.mem_cons.1 hm with rfl | hm; exact ha; exact hz z hm⟩

section
variable {H : Type} {enc : TypeId × Value → H} {w : World} {base : Nat} {spare : Nat → Bool} {held : Bool}

theorem arc_of {n : Nat} {c : List Value} {x : DataW H × List MemPlace} (h : DataW.trod enc Tryd.prog w base spare held n 62 c = some x) : ∃ a : Arc, c = a.enc := by
  obtain ⟨ys, n', _, hl, _, hf⟩ := open_fields und62 fso62 h
  rw [cells62] at hl
  obtain ⟨y1, _, m1⟩ := hf 0 2 0 rfl
  obtain ⟨y2, _, m2⟩ := hf 1 2 1 rfl
  obtain ⟨y3, _, m3⟩ := hf 2 2 2 rfl
  rw [cells2] at m1 m2 m3
  obtain ⟨a, e1, _⟩ := DataW.trod_int und2 m1
  obtain ⟨b, e2, _⟩ := DataW.trod_int und2 m2
  obtain ⟨d, e3, _⟩ := DataW.trod_int und2 m3
  obtain ⟨x1, x2, x3, rfl⟩ := len3 hl
  simp at e1 e2 e3
  subst e1 e2 e3
  exact ⟨⟨a, b, d⟩, rfl⟩

theorem arcs_of {n : Nat} {c : List Value} {x : DataW H × List MemPlace} (h : DataW.trod enc Tryd.prog w base spare held n 59 c = some x) (hb : Rows.uptoBulk x.1 ≤ 1048576) :
    ∃ (v : Value) (l : List Arc), c = [v] ∧ RowV w.heap 3 v (l.map Arc.enc) ∧ l.length ≤ 1048576 := by
  obtain ⟨v, xs, ys, e, r, hlen, hx, hel⟩ := open_cells und59 cells62 (by omega) h
  obtain ⟨l, rfl⟩ := list_map_of (f := Arc.enc) (l := xs) fun x hx => by
    obtain ⟨i, hi⟩ := List.getElem?_of_mem hx
    obtain ⟨n, y, _, hy⟩ := hel i x hi
    exact arc_of hy
  refine ⟨v, l, e, r, ?_⟩
  have hlen' : l.length = ys.length := by simpa using hlen
  rcases hx with ⟨_, rfl⟩ | ⟨sp, hx⟩
  · simp only [List.length_nil] at hlen'; omega
  · rw [hx] at hb
    simp only [Rows.uptoBulk] at hb
    have := bulk_len ys
    omega

theorem idl_of {n : Nat} {c : List Value} {x : DataW H × List MemPlace} (h : DataW.trod enc Tryd.prog w base spare held n 28 c = some x) (hb : Rows.uptoBulk x.1 ≤ 1048576) :
    ∃ (v : Value) (l : List Int), c = [v] ∧ RowV w.heap 1 v (ints l) ∧ l.length ≤ 1048576 := by
  obtain ⟨v, xs, ys, e, r, hlen, hx, hel⟩ := open_cells und28 cells2 (by omega) h
  obtain ⟨l, rfl⟩ := list_map_of (f := fun k : Int => [Value.int .i64 k]) (l := xs) fun x hx => by
    obtain ⟨i, hi⟩ := List.getElem?_of_mem hx
    obtain ⟨n, y, _, hy⟩ := hel i x hi
    obtain ⟨k, e, _⟩ := DataW.trod_int und2 hy
    exact ⟨k, e⟩
  refine ⟨v, l, e, r, ?_⟩
  have hlen' : l.length = ys.length := by simpa using hlen
  rcases hx with ⟨_, rfl⟩ | ⟨sp, hx⟩
  · simp only [List.length_nil] at hlen'; omega
  · rw [hx] at hb
    simp only [Rows.uptoBulk] at hb
    have := bulk_len ys
    omega

theorem row_of {n : Nat} {c : List Value} {x : DataW H × List MemPlace} (h : DataW.trod enc Tryd.prog w base spare held n 74 c = some x) (hb : Rows.uptoBulk x.1 ≤ 1048576) :
    ∃ r : NRow, c = r.enc ∧ RowV w.heap 3 r.v (r.arcs.map Arc.enc) ∧ r.arcs.length ≤ 1048576 := by
  obtain ⟨ys, n', hx, hl, _, hf⟩ := open_fields und74 fs74 h
  rw [cells74] at hl
  obtain ⟨y1, _, m1⟩ := hf 0 2 0 rfl
  obtain ⟨y2, hy2, m2⟩ := hf 1 59 1 rfl
  obtain ⟨y3, _, m3⟩ := hf 2 32 2 rfl
  rw [cells2] at m1
  rw [cells59] at m2
  rw [cells32] at m3
  rw [hx] at hb
  have hb2 := bulk_mem (List.mem_of_getElem? hy2)
  simp only [Rows.uptoBulk] at hb
  obtain ⟨a, e1, _⟩ := DataW.trod_int und2 m1
  obtain ⟨v, l, e2, r, hlen⟩ := arcs_of m2 (by omega)
  obtain ⟨d, e3, _⟩ := DataW.trod_int und32 m3
  obtain ⟨x1, x2, x3, rfl⟩ := len3 hl
  simp at e1 e2 e3
  subst e1 e2 e3
  exact ⟨⟨a, x2, l, d⟩, rfl, r, hlen⟩

theorem rows_of {n : Nat} {c : List Value} {x : DataW H × List MemPlace} (h : DataW.trod enc Tryd.prog w base spare held n 24 c = some x) (hb : Rows.uptoBulk x.1 ≤ 1048576) :
    ∃ (v : Value) (rows : List NRow), c = [v] ∧ NetOk w.heap v rows := by
  obtain ⟨v, xs, ys, e, r, hlen, hx, hel⟩ := open_cells und24 cells74 (by omega) h
  have hbl : ys.length ≤ 1048576 ∧ ∀ d ∈ ys, Rows.uptoBulk d ≤ 1048576 := by
    rcases hx with ⟨_, rfl⟩ | ⟨sp, hx⟩
    · simp
    · rw [hx] at hb
      simp only [Rows.uptoBulk] at hb
      have := bulk_len ys
      exact ⟨by omega, fun d hd => by have := bulk_mem hd; omega⟩
  obtain ⟨rows, rfl, hr⟩ := list_map_of' (f := NRow.enc) (p := fun r => RowV w.heap 3 r.v (r.arcs.map Arc.enc) ∧ r.arcs.length ≤ 1048576) (l := xs) fun x hx => by
    obtain ⟨i, hi⟩ := List.getElem?_of_mem hx
    obtain ⟨n, y, hm, hy⟩ := hel i x hi
    exact row_of hy (hbl.2 _ (List.mem_of_getElem? hm))
  exact ⟨v, rows, e, ⟨r, fun r hm => (hr r hm).1, by simp at hlen; omega, fun r hm => (hr r hm).2⟩⟩

set_option maxRecDepth 100000 in
theorem net_of {W : World} {b0 : Nat} {v0 : Value} {d : DataW H} {ps : List MemPlace} (hv : Value.okWide Tryd.prog W .any b0 26 v0) (h : DataW.Trod enc Tryd.prog W base spare held 26 v0 d ps) (hb : Rows.uptoBulk d ≤ 1048576) :
    ∃ (v : Value) (tail : Bool) (rows : List NRow), v0 = .agg #[v, .bool tail] ∧ NetOk W.heap v rows := by
  obtain ⟨cs, rfl, hcs⟩ := okWide_struct und26 hv
  obtain ⟨fuel, hf⟩ := h
  obtain ⟨ys, n', hx, hl, _, hfd⟩ := open_fields und26 fs26 hf
  obtain ⟨y1, hy1, m1⟩ := hfd 0 24 0 rfl
  obtain ⟨y2, _, m2⟩ := hfd 1 4 1 rfl
  rw [cells24] at m1
  rw [cells4] at m2
  simp only at hx
  rw [hx] at hb
  simp only [Rows.uptoBulk] at hb
  have := bulk_mem (List.mem_of_getElem? hy1)
  obtain ⟨v, rows, e1, net⟩ := rows_of m1 (by omega)
  obtain ⟨t, e2, _⟩ := DataW.trod_bool und4 m2
  rw [cells26] at hl
  obtain ⟨l, rfl⟩ : ∃ l : List Value, cs = l.toArray := ⟨cs.toList, by simp⟩
  simp only [Value.cells] at hl e1 e2
  obtain ⟨x1, x2, rfl⟩ := len2 hl
  simp at e1 e2
  subst e1 e2
  exact ⟨x1, t, rows, rfl, net⟩
end

theorem gMark : Tryd.prog.globalNamed "trellis/trellislaw9.pathsMark" = some 2 := by kernel_rfl
theorem gMarkType : (Tryd.prog.globals[2]?).map (·.type) = some 62 := by kernel_rfl
/-- What the rows' list gives: the mark stands in its block. -/
theorem mark_laid {W : World} {l : List (String × DataW Unit)} (hl : l = [("trellis/trellislaw9.pathsMark", Rows.laid_trellis_trellislaw9_pathsMark)]) {ps : List MemPlace} (h : DataW.LaidVars Tryd.prog W l ps) :
    ∃ E f, W.heap[2]? = some (.cells #[.int .i64 (-71), .int .i64 (-72), .int .i64 (-73)] E f) := by
  subst hl
  obtain ⟨⟨cs, fuel, p, hc, hd⟩, _⟩ := laid_head gMark gMarkType h
  obtain ⟨ys, n', hx, hl, _, hf⟩ := open_fields und62 fso62 hd
  rw [cells62] at hl
  obtain ⟨y1, i1, m1⟩ := hf 0 2 0 rfl
  obtain ⟨y2, i2, m2⟩ := hf 1 2 1 rfl
  obtain ⟨y3, i3, m3⟩ := hf 2 2 2 rfl
  rw [cells2] at m1 m2 m3
  obtain ⟨a, e1, z1, _⟩ := DataW.trod_int und2 m1
  obtain ⟨b, e2, z2, _⟩ := DataW.trod_int und2 m2
  obtain ⟨d, e3, z3, _⟩ := DataW.trod_int und2 m3
  simp only [Rows.laid_trellis_trellislaw9_pathsMark, DataW.agg.injEq] at hx
  subst hx
  subst z1 z2 z3
  simp at i1 i2 i3
  subst i1 i2 i3
  have : cs = #[.int .i64 (-71), .int .i64 (-72), .int .i64 (-73)] := by
    obtain ⟨l, rfl⟩ : ∃ l : List Value, cs = l.toArray := ⟨cs.toList, by simp⟩
    obtain ⟨x1, x2, x3, rfl⟩ := len3 hl
    simp at e1 e2 e3
    subst e1 e2 e3
    rfl
  subst this
  exact var_block gMark hc
end Go.Proofs.YtkiakofohkecaaaDoor

/- pathsApart: lists, each of its own, written full and grown, do not touch each other. No condition but that the memory is as told. -/
namespace Go.Proofs.YtkiakofohkecaaaDoor
open Go Go.Fw

structure It where
  v : Value
  xs : List Int
  bl : List Nat
def allB (its : List It) : List Nat := its.flatMap (·.bl)
def Held (h : Hp) (its : List It) (f : Nat → It → List Int) : Prop := ∀ (j : Nat) (it : It), its[j]? = some it → OwnS h 2 1 it.v (ints (f j it)) it.bl
/-- The lists lie apart, and the list of them apart from all. -/
structure Apart (h : Hp) (q : Nat) (its : List It) : Prop where
  row : Seg h 1 q 0 (its.map fun it => [it.v])
  out : q ∉ allB its
  dis : ∀ (i j : Nat) (it jt : It), its[i]? = some it → its[j]? = some jt → i ≠ j → ∀ b ∈ it.bl, b ∉ jt.bl
  len : its.length ≤ 1000
  each : ∀ it ∈ its, it.xs.length ≤ 1048576

section
variable {h h' : Hp} {q : Nat} {its : List It} {f g : Nat → It → List Int} {S : List Nat}
theorem mem_all {it : It} {b : Nat} (hi : it ∈ its) (hb : b ∈ it.bl) : b ∈ allB its := List.mem_flatMap.2 ⟨it, hi, hb⟩
theorem Held.fr (H : Held h its f) (F : Fr h h' S) (hS : ∀ it ∈ its, ∀ b ∈ it.bl, b ∉ S) : Held h' its f := fun j it hj => (H j it hj).fr F (hS it (List.mem_of_getElem? hj))
theorem Held.eq (H : Held h its f) (e : ∀ j it, its[j]? = some it → f j it = g j it) : Held h its g := fun j it hj => by rw [← e j it hj]; exact H j it hj
theorem Held.lt (H : Held h its f) : ∀ b ∈ allB its, b < h.size := fun b hb => by
  obtain ⟨it, hi, hb⟩ := List.mem_flatMap.1 hb
  obtain ⟨j, hj⟩ := List.getElem?_of_mem hi
  exact (H j it hj).lt b hb
theorem Apart.fr (A : Apart h q its) (F : Fr h h' S) (hS : q ∉ S) : Apart h' q its := ⟨A.row.fr F hS, A.out, A.dis, A.len, A.each⟩
/-- One list is written, the others are not. -/
theorem Held.one (H : Held h its f) (A : Apart h q its) {i : Nat} {it : It} (hi : its[i]? = some it) {l : List Int} (F : Fr h h' it.bl) (o : OwnS h' 2 1 it.v (ints l) it.bl) : Held h' its (fun j jt => if j = i then l else f j jt) := fun j jt hj => by
  by_cases e : j = i
  · subst e
    obtain rfl := Option.some.inj (hi.symm.trans hj)
    simpa using o
  · simp only [e, if_false]
    exact (H j jt hj).fr F fun b hb hb' => A.dis i j it jt hi hj (fun e' => e e'.symm) b hb' hb
theorem Apart.read (A : Apart h q its) {i cap : Nat} {it : It} (hi : its[i]? = some it) : ∃ o, idxE 1 (.slice (some ⟨q, 0, none⟩) its.length cap) (.int .i64 (i : Int)) = some (.pointer (some ⟨q, o, none⟩)) ∧ ldS h (.pointer (some ⟨q, o, none⟩)) = some it.v := by
  have hlt := (List.getElem?_eq_some_iff.1 hi).1
  refine ⟨0 + i * 1, by simp [hlt], ?_⟩
  have := A.row.one (i := i) (j := 0) (x := [it.v]) (by simp [hi]) (by omega)
  simpa using this
end
def mk (i k : Nat) : Int := -100000 * ((i + 1 : Nat) : Int) - (k : Int)
def marks (i n : Nat) : List Int := (List.range n).map (mk i)
theorem marks_len (i n : Nat) : (marks i n).length = n := by simp [marks]
def mix (i k : Nat) (xs : List Int) : List Int := marks i k ++ xs.drop k
theorem mix_len {i k : Nat} {xs : List Int} (h : k ≤ xs.length) : (mix i k xs).length = xs.length := by simp [mix, marks_len]; omega
theorem mix_set {i k : Nat} {xs : List Int} (h : k < xs.length) : (mix i k xs).set k (mk i k) = mix i (k + 1) xs := by
  have e : xs.drop k = xs[k] :: xs.drop (k + 1) := List.drop_eq_getElem_cons h
  rw [mix, mix, e, List.set_append_right _ _ (by simp [marks_len]), marks_len, Nat.sub_self, List.set_cons_zero, marks, marks, List.range_succ, List.map_append, List.append_assoc]
  rfl
theorem mix_end (i : Nat) (xs : List Int) : mix i xs.length xs = marks i xs.length := by simp [mix]
theorem ints_set (l : List Int) (k : Nat) (x : Int) : (ints l).set k [.int .i64 x] = ints (l.set k x) := by simp [ints, List.map_set]
theorem ints_app (a b : List Int) : ints (a ++ b) = ints a ++ ints b := by simp [ints]

theorem own_set {h : Hp} {v : Value} {l : List Int} {bl : List Nat} (o : OwnS h 2 1 v (ints l) bl) {k : Nat} (hk : k < l.length) (x : Int) :
    ∃ b o', bl = [b] ∧ idxE 1 v (.int .i64 (k : Int)) = some (.pointer (some ⟨b, o', none⟩)) ∧ ∃ h', stE 1 h (.pointer (some ⟨b, o', none⟩)) (.int .i64 x) = some h' ∧ OwnS h' 2 1 v (ints (l.set k x)) bl ∧ Fr h h' bl := by
  rcases o with ⟨rfl, hx, rfl⟩ | ⟨b, cap, rfl, r, rfl⟩
  · simp [ints] at hx; subst hx; simp at hk
  · obtain ⟨h', s', r', f', _⟩ := r.put (i := k) (o := 0) (x := [.int .i64 l[k]]) (vs := [.int .i64 x]) (v := .int .i64 x) (by simp [ints, hk]) (by simp) (by simp) (by simp)
    refine ⟨b, k * 1 + 0, rfl, by simp [ints, hk], h', s', .inr ⟨b, cap, by simp [ints], ?_, rfl⟩, f'⟩
    have := r'
    simp only [List.take_zero, List.nil_append, List.length_singleton, List.drop_succ_cons, List.drop_nil, List.append_nil, Nat.zero_add] at this
    rwa [ints_set] at this

/-! ## the first look: each is written full -/
def P1 (h : Hp) (q : Nat) (its : List It) (vs : List Value) (h' : Hp) : Prop := ∃ i : Nat, vs = [.int .i64 i] ∧ i ≤ its.length ∧ Apart h' q its ∧ Held h' its (fun j it => if j < i then marks j it.xs.length else it.xs) ∧ Fr h h' (allB its)
def P2 (h : Hp) (q : Nat) (its : List It) (i : Nat) (vs : List Value) (h' : Hp) : Prop := ∃ k : Nat, vs = [.int .i64 k] ∧ (∀ it, its[i]? = some it → k ≤ it.xs.length) ∧ Apart h' q its ∧ Held h' its (fun j it => if j = i then mix i k it.xs else if j < i then marks j it.xs.length else it.xs) ∧ Fr h h' (allB its)
/-- The second: each is grown. -/
def P3 (h : Hp) (q : Nat) (its : List It) (vs : List Value) (h' : Hp) : Prop := ∃ i : Nat, vs = [.int .i64 i] ∧ i ≤ its.length ∧ Apart h' q its ∧ Held h' its (fun j it => marks j it.xs.length) ∧ Fr h h' (allB its)
def P4 (h h0 : Hp) (q : Nat) (its : List It) (i : Nat) (vs : List Value) (h' : Hp) : Prop := ∃ (k : Nat) (u : Value) (it : It), vs = [u, .int .i64 k] ∧ k ≤ 64 ∧ its[i]? = some it ∧ Apart h' q its ∧ Held h' its (fun j it => marks j it.xs.length) ∧ Fr h h' (allB its) ∧ h0.size ≤ h'.size ∧
  (k = 0 ∧ u = it.v ∨ 0 < k ∧ ∃ (b cap : Nat) (ys : List Int), u = .slice (some ⟨b, 0, none⟩) (ints (marks i it.xs.length ++ ys)).length cap ∧ ys.length = k ∧ RowAt h' 2 1 b cap (ints (marks i it.xs.length ++ ys)) ∧ (it.bl = [b] ∧ (∃ n, it.v = .slice (some ⟨b, 0, none⟩) n cap) ∨ h0.size ≤ b))
theorem w_mk {i k : Nat} (hi : i ≤ 1000) (hk : k ≤ 1048576) : IntKind.i64.wrap (IntKind.i64.wrap (-100000 * ((i + 1 : Nat) : Int)) - (k : Int)) = mk i k := by
  rw [i64_id (n := -100000 * ((i + 1 : Nat) : Int)) (by omega) (by omega), i64_id (by omega) (by omega)]; rfl
theorem w_suc {i : Nat} (hi : i ≤ 1048576) : IntKind.i64.wrap ((i : Int) + 1) = ((i + 1 : Nat) : Int) := by rw [i64_id (by omega) (by omega)]; omega

theorem apart_L6 {h9 : Hp} {q : Nat} {its : List It} {cap i : Nat} {it : It} (hi : its[i]? = some it) (A : Apart h9 q its) (H : Held h9 its (fun j it => marks j it.xs.length)) {R : Value → Hp → Prop} {I5 : List Value → Hp → Prop} {μ5 : List Value → Hp → Nat}
    (hI : I5 [.int .i64 ((i + 1 : Nat) : Int)] h9 ∧ μ5 [.int .i64 ((i + 1 : Nat) : Int)] h9 < μ5 [.int .i64 (i : Int)] h9) : f25.L6 h9 (.slice (some ⟨q, 0, none⟩) its.length cap) (.int .i64 (i : Int)) R I5 μ5 := by
  have hlt := (List.getElem?_eq_some_iff.1 hi).1
  have hn := A.len
  have hx := A.each it (List.mem_of_getElem? hi)
  obtain ⟨o, e1, r1⟩ := A.read (cap := cap) hi
  have ow := H i it hi
  unfold f25.L6
  refine ⟨WInv2 it.xs.length h9, muI it.xs.length, ⟨0, rfl, by omega, rfl⟩, ?_⟩
  intro t64_1 t65_1 t66_1 t67_1 t68_1 t69_1 t70_1 t73_1 t74_1 t75_1 t76_1 t77_1 t78_1 t79_1 t80_1 t81_1 t82_1 t83_1 t84_1 t85_1 t2_1 t71_1 t72_1 t9_1 h10
  rintro ⟨k, hv, hk, rfl⟩
  obtain rfl : t9_1 = .int .i64 k := by simpa using hv
  have hln : (ints (marks i it.xs.length)).length = it.xs.length := by simp [ints, marks_len]
  simp only [e1, r1, bnd_some, ow.lenE, bin_lss, condT_bool, hln]
  by_cases hkl : k < it.xs.length
  · have hdec : decide ((k : Int) < (it.xs.length : Int)) = true := by simp; omega
    obtain ⟨b2, o2, e2, r2⟩ := ints_read ow.rowv (j := k) (k := mk i k) (by simp [marks, hkl])
    have hd : decide (mk i k ≠ mk i k) = false := by simp
    simp only [hdec, if_true, e2, r2, bnd_some, bin_add, w_suc (show i ≤ 1048576 by omega), bin_mul, bin_sub, w_mk (show i ≤ 1000 by omega) (show k ≤ 1048576 by omega), bin_neq, hd, condT_bool, Bool.false_eq_true, if_false, w_suc (show k ≤ 1048576 by omega)]
    exact ⟨⟨k + 1, rfl, by omega, rfl⟩, muI_lt _ _ hkl⟩
  · have hdec : decide ((k : Int) < (it.xs.length : Int)) = false := by simp; omega
    simp only [hdec, Bool.false_eq_true, if_false, bin_add, bnd_some, w_suc (show i ≤ 1048576 by omega)]
    exact hI

theorem apart_L5 {h4 : Hp} {q : Nat} {its : List It} {cap : Nat} (A : Apart h4 q its) (H : Held h4 its (fun j it => marks j it.xs.length)) {R : Value → Hp → Prop} (hR : R (.bool true) h4) : f25.L5 h4 (.slice (some ⟨q, 0, none⟩) its.length cap) R := by
  unfold f25.L5
  refine ⟨WInv2 its.length h4, muI its.length, ⟨0, rfl, by omega, rfl⟩, ?_⟩
  intro t58 t59 t60 t61 t64 t65 t66 t67 t68 t69 t70 t73 t74 t75 t76 t77 t78 t79 t80 t81 t82 t83 t84 t85 t2 t71 t72 t9 t62 t63 t8 h9
  rintro ⟨i, hv, hi, rfl⟩
  obtain rfl : t8 = .int .i64 i := by simpa using hv
  simp only [lenE_sl, bnd_some, bin_lss, condT_bool]
  by_cases hlt : i < its.length
  · have hdec : decide ((i : Int) < (its.length : Int)) = true := by simp; omega
    simp only [hdec, if_true]
    exact apart_L6 (it := its[i]) (by simp [hlt]) A H ⟨⟨i + 1, rfl, by omega, rfl⟩, muI_lt _ _ hlt⟩
  · have hdec : decide ((i : Int) < (its.length : Int)) = false := by simp; omega
    simp only [hdec, Bool.false_eq_true, if_false]
    exact hR

theorem apart_L2 {h h1 : Hp} {q : Nat} {its : List It} {cap i : Nat} {it : It} (hi : its[i]? = some it) (A : Apart h1 q its) (H : Held h1 its (fun j it => if j < i then marks j it.xs.length else it.xs)) (F : Fr h h1 (allB its)) {I1 : List Value → Hp → Prop} {μ1 : List Value → Hp → Nat}
    (hI : ∀ h2, P1 h q its [.int .i64 ((i + 1 : Nat) : Int)] h2 → I1 [.int .i64 ((i + 1 : Nat) : Int)] h2 ∧ μ1 [.int .i64 ((i + 1 : Nat) : Int)] h2 < μ1 [.int .i64 (i : Int)] h1) : f25.L2 h1 (.slice (some ⟨q, 0, none⟩) its.length cap) (.int .i64 (i : Int)) I1 μ1 := by
  have hlt := (List.getElem?_eq_some_iff.1 hi).1
  have hn := A.len
  have hx := A.each it (List.mem_of_getElem? hi)
  unfold f25.L2
  refine ⟨P2 h q its i, muI it.xs.length, ⟨0, rfl, by simp, A, H.eq fun j jt hj => ?_, F⟩, ?_⟩
  · by_cases e : j = i
    · subst e; simp [mix, marks]
    · simp [e]
  intro t16_1 t17_1 t18_1 t19_1 t20_1 t21_1 t22_1 t25_1 t26_1 t27_1 t28_1 t29_1 t30_1 t31_1 t32_1 t33_1 t34_1 t35_1 t23_1 t24_1 t4_1 h2
  rintro ⟨k, hv, hk, A2, H2, F2⟩
  obtain rfl : t4_1 = .int .i64 k := by simpa using hv
  have hk := hk it hi
  obtain ⟨o, e1, r1⟩ := A2.read (cap := cap) hi
  have ow := H2 i it hi
  simp only [if_true] at ow
  have hln : (ints (mix i k it.xs)).length = it.xs.length := by simp [ints, mix_len hk]
  simp only [e1, r1, bnd_some, ow.lenE, bin_lss, condT_bool, hln]
  by_cases hkl : k < it.xs.length
  · have hdec : decide ((k : Int) < (it.xs.length : Int)) = true := by simp; omega
    obtain ⟨b, o', hb, e2, h3, s3, o3, f3⟩ := own_set ow (k := k) (by rw [mix_len hk]; exact hkl) (mk i k)
    rw [mix_set hkl] at o3
    simp only [hdec, if_true, bin_add, bnd_some, w_suc (show i ≤ 1048576 by omega), bin_mul, bin_sub, w_mk (show i ≤ 1000 by omega) (show k ≤ 1048576 by omega), e2, s3, w_suc (show k ≤ 1048576 by omega)]
    have hmem := List.mem_of_getElem? hi
    refine ⟨⟨k + 1, rfl, fun jt hj => by obtain rfl := Option.some.inj (hi.symm.trans hj); omega, A2.fr f3 fun hq => A2.out (mem_all hmem hq), (H2.one A2 hi f3 o3).eq fun j jt hj => ?_, F2.trans f3 (fun _ _ h => h) fun c _ hc => mem_all hmem hc⟩, muI_lt _ _ hkl⟩
    by_cases e : j = i
    · subst e; obtain rfl := Option.some.inj (hi.symm.trans hj); simp
    · simp [e]
  · have hdec : decide ((k : Int) < (it.xs.length : Int)) = false := by simp; omega
    obtain rfl : k = it.xs.length := by omega
    simp only [hdec, Bool.false_eq_true, if_false, bin_add, bnd_some, w_suc (show i ≤ 1048576 by omega)]
    refine hI h2 ⟨i + 1, rfl, by omega, A2, H2.eq fun j jt hj => ?_, F2⟩
    by_cases e : j = i
    · subst e; obtain rfl := Option.some.inj (hi.symm.trans hj); simp [mix_end]
    · have : (j < i + 1) = (j < i) := by simp; omega
      simp [e, this]
end Go.Proofs.YtkiakofohkecaaaDoor

/- pathsApart, whole. No condition but that the memory is as told. -/
namespace Go.Proofs.YtkiakofohkecaaaDoor
open Go Go.Fw

theorem ints_len' (l : List Int) : (ints l).length = l.length := by simp [ints]
theorem row_front {h : Hp} {b cap : Nat} {l ys : List Int} (r : RowAt h 2 1 b cap (ints (l ++ ys))) : RowAt h 2 1 b cap (ints l) := by
  have := r.take l.length
  rwa [ints_app, List.take_left' (ints_len' l)] at this
/-- What is behind a list's own end is written: the list reads as it did. -/
theorem held_grow {h h' : Hp} {q : Nat} {its : List It} {f : Nat → It → List Int} (H : Held h its f) (A : Apart h q its) {i : Nat} {it : It} (hi : its[i]? = some it) {b cap : Nat} {ys : List Int} (F : Fr h h' [b]) (r : RowAt h' 2 1 b cap (ints (f i it ++ ys)))
    (hb : it.bl = [b] ∧ (∃ n, it.v = .slice (some ⟨b, 0, none⟩) n cap) ∨ b ∉ allB its) : Held h' its f := by
  rcases hb with ⟨hb, n, hv⟩ | hb
  · have ow := H i it hi
    have hn : n = (f i it).length := by
      rcases ow with ⟨e, _, _⟩ | ⟨b', cap', e, _, _⟩
      · rw [hv] at e; cases e
      · rw [hv] at e; simp only [Value.slice.injEq] at e; rw [e.2.1, ints_len']
    have o' : OwnS h' 2 1 it.v (ints (f i it)) it.bl := .inr ⟨b, cap, by rw [hv, hn, ints_len'], row_front r, hb⟩
    rw [← hb] at F
    exact (H.one A hi F o').eq fun j jt hj => by
      by_cases e : j = i
      · subst e; obtain rfl := Option.some.inj (hi.symm.trans hj); simp
      · simp [e]
  · exact H.fr F fun jt hj b' hb' hm => by simp at hm; subst hm; exact hb (mem_all hj hb')

theorem apart_L4 {h h4 : Hp} {q : Nat} {its : List It} {i : Nat} {it : It} (hi : its[i]? = some it) (A : Apart h4 q its) (H : Held h4 its (fun j it => marks j it.xs.length)) (F : Fr h h4 (allB its)) (hq : ∀ b ∈ allB its, b < h.size) {I3 : List Value → Hp → Prop} {μ3 : List Value → Hp → Nat}
    (hI : ∀ h2, P3 h q its [.int .i64 ((i + 1 : Nat) : Int)] h2 → I3 [.int .i64 ((i + 1 : Nat) : Int)] h2 ∧ μ3 [.int .i64 ((i + 1 : Nat) : Int)] h2 < μ3 [.int .i64 (i : Int)] h4) : f25.L4 it.v h4 (.int .i64 (i : Int)) I3 μ3 := by
  have hlt := (List.getElem?_eq_some_iff.1 hi).1
  have hn := A.len
  have hx := A.each it (List.mem_of_getElem? hi)
  have hmem := List.mem_of_getElem? hi
  have lt4 := H.lt
  have hql : q < h4.size := A.row.lt
  unfold f25.L4
  refine ⟨P4 h h4 q its i, muF 64, ⟨0, it.v, it, rfl, by omega, hi, A, H, F, Nat.le_refl _, .inl ⟨rfl, rfl⟩⟩, ?_⟩
  intro t46_1 t47_1 t50_1 t51_1 t52_1 t6_1 t48_1 t49_1 t7_1 h5
  rintro ⟨k, u, it', hv, hk, hi', A5, H5, F5, hs5, hu⟩
  obtain rfl := Option.some.inj (hi.symm.trans hi')
  obtain ⟨rfl, rfl⟩ : t6_1 = u ∧ t7_1 = .int .i64 k := by simpa using hv
  have hall : ∀ b, h4.size ≤ b → b ∉ allB its := fun b hb hm => by have := lt4 b hm; omega
  have nq : ∀ b, it.bl = [b] ∨ h4.size ≤ b → q ≠ b := fun b hb e => by
    subst e
    rcases hb with hb | hb
    · exact A5.out (mem_all hmem (by rw [hb]; simp))
    · omega
  simp only [bin_lss, bnd_some, condT_bool]
  by_cases hkl : k < 64
  · have hdec : decide ((k : Int) < 64) = true := by simp; omega
    simp only [hdec, if_true, fill_int, bnd_some, nw_eq]
    have f6 := Fr.push h5 (.cells #[.int .i64 (-7)] 2 (0, 0)) []
    have g6 := get_new h5 (.cells #[.int .i64 (-7)] 2 (0, 0))
    generalize h5.push (.cells #[.int .i64 (-7)] 2 (0, 0)) = h6 at *
    have f6s := f6.size
    have H6 := H5.fr f6 (by simp)
    have A6 := A5.fr f6 (by simp)
    -- the next turn, whatever the append did
    have nxt : ∀ (h7 : Hp) (b cap : Nat) (ys : List Int), RowAt h7 2 1 b cap (ints (marks i it.xs.length ++ ys)) → Fr h6 h7 [b] → ys.length = k + 1 → (it.bl = [b] ∧ (∃ n, it.v = .slice (some ⟨b, 0, none⟩) n cap) ∨ h4.size ≤ b) →
        bnd (binE .add (.int .i64 (k : Int)) (.int .i64 1)) fun t49_2 => P4 h h4 q its i [.slice (some ⟨b, 0, none⟩) (ints (marks i it.xs.length ++ ys)).length cap, t49_2] h7 ∧ muF 64 [.slice (some ⟨b, 0, none⟩) (ints (marks i it.xs.length ++ ys)).length cap, t49_2] h7 < muF 64 [t6_1, .int .i64 (k : Int)] h5 := by
      intro h7 b cap ys r7 f7 hy hb
      simp only [bin_add, bnd_some, w_suc (show k ≤ 1048576 by omega)]
      have f7s := f7.size
      refine ⟨⟨k + 1, _, it, rfl, by omega, hi, A6.fr f7 (by simp; exact nq b (hb.imp_left And.left)), held_grow H6 A6 hi f7 r7 (hb.imp_right fun h => hall b h), F5.trans (f6.trans f7 (S := [b]) (by simp) (fun _ _ h => h)) (fun _ _ h => h) (fun c hc hm => ?_), by omega, .inr ⟨by omega, b, cap, ys, rfl, hy, r7, hb⟩⟩, by simp only [muF, Int.toNat_natCast]; omega⟩
      simp only [List.mem_singleton] at hm
      subst hm
      rcases hb with ⟨hb, _⟩ | hb
      · exact mem_all hmem (by rw [hb]; simp)
      · have := F.size; omega
    rcases hu with ⟨rfl, rfl⟩ | ⟨h0, b, cap, ys, rfl, hy, r5, hb⟩
    · refine own_app2 elem28 (H6 i it hi) (seg_one g6) (by simp) (by simp) (by simp [ints, marks_len]; omega) (by simp [ints, marks_len]; omega) fun h7 b cap r7 f7 hb => ?_
      have e7 : ints (marks i it.xs.length) ++ [[.int .i64 (-7)]] = ints (marks i it.xs.length ++ [-7]) := by simp [ints]
      rw [e7] at r7 ⊢
      have f7' : Fr h6 h7 [b] := by
        rcases hb with ⟨hb, _⟩ | ⟨_, hb⟩
        · rwa [hb] at f7
        · exact hb.mono (by simp)
      exact nxt h7 b cap [-7] r7 f7' (by simp) (hb.imp_right fun h => by omega)
    · have r6 := r5.fr f6 (by simp)
      refine append_row2 elem28 r6 (seg_one g6) (by simp) (by simp [ints, marks_len]; omega) (by simp [ints, marks_len]; omega) fun h7 b' cap' r7 f7 hb' => ?_
      have e7 : ints (marks i it.xs.length ++ ys) ++ [[.int .i64 (-7)]] = ints (marks i it.xs.length ++ (ys ++ [-7])) := by simp [ints]
      rw [e7] at r7 ⊢
      rcases hb' with ⟨rfl, rfl⟩ | ⟨hb', f7'⟩
      · exact nxt h7 b' cap' (ys ++ [-7]) r7 f7 (by simp; omega) hb
      · exact nxt h7 b' cap' (ys ++ [-7]) r7 (f7'.mono (by simp)) (by simp; omega) (.inr (by omega))
  · have hdec : decide ((k : Int) < 64) = false := by simp; omega
    obtain rfl : k = 64 := by omega
    rcases hu with ⟨h0, _⟩ | ⟨_, b, cap, ys, rfl, hy, r5, hb⟩
    · omega
    · have hln : (ints (marks i it.xs.length ++ ys)).length = it.xs.length + 64 := by simp [ints, marks_len, hy]
      have w1 : IntKind.i64.wrap (((ints (marks i it.xs.length ++ ys)).length : Int) - 1) = ((it.xs.length + 63 : Nat) : Int) := by rw [hln, i64_id (by omega) (by omega)]; omega
      have hget : (marks i it.xs.length ++ ys)[it.xs.length + 63]? = some (ys[63]'(by omega)) := by
        rw [List.getElem?_append_right (by rw [marks_len]; omega), marks_len]
        have : it.xs.length + 63 - it.xs.length = 63 := by omega
        rw [this]; simp
      obtain ⟨h6, s6, r6, f6, _⟩ := r5.put (i := it.xs.length + 63) (o := 0) (x := [.int .i64 (ys[63]'(by omega))]) (vs := [.int .i64 (-8)]) (v := .int .i64 (-8)) (by simp only [ints, List.getElem?_map, hget]; rfl) (by simp) (by simp) (by simp)
      have s6' : stE 1 h5 (.pointer (some ⟨b, 0 + ((it.xs.length + 63 : Nat) : Int).toNat * 1, none⟩)) (.int .i64 (-8)) = some h6 := by
        have e : 0 + ((it.xs.length + 63 : Nat) : Int).toNat * 1 = (it.xs.length + 63) * 1 + 0 := by rw [Int.toNat_natCast]; omega
        rw [e]; exact s6
      have hlt2 : (0 ≤ ((it.xs.length + 63 : Nat) : Int) ∧ ((it.xs.length + 63 : Nat) : Int) < ((ints (marks i it.xs.length ++ ys)).length : Int)) := by rw [hln]; omega
      simp only [hdec, Bool.false_eq_true, if_false, lenE_sl, bnd_some, bin_sub, w1, idxE_sl, if_pos hlt2, s6', bin_add, w_suc (show i ≤ 1048576 by omega)]
      have er : (ints (marks i it.xs.length ++ ys)).set (it.xs.length + 63) [.int .i64 (-8)] = ints (marks i it.xs.length ++ ys.set 63 (-8)) := by
        rw [ints_set, List.set_append_right _ _ (by rw [marks_len]; omega), marks_len]
        have : it.xs.length + 63 - it.xs.length = 63 := by omega
        rw [this]
      have r6' : RowAt h6 2 1 b cap (ints (marks i it.xs.length ++ ys.set 63 (-8))) := by
        rw [← er]
        simpa using r6
      refine hI h6 ⟨i + 1, rfl, by omega, A5.fr f6 (by simp; exact nq b (hb.imp_left And.left)), held_grow H5 A5 hi f6 r6' (hb.imp_right fun h => hall b h), F5.trans f6 (fun _ _ h => h) fun c hc hm => ?_⟩
      simp only [List.mem_singleton] at hm
      subst hm
      rcases hb with ⟨hb, _⟩ | hb
      · exact mem_all hmem (by rw [hb]; simp)
      · have := F.size; omega

theorem apart_spec {h : Hp} {q : Nat} {its : List It} {cap : Nat} (A : Apart h q its) (H : Held h its fun _ it => it.xs) {R : Value → Hp → Prop} (hR : ∀ h', Fr h h' (allB its) → R (.bool true) h') : CallsH Tryd.prog 25 #[.slice (some ⟨q, 0, none⟩) its.length cap] h R := by
  have hq := H.lt
  have hn := A.len
  refine f25.ok ?_
  unfold f25.T f25.L1
  refine ⟨P1 h q its, muI its.length, ⟨0, rfl, by omega, A, by simpa using H, Fr.refl _ _⟩, ?_⟩
  intro t10 t11 t12 t13 t16 t17 t18 t19 t20 t21 t22 t25 t26 t27 t28 t29 t30 t31 t32 t33 t34 t35 t23 t24 t4 t14 t15 t3 h1
  rintro ⟨i, hv, hi, A1, H1, F1⟩
  obtain rfl : t3 = .int .i64 i := by simpa using hv
  simp only [lenE_sl, bnd_some, bin_lss, condT_bool]
  by_cases hlt : i < its.length
  · have hdec : decide ((i : Int) < (its.length : Int)) = true := by simp; omega
    simp only [hdec, if_true]
    exact apart_L2 (it := its[i]) (by simp [hlt]) A1 H1 F1 fun h2 p => ⟨p, muI_lt _ _ hlt⟩
  · have hdec : decide ((i : Int) < (its.length : Int)) = false := by simp; omega
    obtain rfl : i = its.length := by omega
    simp only [hdec, Bool.false_eq_true, if_false]
    have H1' : Held h1 its (fun j it => marks j it.xs.length) := H1.eq fun j it hj => by
      have := (List.getElem?_eq_some_iff.1 hj).1
      simp [this]
    unfold f25.L3
    refine ⟨P3 h q its, muI its.length, ⟨0, rfl, by omega, A1, H1', F1⟩, ?_⟩
    intro t36 t37 t38 t39 t42 t43 t44 t45 t46 t47 t50 t51 t52 t6 t48 t49 t7 t53 t54 t55 t56 t57 t40 t41 t5 h4
    rintro ⟨i, hv, hi, A4, H4, F4⟩
    obtain rfl : t5 = .int .i64 i := by simpa using hv
    simp only [lenE_sl, bnd_some, bin_lss, condT_bool]
    by_cases hlt : i < its.length
    · have hdec : decide ((i : Int) < (its.length : Int)) = true := by simp; omega
      obtain ⟨o, e1, r1⟩ := A4.read (cap := cap) (i := i) (it := its[i]) (by simp [hlt])
      simp only [hdec, if_true, e1, r1, bnd_some]
      exact apart_L4 (by simp [hlt]) A4 H4 F4 hq fun h2 p => ⟨p, muI_lt _ _ hlt⟩
    · have hdec : decide ((i : Int) < (its.length : Int)) = false := by simp; omega
      simp only [hdec, Bool.false_eq_true, if_false]
      exact apart_L5 A4 H4 (hR h4 F4)
end Go.Proofs.YtkiakofohkecaaaDoor

/- The law PathsReaches: the program's Reach is the document's, asks the same, and its lists are each its own. No condition but that the rows are read in memory as told. -/
namespace Go.Proofs.YtkiakofohkecaaaDoor
open Go Go.Fw

noncomputable def rCode (of : Int → List Arc × Int) (most start : Int) : Int := if most < 0 then 1 else (searchF (srReach of most) start).code
noncomputable def rIds (of : Int → List Arc × Int) (most start : Int) : List Int := if most < 0 then [] else if (searchF (srReach of most) start).code = 0 then ids (searchF (srReach of most) start).settled else []
noncomputable def rAsked (of : Int → List Arc × Int) (most start : Int) : List Int := if most < 0 then [] else (searchF (srReach of most) start).asked
theorem rIds_len (of : Int → List Arc × Int) (most start : Int) : (rIds of most start).length ≤ 4096 := by
  unfold rIds
  split
  · simp
  · split
    · have := search_len (srReach of most) start; simpa [ids] using this
    · simp
theorem rAsked_len (of : Int → List Arc × Int) (most start : Int) : (rAsked of most start).length ≤ 4096 := by
  unfold rAsked
  split
  · simp
  · exact asks_len

theorem reach_all {h0 h : Hp} {of : Int → List Arc × Int} {Sh : List Int → List Nat → Hp → Prop} {a0 : List Int} {B0 : List Nat} {fv : Value} (A : ArcsOk h0 fv of Sh) (hs : Sh a0 B0 h) (ha : a0.length ≤ 34359738368) (start most : Int) {R : Value → Hp → Prop}
    (hR : ∀ h' B' v bv, Sh (a0 ++ rAsked of most start) B' h' → Fr h h' B0 → (∀ b ∈ B', b ∈ B0 ∨ h.size ≤ b) → OwnS h' 2 1 v (ints (rIds of most start)) bv → (∀ b ∈ bv, h.size ≤ b ∧ b ∉ B') → R (.tuple #[v, .int .i64 (rCode of most start)]) h') : CallsH Tryd.prog 22 #[fv, .int .i64 start, .int .i64 most] h R := by
  by_cases hm : most < 0
  · refine reach_none A start hm fun h' f => ?_
    have := hR h' B0 (.slice none 0 0) [] (by simpa [rAsked, hm] using A.fr hs f (by simp)) (f.mono (by simp)) (fun b hb => .inl hb) (by simpa [rIds, hm, ints] using OwnS.nil h' 2 1) (by simp)
    simpa [rCode, hm] using this
  · refine reach_spec A hs ha start (by omega) fun h' B' v bv h1 h2 h3 h4 h5 => ?_
    have := hR h' B' v bv (by simpa [rAsked, hm] using h1) h2 h3 (by simp only [rIds, hm, if_false]; split at h4 <;> simp_all [ints]) h5
    simpa [rCode, hm] using this
theorem rreach_all {h : Hp} {v : Value} {rows : List NRow} {tail : Bool} (net : NetOk h v rows) (start most : Int) {R : Value → Hp → Prop}
    (hR : ∀ h' ov av bv ba, OwnS h' 2 1 ov (ints (rIds (ofL rows tail) most start)) bv → OwnS h' 2 1 av (ints (rAsked (ofL rows tail) most start)) ba → Fr h h' [] → (∀ b ∈ bv, h.size ≤ b) → (∀ b ∈ ba, h.size ≤ b) → R (.tuple #[ov, .int .i64 (rCode (ofL rows tail) most start), av]) h') :
    CallsH Tryd.prog 23 #[.agg #[v, .bool tail], .int .i64 start, .int .i64 most] h R := by
  by_cases hm : most < 0
  · refine rreach_none start hm fun h' f => ?_
    have := hR h' (.slice none 0 0) (.slice none 0 0) [] [] (by simpa [rIds, hm, ints] using OwnS.nil h' 2 1) (by simpa [rAsked, hm, ints] using OwnS.nil h' 2 1) f (by simp) (by simp)
    simpa [rCode, hm] using this
  · refine rreach_spec net start (by omega) fun h' ov av bv ba h1 h2 h3 h4 h5 => ?_
    have := hR h' ov av bv ba (by simp only [rIds, hm, if_false]; split at h1 <;> simp_all [ints]) (by simpa [rAsked, hm] using h2) h3 h4 h5
    simpa [rCode, hm] using this

theorem fill_three {a b c : Value} (ha : a.cells = #[a]) (hb : b.cells = #[b]) (hc : c.cells = #[c]) : fillR 1 #[(.slice none 0 0), (.slice none 0 0), (.slice none 0 0)] [(0, a), (1, b), (2, c)] = some #[a, b, c] := by
  simp [fillR, Instr.fill, ha, hb, hc]
theorem seg_three {h : Hp} {b E : Nat} {x y z : Value} (e : h[b]? = some (.cells #[x, y, z] E (0, 0))) : Seg h 1 b 0 [[x], [y], [z]] := by
  refine ⟨_, _, _, e, by simp, by simp, fun a j u hi hj => ?_⟩
  have ha := (List.getElem?_eq_some_iff.1 hi).1
  simp at ha
  obtain rfl : j = 0 := by omega
  obtain rfl | rfl | rfl : a = 0 ∨ a = 1 ∨ a = 2 := by omega
  all_goals
    simp at hi
    subst hi
    simp

set_option maxHeartbeats 2000000 in
theorem law5 {h : Hp} {rows : List NRow} {tail : Bool} {v : Value} {Em : Nat} {fm : Nat × Nat} (net : NetOk h v rows) (hm : h[2]? = some (.cells #[.int .i64 (-71), .int .i64 (-72), .int .i64 (-73)] Em fm)) (start most : Int) :
    CallsH Tryd.prog 5 #[.agg #[v, .bool tail], .int .i64 start, .int .i64 most] h fun r h' => r = .bool true ∧ Fr h h' [] := by
  have hv := RowV.one net.rows
  refine f5.ok ?_
  unfold f5.T
  simp only [nw_eq, cells_agg, ptr0_eq]
  have f1 := Fr.push h (.cells #[v, .bool tail] 26 (0, 0)) []
  have g1 := get_new h (.cells #[v, .bool tail] 26 (0, 0))
  generalize h.push (.cells #[v, .bool tail] 26 (0, 0)) = h1 at *
  have l1 : ∀ h', Fr h1 h' [] → ldA 2 h' (.pointer (some ⟨h.size, 0, none⟩)) = some (.agg #[v, .bool tail]) := fun h' f => by rw [ldA_at (f.get g1 (by simp))]; simp
  simp only [l1 h1 (Fr.refl _ _), bnd_some, fill_shown hv, cells_agg]
  have sh := shown_new (rows := rows) (tail := tail) (v := v) f1
  have f2 := Fr.push h1 (.cells #[v, .bool tail, .slice none 0 0, .slice none 0 0] 31 (0, 0)) []
  generalize h1.push (.cells #[v, .bool tail, .slice none 0 0, .slice none 0 0] 31 (0, 0)) = h2 at *
  have AK := fun q => shown_ok (tail := tail) (q := q) net hm
  have f1s := f1.size
  have f2s := f2.size
  refine reach_all (AK _) sh (by simp) start most fun h3 B3 wv bw sh3 f3 hB3 ow nw => ?_
  have F13 : Fr h1 h3 [] := f2.trans f3 (by simp) (fun c hc hm => by simp at hm; omega)
  have f3s := f3.size
  simp only [extE_tuple, List.getElem?_toArray, List.getElem?_cons_succ, List.getElem?_cons_zero, bnd_some, l1 h3 F13]
  refine rreach_all (net.fr (f1.then F13)) start most fun h4 rv av br ba orv oav f4 nr na => ?_
  have ow4 := ow.fr f4 (by simp)
  have sh4 := (AK _).fr sh3 f4 (by simp)
  have hln := rIds_len (ofL rows tail) most start
  simp only [extE_tuple, List.getElem?_toArray, List.getElem?_cons_succ, List.getElem?_cons_zero, bnd_some]
  refine ids_spec ow4.rowv orv.rowv (by omega) ?_
  obtain ⟨gs, bla, blg, ea, eB, H4⟩ := sh4
  simp only [List.nil_append] at ea
  simp only [decide_true, unE_not, Bool.not_true, bnd_some, isB_bool, beq_self_eq_true, cond_true, cond_false, bin_neq, ne_eq, not_true_eq_false, decide_false, asB_bool, Option.map_some, guardT_true]
  have hal := rAsked_len (ofL rows tail) most start
  refine whole_spec net hm H4 (by rw [← ea]; exact oav.rowv) (by have := congrArg List.length ea; simp at this; omega) fun h5 f5 => ?_
  simp only [unE_not, Bool.not_true, bnd_some, asB_bool, Option.map_some, cond_false, condT_bool, Bool.false_eq_true, if_false]
  have F15 : Fr h1 h5 [] := (F13.then f4).then f5
  simp only [l1 h5 F15, bnd_some, fill_shown hv, nw_eq, cells_agg, ptr0_eq]
  have ow5 := ow4.fr f5 (by simp)
  have or5 := orv.fr f5 (by simp)
  have sh6 := shown_new (rows := rows) (tail := tail) (v := v) (f1.then F15)
  have f6 := Fr.push h5 (.cells #[v, .bool tail, .slice none 0 0, .slice none 0 0] 31 (0, 0)) []
  generalize h5.push (.cells #[v, .bool tail, .slice none 0 0, .slice none 0 0] 31 (0, 0)) = h6 at *
  have ow6 := ow5.fr f6 (by simp)
  have or6 := or5.fr f6 (by simp)
  have lw := ow5.lt
  have lr := or5.lt
  have f6s := f6.size
  refine reach_all (AK _) sh6 (by simp) start 0 fun h7 B7 xv bx sh7 f7 hB7 ox nx => ?_
  have ow7 := ow6.fr f7 fun b hb hb' => by simp at hb'; have := lw b hb; omega
  have or7 := or6.fr f7 fun b hb hb' => by simp at hb'; have := lr b hb; omega
  have f7s := f7.size
  have hB7' : ∀ b ∈ B7, h5.size ≤ b := fun b hb => by rcases hB7 b hb with h | h; simp at h; omega; omega
  simp only [extE_tuple, List.getElem?_toArray, List.getElem?_cons_succ, List.getElem?_cons_zero, bnd_some]
  have hal0 := rAsked_len (ofL rows tail) 0 start
  refine reach_all (AK _) sh7 (by simp; omega) start most fun h8 B8 yv by_ sh8 f8 hB8 oy ny => ?_
  have ow8 := ow7.fr f8 fun b hb hb' => by have := hB7' b hb'; have := lw b hb; omega
  have or8 := or7.fr f8 fun b hb hb' => by have := hB7' b hb'; have := lr b hb; omega
  have ox8 := ox.fr f8 fun b hb hb' => (nx b hb).2 hb'
  have f8s := f8.size
  simp only [extE_tuple, List.getElem?_toArray, List.getElem?_cons_succ, List.getElem?_cons_zero, bnd_some]
  refine ids_spec oy.rowv or8.rowv (by omega) ?_
  simp only [decide_true, isB_bool, beq_self_eq_true, cond_true, guardT_true]
  refine ids_spec ow8.rowv or8.rowv (by omega) ?_
  simp only [decide_true, asB_bool, Option.map_some, cond_true, bnd_some, isB_bool, beq_self_eq_true, guardT_true, fill_three ow8.cells ox8.cells oy.cells, nw_eq]
  have f9 := Fr.push h8 (.cells #[wv, xv, yv] 28 (0, 0)) []
  have g9 := get_new h8 (.cells #[wv, xv, yv] 28 (0, 0))
  generalize h8.push (.cells #[wv, xv, yv] 28 (0, 0)) = h9 at *
  have ow9 := ow8.fr f9 (by simp)
  have ox9 := ox8.fr f9 (by simp)
  have oy9 := oy.fr f9 (by simp)
  have lw8 := ow8.lt
  have lx8 := ox8.lt
  have lx7 := ox.lt
  have ly8 := oy.lt
  have hln0 := rIds_len (ofL rows tail) 0 start
  have hAp : Apart h9 h8.size [⟨wv, rIds (ofL rows tail) most start, bw⟩, ⟨xv, rIds (ofL rows tail) 0 start, bx⟩, ⟨yv, rIds (ofL rows tail) most start, by_⟩] := by
    refine ⟨seg_three g9, ?_, ?_, by simp, ?_⟩
    · intro hb
      simp only [allB, List.flatMap_cons, List.flatMap_nil, List.append_nil, List.mem_append] at hb
      rcases hb with hb | hb | hb
      · have := lw8 _ hb; omega
      · have := lx8 _ hb; omega
      · have := ly8 _ hb; omega
    · intro i j it jt hi hj hne b hb hb'
      have d1 : ∀ b ∈ bw, b ∉ bx := fun b h1 h2 => by have := lw b h1; have := (nx b h2).1; omega
      have d2 : ∀ b ∈ bw, b ∉ by_ := fun b h1 h2 => by have := lw b h1; have := (ny b h2).1; omega
      have d3 : ∀ b ∈ bx, b ∉ by_ := fun b h1 h2 => by have := lx7 b h1; have := (ny b h2).1; omega
      have hi3 := (List.getElem?_eq_some_iff.1 hi).1
      have hj3 := (List.getElem?_eq_some_iff.1 hj).1
      simp at hi3 hj3
      obtain rfl | rfl | rfl : i = 0 ∨ i = 1 ∨ i = 2 := by omega
      all_goals obtain rfl | rfl | rfl : j = 0 ∨ j = 1 ∨ j = 2 := by omega
      all_goals first | exact hne rfl | skip
      all_goals
        simp at hi hj
        subst hi hj
      · exact d1 b hb hb'
      · exact d2 b hb hb'
      · exact d1 b hb' hb
      · exact d3 b hb hb'
      · exact d2 b hb' hb
      · exact d3 b hb' hb
    · intro it hit
      simp at hit
      rcases hit with rfl | rfl | rfl <;> simp only <;> omega
  have hHe : Held h9 [⟨wv, rIds (ofL rows tail) most start, bw⟩, ⟨xv, rIds (ofL rows tail) 0 start, bx⟩, ⟨yv, rIds (ofL rows tail) most start, by_⟩] fun _ it => it.xs := by
    intro j it hj
    have hj3 := (List.getElem?_eq_some_iff.1 hj).1
    simp at hj3
    obtain rfl | rfl | rfl : j = 0 ∨ j = 1 ∨ j = 2 := by omega
    all_goals
      simp at hj
      subst hj
    · exact ow9
    · exact ox9
    · exact oy9
  refine apart_spec (cap := 3) hAp hHe fun h10 f10 => ?_
  simp only [asB_bool, Option.map_some, cond_true, bnd_some]
  refine ⟨by trivial, ?_⟩
  have F16 : Fr h h6 [] := (f1.then F15).then f6
  have h5s : h.size ≤ h5.size := (f1.then F15).size
  have F7 : Fr h h7 [] := F16.trans f7 (by simp) fun c hc hm => by simp at hm; omega
  have F8 : Fr h h8 [] := F7.trans f8 (by simp) fun c hc hm => by have := hB7' c hm; omega
  refine (F8.then f9).trans f10 (by simp) fun c hc hm => ?_
  simp only [allB, List.flatMap_cons, List.flatMap_nil, List.append_nil, List.mem_append] at hm
  rcases hm with hm | hm | hm
  · have := (nw c hm).1; omega
  · have := (nx c hm).1; omega
  · have := (ny c hm).1; omega
end Go.Proofs.YtkiakofohkecaaaDoor
