/- What the rows answer for a node. No condition but that the rows are read in memory as told. -/
import Derived.Test.YtkiakofohkecaaaDoorE11
namespace Go.Proofs.YtkiakofohkecaaaDoor
open Go Go.Fw

structure Arc where
  edge : Int
  to : Int
  weight : Int
def Arc.enc (a : Arc) : List Value := [.int .i64 a.edge, .int .i64 a.to, .int .i64 a.weight]
structure NRow where
  id : Int
  v : Value
  arcs : List Arc
  code : Int
def NRow.enc (r : NRow) : List Value := [.int .i64 r.id, r.v, .int .i64 r.code]
/-- The rows, as they lie in memory. -/
structure NetOk (h : Hp) (v : Value) (rs : List NRow) : Prop where
  rows : RowV h 3 v (rs.map NRow.enc)
  arcs : ∀ r ∈ rs, RowV h 3 r.v (r.arcs.map Arc.enc)
  bound : rs.length ≤ 1048576
  each : ∀ r ∈ rs, r.arcs.length ≤ 1048576
theorem RowV.one {h : Hp} {k : Nat} {v : Value} {xs : List (List Value)} (r : RowV h k v xs) : v.oneCell' = true := by
  obtain ⟨a, cap, rfl, _⟩ := r; rfl
theorem NetOk.fr {h h' : Hp} {v : Value} {rows : List NRow} (o : NetOk h v rows) (f : Fr h h' []) : NetOk h' v rows := ⟨o.rows.fr f, fun r hr => (o.arcs r hr).fr f, o.bound, o.each⟩

/-- What is answered for a node. -/
def ofL (rows : List NRow) (tail : Bool) (id : Int) : List Arc × Int :=
  match rows.find? (fun r => r.id == id) with
  | some r => if r.code = 0 then (r.arcs, 0) else ([], r.code)
  | none => if tail then ([⟨id, IntKind.i64.wrap (id + 1), 1⟩], 0) else ([], 0)

def RInv (rows : List NRow) (t : Int) (h : Hp) (vs : List Value) (h' : Hp) : Prop := ∃ i : Nat, vs = [.int .i64 i] ∧ i ≤ rows.length ∧ (∀ s ∈ rows.take i, s.id ≠ t) ∧ h' = h
theorem RInv.next {l : List NRow} {t : Int} {h : Hp} {i : Nat} (hi : i < l.length) (h1 : ∀ s ∈ l.take i, s.id ≠ t) (h2 : l[i].id ≠ t) : RInv l t h [.int .i64 ((i + 1 : Nat) : Int)] h := by
  refine ⟨i + 1, rfl, by omega, fun s hs => ?_, rfl⟩
  rw [List.take_add_one] at hs
  rcases List.mem_append.1 hs with hs | hs
  · exact h1 s hs
  · simp [hi] at hs
    subst hs
    exact h2
theorem find_at {l : List NRow} {t : Int} {i : Nat} (hi : i < l.length) (hno : ∀ s ∈ l.take i, s.id ≠ t) (he : l[i].id = t) : l.find? (fun s => s.id == t) = some l[i] := by
  generalize hx : l[i] = x at he
  have e : l = l.take i ++ (x :: l.drop (i + 1)) := by rw [← hx, ← List.drop_eq_getElem_cons hi, List.take_append_drop]
  have hn : (l.take i).find? (fun s => s.id == t) = none := List.find?_eq_none.2 fun s hs => by simpa using hno s hs
  have e3 : (l.take i ++ (x :: l.drop (i + 1))).find? (fun s => s.id == t) = some x := by
    rw [List.find?_append, hn]; simp [he]
  rwa [← e] at e3
theorem fill_arc (a b c : Int) : (fillS [(0, 1), (1, 1), (2, 1)] #[(.int .i64 0), (.int .i64 0), (.int .i64 0)] [(0, .int .i64 a), (1, .int .i64 b), (2, .int .i64 c)]).map Value.agg = some (.agg #[.int .i64 a, .int .i64 b, .int .i64 c]) := by kernel_rfl
theorem fill_arc1 (a b c : Int) : fillR 3 #[(.int .i64 0), (.int .i64 0), (.int .i64 0)] [(0, .agg #[.int .i64 a, .int .i64 b, .int .i64 c])] = some #[.int .i64 a, .int .i64 b, .int .i64 c] := by kernel_rfl

theorem of_spec {h : Hp} {v : Value} {rows : List NRow} {tail : Bool} (o : NetOk h v rows) (id : Int) {R : Value → Hp → Prop} (hR : ∀ h' v', RowV h' 3 v' ((ofL rows tail id).1.map Arc.enc) → Fr h h' [] → R (.tuple #[v', .int .i64 (ofL rows tail id).2]) h') :
    CallsH Tryd.prog 32 #[.agg #[v, .bool tail], .int .i64 id] h R := by
  refine f32.ok ?_
  unfold f32.T
  simp only [nw_eq, cells_agg, ptr0_eq]
  have f1 := Fr.push h (.cells #[v, .bool tail] 26 (0, 0)) []
  have g1 := get_new h (.cells #[v, .bool tail] 26 (0, 0))
  generalize h.push (.cells #[v, .bool tail] 26 (0, 0)) = hb at *
  generalize h.size = q at *
  have o1 := o.fr f1
  have hlen : lenE v = some (.int .i64 rows.length) := by obtain ⟨a, cap, rfl, _⟩ := o.rows; simp
  have hbd := o.bound
  unfold f32.L1
  refine ⟨RInv rows id hb, muI rows.length, ⟨0, rfl, by omega, by simp, rfl⟩, ?_⟩
  intro t7 t8 t9 t10 t11 t14 t15 t16 t17 t18 t19 t20 t21 t22 t23 t24 t25 t26 t27 t28 t29 t30 t31 t32 t33 t34 t35 t36 t37 t38 t39 t40 t4 t5 t12 t13 t6 h2
  rintro ⟨i, hl, hi, hno, rfl⟩
  obtain rfl : t6 = .int .i64 i := by simpa using hl
  simp only [fldE_ptr, bnd_some, ldS_at g1, Nat.zero_add, List.getElem?_toArray, List.getElem?_cons_succ, List.getElem?_cons_zero, hlen, bin_lss, condT_bool]
  by_cases hlt : i < rows.length
  · have hdec : decide ((i : Int) < (rows.length : Int)) = true := by simp; omega
    have w1 : IntKind.i64.wrap ((i : Int) + 1) = ((i + 1 : Nat) : Int) := by rw [i64_id (by omega) (by omega)]; omega
    obtain ⟨eb, eo, ee, _, er⟩ := o1.rows.get (i := i) (x := (rows[i]).enc) (by simp [hlt]) .i64
    have er' := (er h2 (Fr.refl _ _)).1
    have r0 : ldS h2 (.pointer (some ⟨eb, eo + 0, none⟩)) = some (.int .i64 rows[i].id) := er' 0 (by omega)
    have r1 : ldS h2 (.pointer (some ⟨eb, eo + 1, none⟩)) = some rows[i].v := er' 1 (by omega)
    have r2 : ldS h2 (.pointer (some ⟨eb, eo + 2, none⟩)) = some (.int .i64 rows[i].code) := er' 2 (by omega)
    by_cases he : rows[i].id = id
    · have hf := find_at hlt hno he
      by_cases hc : rows[i].code = 0
      · have e : ofL rows tail id = (rows[i].arcs, 0) := by simp only [ofL, hf, hc, if_true]
        rw [e] at hR
        have := hR h2 rows[i].v (o1.arcs _ (by simp)) f1
        simp only [hdec, if_true, ee, bnd_some, fldE_ptr, r0, bin_eql, he, decide_true, condT_bool, r2, bin_neq, hc, ne_eq, not_true_eq_false, decide_false, Bool.false_eq_true, if_false, r1]
        exact this
      · have e : ofL rows tail id = ([], rows[i].code) := by simp only [ofL, hf, hc, if_false]
        rw [e] at hR
        have := hR h2 (.slice none 0 0) ⟨none, 0, rfl, fun h => absurd rfl h⟩ f1
        simp only [hdec, if_true, ee, bnd_some, fldE_ptr, r0, bin_eql, he, decide_true, condT_bool, r2, bin_neq, hc, ne_eq, not_false_eq_true]
        exact this
    · have inv := RInv.next (h := h2) hlt hno he
      have mu := muI_lt h2 h2 hlt
      simp only [hdec, if_true, ee, bnd_some, fldE_ptr, r0, bin_eql, he, decide_false, condT_bool, Bool.false_eq_true, if_false, bin_add, w1]
      exact ⟨inv, mu⟩
  · have hdec : decide ((i : Int) < (rows.length : Int)) = false := by simp; omega
    obtain rfl : i = rows.length := by omega
    rw [List.take_length] at hno
    have hf : rows.find? (fun s => s.id == id) = none := List.find?_eq_none.2 fun s hs => by simpa using hno s hs
    simp only [hdec, Bool.false_eq_true, if_false]
    cases tail
    · have e : ofL rows false id = ([], 0) := by simp [ofL, hf]
      rw [e] at hR
      simp only [Bool.false_eq_true, if_false]
      exact hR h2 (.slice none 0 0) ⟨none, 0, rfl, fun h => absurd rfl h⟩ f1
    · have e : ofL rows true id = ([⟨id, IntKind.i64.wrap (id + 1), 1⟩], 0) := by simp [ofL, hf]
      rw [e] at hR
      simp only [if_true, bin_add, bnd_some, fill_arc, fill_arc1, nw_eq]
      have f2 := Fr.push h2 (.cells #[.int .i64 id, .int .i64 (IntKind.i64.wrap (id + 1)), .int .i64 1] 62 (0, 0)) []
      have e2 := get_new h2 (.cells #[.int .i64 id, .int .i64 (IntKind.i64.wrap (id + 1)), .int .i64 1] 62 (0, 0))
      refine hR _ (.slice (some ⟨h2.size, 0, none⟩) 1 1) ⟨_, 1, rfl, fun _ => ⟨h2.size, 0, rfl, _, _, _, e2, by simp, by simp [Arc.enc], fun a j y hi hj => ?_⟩⟩ (f1.then f2)
      obtain rfl : a = 0 := by
        have := (List.getElem?_eq_some_iff.1 hi).1
        simpa using this
      obtain rfl : (⟨id, IntKind.i64.wrap (id + 1), 1⟩ : Arc).enc = y := by simpa using hi
      simp [Arc.enc]
end Go.Proofs.YtkiakofohkecaaaDoor
