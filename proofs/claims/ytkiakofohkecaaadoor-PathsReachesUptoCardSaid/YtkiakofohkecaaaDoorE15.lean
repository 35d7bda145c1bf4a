/- What a function tells that is asked for arcs, as the search needs it; the rows as they are shown: each asking is noted, each list is its own. No condition but that the memory is as told. -/
import Derived.Test.YtkiakofohkecaaaDoorE14
import Derived.Test.YtkiakofohkecaaaDoorFw18
namespace Go.Proofs.YtkiakofohkecaaaDoor
open Go Go.Fw

/-- A function value that tells arcs: its state, what it may write, what it answers. -/
structure ArcsOk (h0 : Hp) (fv : Value) (of : Int → List Arc × Int) (Sh : List Int → List Nat → Hp → Prop) : Prop where
  one : fv.oneCell' = true
  cells : fv.cells = #[fv]
  nil : nilBin .f .eql fv .nilFunc = some (.bool false)
  fr : ∀ {h h' : Hp} {a : List Int} {B S : List Nat}, Sh a B h → Fr h h' S → (∀ b ∈ S, h0.size ≤ b ∧ b ∉ B) → Sh a B h'
  lt : ∀ {h : Hp} {a : List Int} {B : List Nat}, Sh a B h → h0.size ≤ h.size ∧ ∀ b ∈ B, h0.size ≤ b ∧ b < h.size
  len : ∀ id, (of id).1.length ≤ 1048576
  call : ∀ {h : Hp} {a : List Int} {B : List Nat} (id : Int) {K : Value → Hp → Prop}, Sh a B h → a.length ≤ 1048576 →
    (∀ h' v B', Sh (a ++ [id]) B' h' → Fr h h' B → (∀ b ∈ B', b ∈ B ∨ h.size ≤ b) → RowB h' 3 v ((of id).1.map Arc.enc) B' → K (.tuple #[v, .int .i64 (of id).2]) h') →
    callV Tryd.prog fv #[.int .i64 id] h K

theorem elem28 : ElemOk Tryd.prog 28 2 1 8 := .of (z := .int .i64 0) (by kernel_rfl) (by kernel_rfl) (by kernel_rfl)
theorem elem29 : ElemOk Tryd.prog 29 59 1 24 := .of (z := .slice none 0 0) (by kernel_rfl) (by kernel_rfl) (by kernel_rfl)
theorem elem59 : ElemOk Tryd.prog 59 62 3 24 := .of (z := .agg #[.int .i64 0, .int .i64 0, .int .i64 0]) (by kernel_rfl) (by kernel_rfl) (by kernel_rfl)
theorem info62 : (Tryd.prog.info? 62).map (fun i => (i.zero, i.size, i.bytes)) = some (some (.agg #[.int .i64 0, .int .i64 0, .int .i64 0]), 3, 24) := by kernel_rfl

/-- A list that was given: its block, its room, the node. -/
structure GRow where
  b : Nat
  cap : Nat
  id : Int
def markA : Arc := ⟨-71, -72, -73⟩
def ownL (rows : List NRow) (tail : Bool) (id : Int) : List (List Value) := ((ofL rows tail id).1 ++ [markA, markA]).map Arc.enc
def GRow.val (rows : List NRow) (tail : Bool) (g : GRow) : Value := .slice (some ⟨g.b, 0, none⟩) (ownL rows tail g.id).length g.cap

structure ShownAt (h0 : Hp) (rows : List NRow) (tail : Bool) (v : Value) (q : Nat) (gs : List GRow) (bla blg : List Nat) (h : Hp) : Prop where
  base : Fr h0 h []
  new : h0.size ≤ q ∧ (∀ b ∈ bla, h0.size ≤ b) ∧ (∀ b ∈ blg, h0.size ≤ b) ∧ ∀ g ∈ gs, h0.size ≤ g.b
  top : ∃ av gv, h[q]? = some (.cells #[v, .bool tail, av, gv] 31 (0, 0)) ∧ OwnS h 2 1 av (ints (gs.map (·.id))) bla ∧ OwnS h 59 1 gv (gs.map fun g => [g.val rows tail]) blg
  each : ∀ g ∈ gs, RowAt h 62 3 g.b g.cap (ownL rows tail g.id)
  ne : q ∉ bla ∧ q ∉ blg ∧ (∀ b ∈ bla, b ∉ blg) ∧ ∀ g ∈ gs, g.b ≠ q ∧ g.b ∉ bla ∧ g.b ∉ blg

def ShownS (h0 : Hp) (rows : List NRow) (tail : Bool) (v : Value) (q : Nat) (a : List Int) (B : List Nat) (h : Hp) : Prop :=
  ∃ gs bla blg, a = gs.map (·.id) ∧ B = q :: bla ++ blg ++ gs.map (·.b) ∧ ShownAt h0 rows tail v q gs bla blg h

section
variable {h0 h h' : Hp} {rows : List NRow} {tail : Bool} {v : Value} {q : Nat} {gs : List GRow} {bla blg S : List Nat}
theorem ShownAt.fr (H : ShownAt h0 rows tail v q gs bla blg h) (f : Fr h h' S) (hS : ∀ b ∈ S, h0.size ≤ b ∧ b ∉ q :: bla ++ blg ++ gs.map (·.b)) : ShownAt h0 rows tail v q gs bla blg h' := by
  obtain ⟨av, gv, e, oa, og⟩ := H.top
  have hn : ∀ b, b ∈ q :: bla ++ blg ++ gs.map (·.b) → b ∉ S := fun b hb hs => (hS b hs).2 hb
  refine ⟨H.base.news f fun c hc => (hS c hc).1, H.new, ⟨av, gv, f.get e (hn q (by simp)), oa.fr f fun b hb => hn b (by simp [hb]), og.fr f fun b hb => hn b (by simp [hb])⟩, fun g hg => (H.each g hg).fr f (hn _ ?_), H.ne⟩
  simp only [List.mem_append, List.mem_map]
  exact .inr ⟨g, hg, rfl⟩
theorem ShownAt.lt (H : ShownAt h0 rows tail v q gs bla blg h) : ∀ b ∈ q :: bla ++ blg ++ gs.map (·.b), h0.size ≤ b ∧ b < h.size := by
  obtain ⟨av, gv, e, oa, og⟩ := H.top
  intro b hb
  simp only [List.cons_append, List.mem_cons, List.mem_append, List.mem_map] at hb
  rcases hb with rfl | (hb | hb) | ⟨g, hg, rfl⟩
  · exact ⟨H.new.1, lt_of_get e⟩
  · exact ⟨H.new.2.1 b hb, oa.lt b hb⟩
  · exact ⟨H.new.2.2.1 b hb, og.lt b hb⟩
  · exact ⟨H.new.2.2.2 g hg, (H.each g hg).lt⟩
end

theorem arc_one (a : Arc) : ∀ u ∈ a.enc, u.oneCell' = true := by simp [Arc.enc]
theorem enc_one {l : List Arc} : ∀ x ∈ l.map Arc.enc, ∀ u ∈ x, u.oneCell' = true := fun x hx => by obtain ⟨a, _, rfl⟩ := List.mem_map.1 hx; exact arc_one a
theorem ofL_len {h : Hp} {v : Value} {rows : List NRow} (o : NetOk h v rows) (tail : Bool) (id : Int) : (ofL rows tail id).1.length ≤ 1048576 := by
  unfold ofL
  split
  · rename_i r hr
    have := o.each r (List.mem_of_find?_eq_some hr)
    split
    · exact this
    · simp
  · split <;> simp
theorem fill_int (k : Int) : fillR 1 #[(.int .i64 0)] [(0, .int .i64 k)] = some #[.int .i64 k] := by kernel_rfl
theorem fill_marks : fillR 3 #[(.int .i64 0), (.int .i64 0), (.int .i64 0), (.int .i64 0), (.int .i64 0), (.int .i64 0)] [(0, .agg #[.int .i64 (-71), .int .i64 (-72), .int .i64 (-73)]), (1, .agg #[.int .i64 (-71), .int .i64 (-72), .int .i64 (-73)])] = some #[.int .i64 (-71), .int .i64 (-72), .int .i64 (-73), .int .i64 (-71), .int .i64 (-72), .int .i64 (-73)] := by kernel_rfl
theorem fill_sl (b n c : Nat) : fillR 1 #[(.slice none 0 0)] [(0, .slice (some ⟨b, 0, none⟩) n c)] = some #[.slice (some ⟨b, 0, none⟩) n c] := by kernel_rfl
theorem seg_one {h : Hp} {b E : Nat} {x : Value} (e : h[b]? = some (.cells #[x] E (0, 0))) : Seg h 1 b 0 [[x]] := by
  refine ⟨_, _, _, e, by simp, by simp, fun a j y hi hj => ?_⟩
  obtain rfl : a = 0 := by
    have := (List.getElem?_eq_some_iff.1 hi).1
    simpa using this
  obtain rfl : [x] = y := by simpa using hi
  obtain rfl : j = 0 := by omega
  simp

theorem seg_two {h : Hp} {b E : Nat} (e : h[b]? = some (.cells #[.int .i64 (-71), .int .i64 (-72), .int .i64 (-73), .int .i64 (-71), .int .i64 (-72), .int .i64 (-73)] E (0, 0))) : Seg h 3 b 0 ([markA, markA].map Arc.enc) := by
  refine ⟨_, _, _, e, by simp, by simp [Arc.enc], fun a j y hi hj => ?_⟩
  have ha := (List.getElem?_eq_some_iff.1 hi).1
  simp at ha
  obtain rfl | rfl : a = 0 ∨ a = 1 := by omega
  all_goals
    obtain rfl : markA.enc = y := by simpa using hi
    obtain rfl | rfl | rfl : j = 0 ∨ j = 1 ∨ j = 2 := by omega
    all_goals simp [Arc.enc, markA]
set_option maxHeartbeats 2000000 in
theorem arcs_spec {h0 h : Hp} {rows : List NRow} {tail : Bool} {v : Value} {q : Nat} {gs : List GRow} {bla blg : List Nat} {Em : Nat} {fm : Nat × Nat} (net : NetOk h0 v rows) (hm : h0[2]? = some (.cells #[.int .i64 (-71), .int .i64 (-72), .int .i64 (-73)] Em fm))
    (H : ShownAt h0 rows tail v q gs bla blg h) (hn : gs.length ≤ 1048576) (nd : Int) {R : Value → Hp → Prop}
    (hR : ∀ h' g bla' blg' u, g.id = nd → ShownAt h0 rows tail v q (gs ++ [g]) bla' blg' h' → Fr h h' (q :: bla ++ blg) → h.size ≤ g.b → (∀ b ∈ bla', b ∈ bla ∨ h.size ≤ b) → (∀ b ∈ blg', b ∈ blg ∨ h.size ≤ b) → RowB h' 3 u ((ofL rows tail nd).1.map Arc.enc) [g.b] → R (.tuple #[u, .int .i64 (ofL rows tail nd).2]) h') :
    CallsH Tryd.prog 19 #[.pointer (some ⟨q, 0, none⟩), .int .i64 nd] h R := by
  obtain ⟨av, gv, e, oa, og⟩ := H.top
  have hlt := H.lt
  have hal := ofL_len net tail nd
  have hq := lt_of_get e
  have hb0 := H.base.size
  have h2lt := lt_of_get hm
  obtain ⟨n1, n2, n3, n4⟩ := H.ne
  refine f19.ok ?_
  unfold f19.T
  simp only [nilE_ptr, bnd_some, fldE_ptr, Nat.zero_add, ldS_at e, List.getElem?_toArray, List.getElem?_cons_succ, List.getElem?_cons_zero, fill_int, nw_eq]
  have f1 := Fr.push h (.cells #[.int .i64 nd] 2 (0, 0)) []
  have g1 := get_new h (.cells #[.int .i64 nd] 2 (0, 0))
  generalize h.push (.cells #[.int .i64 nd] 2 (0, 0)) = h1 at *
  refine own_app elem28 (oa.fr f1 (by simp)) (seg_one g1) (by simp) (by simp [ints]; omega) (by simp [ints]; omega) fun h2 av' bla' oa' f2 bl2 => ?_
  have F2 : Fr h h2 (q :: bla) := f1.trans f2 (by simp) (fun c _ hc => by simp [hc])
  have e2 := f2.get (f1.get e (by simp)) n1
  have st3 : stE 1 h2 (.pointer (some ⟨q, 2, none⟩)) av' = some (h2.setIfInBounds q (.cells #[v, .bool tail, av', gv] 31 (0, 0))) := by
    rw [stE_at _ e2]; simp [splice, oa'.cells, oa'.one]
  have e3 := get_set (o' := .cells #[v, .bool tail, av', gv] 31 (0, 0)) e2
  have f3 : Fr h2 (h2.setIfInBounds q (.cells #[v, .bool tail, av', gv] 31 (0, 0))) [q] := Fr.set _ _ _ (fun _ => by simp) (by rw [e2]; rfl)
  have qb' : q ∉ bla' := fun hm' => by rcases bl2 q hm' with h | h; exact n1 h; have := f1.size; omega
  have oa3 := oa'.fr f3 (fun b hb hb' => by simp at hb'; subst hb'; exact qb' hb)
  simp only [st3, bnd_some]
  generalize h2.setIfInBounds q (.cells #[v, .bool tail, av', gv] 31 (0, 0)) = h3 at *
  have F3 : Fr h h3 (q :: bla) := F2.trans f3 (fun _ _ h => h) (fun c _ hc => by simp at hc; simp [hc])
  have B3 : Fr h0 h3 [] := H.base.news F3 fun c hc => (hlt c (by simp at hc ⊢; rcases hc with h | h <;> simp [h])).1
  have l3 : ldA 2 h3 (.pointer (some ⟨q, 0, none⟩)) = some (.agg #[v, .bool tail]) := by rw [ldA_at e3]; simp
  simp only [l3, bnd_some]
  refine of_spec (net.fr B3) nd fun h4 v4 r4 f4 => ?_
  have F4 : Fr h h4 (q :: bla) := F3.trans f4 (fun _ _ h => h) (by simp)
  have r4' := r4
  obtain ⟨a4, c4, rfl, x4⟩ := r4'
  have w4 : IntKind.i64.wrap ((((ofL rows tail nd).1.map Arc.enc).length : Int) + 2) = (((ofL rows tail nd).1.length + 2 : Nat) : Int) := by rw [List.length_map, i64_id (by omega) (by omega)]; omega
  simp only [extE_tuple, List.getElem?_toArray, List.getElem?_cons_succ, List.getElem?_cons_zero, bnd_some, lenE_sl, bin_add, w4]
  refine make_room (z := .agg #[.int .i64 0, .int .i64 0, .int .i64 0]) elem59.slice info62 rfl (by omega) (by omega) fun h5 r5 f5 => ?_
  have F5 : Fr h h5 (q :: bla) := F4.trans f5 (fun _ _ h => h) (by simp)
  have r4s := RowV.fr r4 f5
  have hB5 : (([] : List (List Value)).length + ((ofL rows tail nd).1.map Arc.enc).length) * 24 ≤ 140737488355328 := by simp only [List.length_nil, List.length_map]; omega
  have hM5 : ([] : List (List Value)).length + ((ofL rows tail nd).1.map Arc.enc).length ≤ 4611686018427387904 := by simp only [List.length_nil, List.length_map]; omega
  refine append_v (ty := 59) elem59 r5 r4s enc_one hB5 hM5 ?_
  intro h6 b6 c6 r6 f6 hb6
  have F6 : Fr h h6 (q :: bla) := F5.trans f6 (fun _ _ h => h) (fun c hc hm' => by simp at hm'; have := F4.size; omega)
  have hb6' : h.size ≤ b6 := by rcases hb6 with h | h; (have := Option.some.inj h; have := F4.size; omega); (have := F5.size; omega)
  have B6 : Fr h0 h6 [] := H.base.news F6 fun c hc => (hlt c (by simp at hc ⊢; rcases hc with h | h <;> simp [h])).1
  have m6 := B6.get hm (by simp)
  have l6 : ldA 3 h6 (.pointer (some ⟨2, 0, none⟩)) = some (.agg #[.int .i64 (-71), .int .i64 (-72), .int .i64 (-73)]) := by rw [ldA_at m6]; simp
  simp only [l6, bnd_some, fill_marks, nw_eq]
  have f7 := Fr.push h6 (.cells #[.int .i64 (-71), .int .i64 (-72), .int .i64 (-73), .int .i64 (-71), .int .i64 (-72), .int .i64 (-73)] 62 (0, 0)) []
  have g7 := get_new h6 (.cells #[.int .i64 (-71), .int .i64 (-72), .int .i64 (-73), .int .i64 (-71), .int .i64 (-72), .int .i64 (-73)] 62 (0, 0))
  generalize h6.push (.cells #[.int .i64 (-71), .int .i64 (-72), .int .i64 (-73), .int .i64 (-71), .int .i64 (-72), .int .i64 (-73)] 62 (0, 0)) = h7 at *
  have F7 : Fr h h7 (q :: bla) := F6.trans f7 (fun _ _ h => h) (by simp)
  have s7 : Seg h7 3 h6.size 0 ([markA, markA].map Arc.enc) := seg_two g7
  have r7 := r6.fr f7 (by simp)
  refine append_row (ty := 59) elem59 r7 s7 enc_one (by simp; omega) (by simp; omega) fun h8 b8 c8 r8 f8 hb8 => ?_
  have F8 : Fr h h8 (q :: bla) := F7.trans f8 (fun _ _ h => h) (fun c hc hm' => by simp at hm'; omega)
  have hb8' : h.size ≤ b8 := by rcases hb8 with h | h; (have := Option.some.inj h; omega); (have := F7.size; omega)
  have FQ : Fr h3 h8 [] := by
    refine ((f4.trans f5 (S := []) (by simp) (by simp)).trans f6 (S := []) (by simp) (fun c hc hm' => by simp at hm'; have := f4.size; omega)).trans (f7.trans f8 (S := [b6]) (by simp) (by simp)) (by simp) (fun c hc hm' => ?_)
    simp at hm'
    have := f4.size; have := f5.size
    rcases hb6 with h | h
    · have := Option.some.inj h; omega
    · omega
  have e8 := FQ.get e3 (by simp)
  have oa8 := oa3.fr FQ (by simp)
  have og8 := og.fr F8 (fun b hb hb' => by simp at hb'; rcases hb' with rfl | hb'; exact n2 hb; exact n3 b hb' hb)
  have each8 : ∀ g ∈ gs, RowAt h8 62 3 g.b g.cap (ownL rows tail g.id) := fun g hg => (H.each g hg).fr F8 (by simp; exact ⟨(n4 g hg).1, (n4 g hg).2.1⟩)
  have er8 : List.map Arc.enc (ofL rows tail nd).1 ++ [markA, markA].map Arc.enc = ownL rows tail nd := by simp [ownL]
  simp only [List.nil_append, er8] at r8
  simp only [List.nil_append, er8, ldS_at e8, List.getElem?_toArray, List.getElem?_cons_succ, List.getElem?_cons_zero, bnd_some, fill_sl, nw_eq]
  have f9 := Fr.push h8 (.cells #[.slice (some ⟨b8, 0, none⟩) (ownL rows tail nd).length c8] 59 (0, 0)) []
  have g9 := get_new h8 (.cells #[.slice (some ⟨b8, 0, none⟩) (ownL rows tail nd).length c8] 59 (0, 0))
  generalize h8.push (.cells #[.slice (some ⟨b8, 0, none⟩) (ownL rows tail nd).length c8] 59 (0, 0)) = h9 at *
  refine own_app elem29 (og8.fr f9 (by simp)) (seg_one g9) (by simp) (by simp; omega) (by simp; omega) fun h10 gv' blg' og' f10 bl10 => ?_
  have F10' : Fr h8 h10 blg := f9.trans f10 (by simp) (fun c _ hc => hc)
  have e10 := F10'.get e8 n2
  have st11 : stE 1 h10 (.pointer (some ⟨q, 3, none⟩)) gv' = some (h10.setIfInBounds q (.cells #[v, .bool tail, av', gv'] 31 (0, 0))) := by
    rw [stE_at _ e10]; simp [splice, og'.cells, og'.one]
  have e11 := get_set (o' := .cells #[v, .bool tail, av', gv'] 31 (0, 0)) e10
  have f11 : Fr h10 (h10.setIfInBounds q (.cells #[v, .bool tail, av', gv'] 31 (0, 0))) [q] := Fr.set _ _ _ (fun _ => by simp) (by rw [e10]; rfl)
  have F8s := F8.size
  have F3s := F3.size
  have f9s := f9.size
  have f1s := f1.size
  have qg' : q ∉ blg' := fun hm' => by rcases bl10 q hm' with h | h; exact n2 h; omega
  have og11 := og'.fr f11 (fun b hb hb' => by simp at hb'; subst hb'; exact qg' hb)
  have la3 : ∀ b ∈ bla', b < h3.size := oa3.lt
  have b8ge : h3.size ≤ b8 := by
    have s4 := f4.size
    have s5 := f5.size
    have s6 := f6.size
    have s7 := f7.size
    rcases hb8 with h | h
    · have h := Option.some.inj h
      rcases hb6 with h' | h'
      · have h' := Option.some.inj h'; omega
      · omega
    · omega
  have hdis : ∀ b ∈ bla', b ∉ blg := fun b hb hb' => by
    rcases bl2 b hb with h | h
    · exact n3 b h hb'
    · have := og.lt b hb'; omega
  have lt8 : ∀ b ∈ bla', b < h8.size := oa8.lt
  have oa11 := (oa8.fr F10' hdis).fr f11 (fun b hb hb' => by simp at hb'; subst hb'; exact qb' hb)
  have lr8 := r8.lt
  have r11 := (r8.fr F10' (fun hb => by have := og.lt _ hb; omega)).fr f11 (by simp; omega)
  simp only [st11, bnd_some]
  generalize h10.setIfInBounds q (.cells #[v, .bool tail, av', gv'] 31 (0, 0)) = h11 at *
  have F11 : Fr h h11 (q :: bla ++ blg) := (F8.trans F10' (S := q :: bla ++ blg) (fun c _ hc => by simp at hc ⊢; rcases hc with h | h <;> simp [h]) (fun c _ hc => by simp [hc])).trans f11 (fun _ _ h => h) (fun c _ hc => by simp at hc; simp [hc])
  have each11 : ∀ g ∈ gs, RowAt h11 62 3 g.b g.cap (ownL rows tail g.id) := fun g hg => ((each8 g hg).fr F10' (n4 g hg).2.2).fr f11 (by simp; exact (n4 g hg).1)
  have new : ShownAt h0 rows tail v q (gs ++ [⟨b8, c8, nd⟩]) bla' blg' h11 := by
    have hs0 : h0.size ≤ h.size := hb0
    refine ⟨H.base.news F11 fun c hc => (hlt c (by simp at hc ⊢; rcases hc with h | h | h <;> simp [h])).1, ⟨H.new.1, fun b hb => ?_, fun b hb => ?_, fun g hg => ?_⟩, ⟨av', gv', e11, ?_, ?_⟩, fun g hg => ?_, ⟨qb', qg', fun b hb hb' => ?_, fun g hg => ?_⟩⟩
    · rcases bl2 b hb with h | h
      · exact H.new.2.1 b h
      · omega
    · rcases bl10 b hb with h | h
      · exact H.new.2.2.1 b h
      · omega
    · rcases List.mem_append.1 hg with hg | hg
      · exact H.new.2.2.2 g hg
      · simp at hg; subst hg; simp only; omega
    · simpa [ints] using oa11
    · simpa [GRow.val] using og11
    · rcases List.mem_append.1 hg with hg | hg
      · exact each11 g hg
      · simp at hg; subst hg; exact r11
    · rcases bl10 b hb' with h | h
      · exact hdis b hb h
      · have := lt8 b hb; omega
    · rcases List.mem_append.1 hg with hg | hg
      · have lg := (H.each g hg).lt
        refine ⟨(n4 g hg).1, fun hb => ?_, fun hb => ?_⟩
        · rcases bl2 _ hb with h | h
          · exact (n4 g hg).2.1 h
          · omega
        · rcases bl10 _ hb with h | h
          · exact (n4 g hg).2.2 h
          · omega
      · simp at hg; subst hg
        refine ⟨by simp only; omega, fun hb => ?_, fun hb => ?_⟩
        · have := la3 b8 hb; omega
        · rcases bl10 _ hb with h | h
          · have := og.lt _ h; simp only at *; omega
          · simp only at *; omega
  have bla'' : ∀ b ∈ bla', b ∈ bla ∨ h.size ≤ b := fun b hb => (bl2 b hb).imp_right fun h => by omega
  have blg'' : ∀ b ∈ blg', b ∈ blg ∨ h.size ≤ b := fun b hb => (bl10 b hb).imp_right fun h => by omega
  have fin := fun u hu => hR h11 ⟨b8, c8, nd⟩ bla' blg' u rfl new F11 hb8' bla'' blg'' hu
  by_cases hc : (ofL rows tail nd).2 = 0
  · have lc := r11.len
    have hl2 : (ownL rows tail nd).length = (ofL rows tail nd).1.length + 2 := by simp [ownL]
    have sl := slice_to 3 b8 0 (ownL rows tail nd).length c8 .i64 ((ofL rows tail nd).1.map Arc.enc).length (by rw [List.length_map]; omega)
    have hd : decide (¬ (ofL rows tail nd).2 = 0) = false := by simp [hc]
    simp only [bin_neq, ne_eq, hd, bnd_some, condT_bool, Bool.false_eq_true, if_false, sl]
    refine fin _ ⟨_, c8, by simp, fun _ => ⟨b8, 0, rfl, by simp, ?_⟩⟩
    have := r11.seg.sub (l := 0) (m := (ofL rows tail nd).1.length) (by omega)
    simpa [ownL] using this
  · have hd : decide (¬ (ofL rows tail nd).2 = 0) = true := by simp [hc]
    have hnil : (ofL rows tail nd).1 = [] := by
      revert hc; unfold ofL; split
      · split
        · intro h; exact absurd rfl h
        · intro _; rfl
      · split <;> (intro h; exact absurd rfl h)
    simp only [bin_neq, ne_eq, hd, bnd_some, condT_bool, if_true]
    exact fin _ ⟨none, 0, by simp [hnil], fun h => absurd (by simp [hnil]) h⟩
end Go.Proofs.YtkiakofohkecaaaDoor
