/- The law PathsReaches: the program's Reach is the document's, asks the same, and its lists are each its own. No condition but that the rows are read in memory as told. -/
import Derived.Test.YtkiakofohkecaaaDoorE31
import Derived.Test.YtkiakofohkecaaaDoorE27
namespace Go.Proofs.YtkiakofohkecaaaDoor
open Go Go.Fw

noncomputable def rCode (of : Int → List Arc × Int) (most start : Int) : Int := if most < 0 then 1 else (searchF (srReach of most) start).code
noncomputable def rIds (of : Int → List Arc × Int) (most start : Int) : List Int := if most < 0 then [] else if (searchF (srReach of most) start).code = 0 then ids (searchF (srReach of most) start).settled else []
noncomputable def rAsked (of : Int → List Arc × Int) (most start : Int) : List Int := if most < 0 then [] else (searchF (srReach of most) start).asked
theorem rIds_len (of : Int → List Arc × Int) (most start : Int) : (rIds of most start).length ≤ 4096 := by
  unfold rIds
  split
  · simp
  · split
    · have := search_len (srReach of most) start; simpa [ids] using this
    · simp
theorem rAsked_len (of : Int → List Arc × Int) (most start : Int) : (rAsked of most start).length ≤ 4096 := by
  unfold rAsked
  split
  · simp
  · exact asks_len

theorem reach_all {h0 h : Hp} {of : Int → List Arc × Int} {Sh : List Int → List Nat → Hp → Prop} {a0 : List Int} {B0 : List Nat} {fv : Value} (A : ArcsOk h0 fv of Sh) (hs : Sh a0 B0 h) (ha : a0.length ≤ 1000000) (start most : Int) {R : Value → Hp → Prop}
    (hR : ∀ h' B' v bv, Sh (a0 ++ rAsked of most start) B' h' → Fr h h' B0 → (∀ b ∈ B', b ∈ B0 ∨ h.size ≤ b) → OwnS h' 2 1 v (ints (rIds of most start)) bv → (∀ b ∈ bv, h.size ≤ b ∧ b ∉ B') → R (.tuple #[v, .int .i64 (rCode of most start)]) h') : CallsH Tryd.prog 22 #[fv, .int .i64 start, .int .i64 most] h R := by
  by_cases hm : most < 0
  · refine reach_none A start hm fun h' f => ?_
    have := hR h' B0 (.slice none 0 0) [] (by simpa [rAsked, hm] using A.fr hs f (by simp)) (f.mono (by simp)) (fun b hb => .inl hb) (by simpa [rIds, hm, ints] using OwnS.nil h' 2 1) (by simp)
    simpa [rCode, hm] using this
  · refine reach_spec A hs ha start (by omega) fun h' B' v bv h1 h2 h3 h4 h5 => ?_
    have := hR h' B' v bv (by simpa [rAsked, hm] using h1) h2 h3 (by simp only [rIds, hm, if_false]; split at h4 <;> simp_all [ints]) h5
    simpa [rCode, hm] using this
theorem rreach_all {h : Hp} {v : Value} {rows : List NRow} {tail : Bool} (net : NetOk h v rows) (start most : Int) {R : Value → Hp → Prop}
    (hR : ∀ h' ov av bv ba, OwnS h' 2 1 ov (ints (rIds (ofL rows tail) most start)) bv → OwnS h' 2 1 av (ints (rAsked (ofL rows tail) most start)) ba → Fr h h' [] → (∀ b ∈ bv, h.size ≤ b) → (∀ b ∈ ba, h.size ≤ b) → R (.tuple #[ov, .int .i64 (rCode (ofL rows tail) most start), av]) h') :
    CallsH Tryd.prog 23 #[.agg #[v, .bool tail], .int .i64 start, .int .i64 most] h R := by
  by_cases hm : most < 0
  · refine rreach_none start hm fun h' f => ?_
    have := hR h' (.slice none 0 0) (.slice none 0 0) [] [] (by simpa [rIds, hm, ints] using OwnS.nil h' 2 1) (by simpa [rAsked, hm, ints] using OwnS.nil h' 2 1) f (by simp) (by simp)
    simpa [rCode, hm] using this
  · refine rreach_spec net start (by omega) fun h' ov av bv ba h1 h2 h3 h4 h5 => ?_
    have := hR h' ov av bv ba (by simp only [rIds, hm, if_false]; split at h1 <;> simp_all [ints]) (by simpa [rAsked, hm] using h2) h3 h4 h5
    simpa [rCode, hm] using this

theorem fill_three {a b c : Value} (ha : a.cells = #[a]) (hb : b.cells = #[b]) (hc : c.cells = #[c]) : fillR 1 #[(.slice none 0 0), (.slice none 0 0), (.slice none 0 0)] [(0, a), (1, b), (2, c)] = some #[a, b, c] := by
  simp [fillR, Instr.fill, ha, hb, hc]
theorem seg_three {h : Hp} {b E : Nat} {x y z : Value} (e : h[b]? = some (.cells #[x, y, z] E (0, 0))) : Seg h 1 b 0 [[x], [y], [z]] := by
  refine ⟨_, _, _, e, by simp, by simp, fun a j u hi hj => ?_⟩
  have ha := (List.getElem?_eq_some_iff.1 hi).1
  simp at ha
  obtain rfl : j = 0 := by omega
  obtain rfl | rfl | rfl : a = 0 ∨ a = 1 ∨ a = 2 := by omega
  all_goals
    simp at hi
    subst hi
    simp

set_option maxHeartbeats 2000000 in
theorem law5 {h : Hp} {rows : List NRow} {tail : Bool} {v : Value} {Em : Nat} {fm : Nat × Nat} (net : NetOk h v rows) (hm : h[2]? = some (.cells #[.int .i64 (-71), .int .i64 (-72), .int .i64 (-73)] Em fm)) (start most : Int) :
    CallsH Tryd.prog 5 #[.agg #[v, .bool tail], .int .i64 start, .int .i64 most] h fun r h' => r = .bool true ∧ Fr h h' [] := by
  have hv := RowV.one net.rows
  refine f5.ok ?_
  unfold f5.T
  simp only [nw_eq, cells_agg, ptr0_eq]
  have f1 := Fr.push h (.cells #[v, .bool tail] 26 (0, 0)) []
  have g1 := get_new h (.cells #[v, .bool tail] 26 (0, 0))
  generalize h.push (.cells #[v, .bool tail] 26 (0, 0)) = h1 at *
  have l1 : ∀ h', Fr h1 h' [] → ldA 2 h' (.pointer (some ⟨h.size, 0, none⟩)) = some (.agg #[v, .bool tail]) := fun h' f => by rw [ldA_at (f.get g1 (by simp))]; simp
  simp only [l1 h1 (Fr.refl _ _), bnd_some, fill_shown hv, cells_agg]
  have sh := shown_new (rows := rows) (tail := tail) (v := v) f1
  have f2 := Fr.push h1 (.cells #[v, .bool tail, .slice none 0 0, .slice none 0 0] 31 (0, 0)) []
  generalize h1.push (.cells #[v, .bool tail, .slice none 0 0, .slice none 0 0] 31 (0, 0)) = h2 at *
  have AK := fun q => shown_ok (tail := tail) (q := q) net hm
  have f1s := f1.size
  have f2s := f2.size
  refine reach_all (AK _) sh (by simp) start most fun h3 B3 wv bw sh3 f3 hB3 ow nw => ?_
  have F13 : Fr h1 h3 [] := f2.trans f3 (by simp) (fun c hc hm => by simp at hm; omega)
  have f3s := f3.size
  simp only [extE_tuple, List.getElem?_toArray, List.getElem?_cons_succ, List.getElem?_cons_zero, bnd_some, l1 h3 F13]
  refine rreach_all (net.fr (f1.then F13)) start most fun h4 rv av br ba orv oav f4 nr na => ?_
  have ow4 := ow.fr f4 (by simp)
  have sh4 := (AK _).fr sh3 f4 (by simp)
  have hln := rIds_len (ofL rows tail) most start
  simp only [extE_tuple, List.getElem?_toArray, List.getElem?_cons_succ, List.getElem?_cons_zero, bnd_some]
  refine ids_spec ow4.rowv orv.rowv (by omega) ?_
  obtain ⟨gs, bla, blg, ea, eB, H4⟩ := sh4
  simp only [List.nil_append] at ea
  simp only [decide_true, unE_not, Bool.not_true, bnd_some, isB_bool, beq_self_eq_true, cond_true, cond_false, bin_neq, ne_eq, not_true_eq_false, decide_false, asB_bool, Option.map_some, guardT_true]
  have hal := rAsked_len (ofL rows tail) most start
  refine whole_spec net hm H4 (by rw [← ea]; exact oav.rowv) (by have := congrArg List.length ea; simp at this; omega) fun h5 f5 => ?_
  simp only [unE_not, Bool.not_true, bnd_some, asB_bool, Option.map_some, cond_false, condT_bool, Bool.false_eq_true, if_false]
  have F15 : Fr h1 h5 [] := (F13.then f4).then f5
  simp only [l1 h5 F15, bnd_some, fill_shown hv, nw_eq, cells_agg, ptr0_eq]
  have ow5 := ow4.fr f5 (by simp)
  have or5 := orv.fr f5 (by simp)
  have sh6 := shown_new (rows := rows) (tail := tail) (v := v) (f1.then F15)
  have f6 := Fr.push h5 (.cells #[v, .bool tail, .slice none 0 0, .slice none 0 0] 31 (0, 0)) []
  generalize h5.push (.cells #[v, .bool tail, .slice none 0 0, .slice none 0 0] 31 (0, 0)) = h6 at *
  have ow6 := ow5.fr f6 (by simp)
  have or6 := or5.fr f6 (by simp)
  have lw := ow5.lt
  have lr := or5.lt
  have f6s := f6.size
  refine reach_all (AK _) sh6 (by simp) start 0 fun h7 B7 xv bx sh7 f7 hB7 ox nx => ?_
  have ow7 := ow6.fr f7 fun b hb hb' => by simp at hb'; have := lw b hb; omega
  have or7 := or6.fr f7 fun b hb hb' => by simp at hb'; have := lr b hb; omega
  have f7s := f7.size
  have hB7' : ∀ b ∈ B7, h5.size ≤ b := fun b hb => by rcases hB7 b hb with h | h; simp at h; omega; omega
  simp only [extE_tuple, List.getElem?_toArray, List.getElem?_cons_succ, List.getElem?_cons_zero, bnd_some]
  have hal0 := rAsked_len (ofL rows tail) 0 start
  refine reach_all (AK _) sh7 (by simp; omega) start most fun h8 B8 yv by_ sh8 f8 hB8 oy ny => ?_
  have ow8 := ow7.fr f8 fun b hb hb' => by have := hB7' b hb'; have := lw b hb; omega
  have or8 := or7.fr f8 fun b hb hb' => by have := hB7' b hb'; have := lr b hb; omega
  have ox8 := ox.fr f8 fun b hb hb' => (nx b hb).2 hb'
  have f8s := f8.size
  simp only [extE_tuple, List.getElem?_toArray, List.getElem?_cons_succ, List.getElem?_cons_zero, bnd_some]
  refine ids_spec oy.rowv or8.rowv (by omega) ?_
  simp only [decide_true, isB_bool, beq_self_eq_true, cond_true, guardT_true]
  refine ids_spec ow8.rowv or8.rowv (by omega) ?_
  simp only [decide_true, asB_bool, Option.map_some, cond_true, bnd_some, isB_bool, beq_self_eq_true, guardT_true, fill_three ow8.cells ox8.cells oy.cells, nw_eq]
  have f9 := Fr.push h8 (.cells #[wv, xv, yv] 28 (0, 0)) []
  have g9 := get_new h8 (.cells #[wv, xv, yv] 28 (0, 0))
  generalize h8.push (.cells #[wv, xv, yv] 28 (0, 0)) = h9 at *
  have ow9 := ow8.fr f9 (by simp)
  have ox9 := ox8.fr f9 (by simp)
  have oy9 := oy.fr f9 (by simp)
  have lw8 := ow8.lt
  have lx8 := ox8.lt
  have lx7 := ox.lt
  have ly8 := oy.lt
  have hln0 := rIds_len (ofL rows tail) 0 start
  have hAp : Apart h9 h8.size [⟨wv, rIds (ofL rows tail) most start, bw⟩, ⟨xv, rIds (ofL rows tail) 0 start, bx⟩, ⟨yv, rIds (ofL rows tail) most start, by_⟩] := by
    refine ⟨seg_three g9, ?_, ?_, by simp, ?_⟩
    · intro hb
      simp only [allB, List.flatMap_cons, List.flatMap_nil, List.append_nil, List.mem_append] at hb
      rcases hb with hb | hb | hb
      · have := lw8 _ hb; omega
      · have := lx8 _ hb; omega
      · have := ly8 _ hb; omega
    · intro i j it jt hi hj hne b hb hb'
      have d1 : ∀ b ∈ bw, b ∉ bx := fun b h1 h2 => by have := lw b h1; have := (nx b h2).1; omega
      have d2 : ∀ b ∈ bw, b ∉ by_ := fun b h1 h2 => by have := lw b h1; have := (ny b h2).1; omega
      have d3 : ∀ b ∈ bx, b ∉ by_ := fun b h1 h2 => by have := lx7 b h1; have := (ny b h2).1; omega
      have hi3 := (List.getElem?_eq_some_iff.1 hi).1
      have hj3 := (List.getElem?_eq_some_iff.1 hj).1
      simp at hi3 hj3
      obtain rfl | rfl | rfl : i = 0 ∨ i = 1 ∨ i = 2 := by omega
      all_goals obtain rfl | rfl | rfl : j = 0 ∨ j = 1 ∨ j = 2 := by omega
      all_goals first | exact hne rfl | skip
      all_goals
        simp at hi hj
        subst hi hj
      · exact d1 b hb hb'
      · exact d2 b hb hb'
      · exact d1 b hb' hb
      · exact d3 b hb hb'
      · exact d2 b hb' hb
      · exact d3 b hb' hb
    · intro it hit
      simp at hit
      rcases hit with rfl | rfl | rfl <;> simp only <;> omega
  have hHe : Held h9 [⟨wv, rIds (ofL rows tail) most start, bw⟩, ⟨xv, rIds (ofL rows tail) 0 start, bx⟩, ⟨yv, rIds (ofL rows tail) most start, by_⟩] fun _ it => it.xs := by
    intro j it hj
    have hj3 := (List.getElem?_eq_some_iff.1 hj).1
    simp at hj3
    obtain rfl | rfl | rfl : j = 0 ∨ j = 1 ∨ j = 2 := by omega
    all_goals
      simp at hj
      subst hj
    · exact ow9
    · exact ox9
    · exact oy9
  refine apart_spec (cap := 3) hAp hHe fun h10 f10 => ?_
  simp only [asB_bool, Option.map_some, cond_true, bnd_some]
  refine ⟨by trivial, ?_⟩
  have F16 : Fr h h6 [] := (f1.then F15).then f6
  have h5s : h.size ≤ h5.size := (f1.then F15).size
  have F7 : Fr h h7 [] := F16.trans f7 (by simp) fun c hc hm => by simp at hm; omega
  have F8 : Fr h h8 [] := F7.trans f8 (by simp) fun c hc hm => by have := hB7' c hm; omega
  refine (F8.then f9).trans f10 (by simp) fun c hc hm => ?_
  simp only [allB, List.flatMap_cons, List.flatMap_nil, List.append_nil, List.mem_append] at hm
  rcases hm with hm | hm | hm
  · have := (nw c hm).1; omega
  · have := (nx c hm).1; omega
  · have := (ny c hm).1; omega
end Go.Proofs.YtkiakofohkecaaaDoor
