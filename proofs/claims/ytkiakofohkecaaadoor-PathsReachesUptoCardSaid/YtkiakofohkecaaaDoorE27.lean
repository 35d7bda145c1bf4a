/- The law PathsHops: the program's Hops is the document's, and asks the same. No condition but that the rows are read in memory as told. -/
import Derived.Test.YtkiakofohkecaaaDoorE26
namespace Go.Proofs.YtkiakofohkecaaaDoor
open Go Go.Fw

theorem fill_shown {v : Value} (hv : v.oneCell' = true) (b : Bool) : (fillS [(0, 2), (2, 1), (3, 1)] #[(.slice none 0 0), (.bool false), (.slice none 0 0), (.slice none 0 0)] [(0, .agg #[v, .bool b])]).map Value.agg = some (.agg #[v, .bool b, .slice none 0 0, .slice none 0 0]) := by
  simp [fillS, Instr.fill]

/-- A new Shown. -/
theorem shown_new {h0 h : Hp} {rows : List NRow} {tail : Bool} {v : Value} (f : Fr h0 h []) :
    ShownS h0 rows tail v h.size [] [h.size] (h.push (.cells #[v, .bool tail, .slice none 0 0, .slice none 0 0] 31 (0, 0))) :=
  ⟨[], [], [], rfl, rfl, ⟨f.new _, ⟨f.size, by simp, by simp, by simp⟩, ⟨_, _, get_new h _, .nil _ _ _, .nil _ _ _⟩, by simp, ⟨by simp, by simp, by simp, by simp⟩⟩⟩

theorem asks_len {S : Sr} {start : Int} : (searchF S start).asked.length ≤ 4096 := by
  have h1 : ∀ (n : Nat) (st nr : List Seen) (a : List Int), (restF S n st nr a).asked.length ≤ a.length + n := by
    intro n
    induction n with
    | zero => intro st nr a; unfold restF; split <;> simp
    | succ n ih =>
      intro st nr a
      have h2 : ∀ st' nr', (restF S n st' nr' a).asked.length ≤ a.length + (n + 1) := fun st' nr' => by have := ih st' nr' a; omega
      have h3 : ∀ st' nr' x, (restF S n st' nr' (a ++ [x])).asked.length ≤ a.length + (n + 1) := fun st' nr' x => by have := ih st' nr' (a ++ [x]); simp at this; omega
      unfold restF
      split
      · simp
      · unfold settleF
        split
        · simp
        · split
          · split
            · simp
            · split
              · simp
              · exact h3 _ _ _
          · exact h2 _ _
  rw [← search_start]
  simpa using h1 4096 [] [⟨start, 0⟩] []

set_option maxHeartbeats 1000000 in
theorem law4 {h : Hp} {rows : List NRow} {tail : Bool} {v : Value} {Em : Nat} {fm : Nat × Nat} (net : NetOk h v rows) (hm : h[2]? = some (.cells #[.int .i64 (-71), .int .i64 (-72), .int .i64 (-73)] Em fm)) (start to : Int) :
    CallsH Tryd.prog 4 #[.agg #[v, .bool tail], .int .i64 start, .int .i64 to] h fun r h' => r = .bool true ∧ Fr h h' [] := by
  have hv := RowV.one net.rows
  refine f4.ok ?_
  unfold f4.T
  simp only [nw_eq, cells_agg, ptr0_eq]
  have f1 := Fr.push h (.cells #[v, .bool tail] 26 (0, 0)) []
  have g1 := get_new h (.cells #[v, .bool tail] 26 (0, 0))
  generalize h.push (.cells #[v, .bool tail] 26 (0, 0)) = h1 at *
  have l1 : ∀ h', Fr h1 h' [] → ldA 2 h' (.pointer (some ⟨h.size, 0, none⟩)) = some (.agg #[v, .bool tail]) := fun h' f => by rw [ldA_at (f.get g1 (by simp))]; simp
  simp only [l1 h1 (Fr.refl _ _), bnd_some, fill_shown hv, cells_agg]
  have sh := shown_new (rows := rows) (tail := tail) (v := v) f1
  have f2 := Fr.push h1 (.cells #[v, .bool tail, .slice none 0 0, .slice none 0 0] 31 (0, 0)) []
  generalize h1.push (.cells #[v, .bool tail, .slice none 0 0, .slice none 0 0] 31 (0, 0)) = h2 at *
  refine hops_spec (shown_ok net hm) sh (by simp) start to fun h3 B' sh3 f3 hB' => ?_
  have hal := asks_len (S := srHops (ofL rows tail) to) (start := start)
  obtain ⟨gs, bla, blg, ea, eB, H3⟩ := sh3
  have hq : ∀ c ∈ [h1.size], c < h1.size → False := fun c hc => by simp at hc; omega
  have F13 : Fr h1 h3 [] := f2.trans f3 (by simp) (fun c hc hm => by simp at hm; omega)
  simp only [hopsV, extE_tuple, List.getElem?_toArray, List.getElem?_cons_succ, List.getElem?_cons_zero, bnd_some, l1 h3 F13]
  refine rhops_spec (net.fr (f1.then F13)) start to fun h4 av ba oa f4 nb => ?_
  have H4 := H3.fr f4 (by simp)
  simp only [List.nil_append] at ea
  simp only [extE_tuple, List.getElem?_toArray, List.getElem?_cons_succ, List.getElem?_cons_zero, bnd_some, bin_eql, decide_true, isB_bool, beq_self_eq_true, cond_true, binB, asB_bool, Option.map_some, guardT_true]
  refine whole_spec net hm H4 (by rw [← ea]; exact oa.rowv) (by have := congrArg List.length ea; simp at this; omega) fun h5 f5 => ?_
  simp only [asB_bool, Option.map_some, cond_true, bnd_some]
  exact ⟨by trivial, ((f1.then F13).then f4).then f5⟩
end Go.Proofs.YtkiakofohkecaaaDoor
