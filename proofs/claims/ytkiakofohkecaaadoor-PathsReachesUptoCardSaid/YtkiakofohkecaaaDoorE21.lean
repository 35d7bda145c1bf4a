/- The program's Hops and Reach, against the document's search as a function. No condition but that the memory is as told. -/
import Derived.Test.YtkiakofohkecaaaDoorE20
namespace Go.Proofs.YtkiakofohkecaaaDoor
open Go Go.Fw

theorem settle_hit (S : Sr) (k : List Seen → List Seen → List Int → Fd) (hk : ∀ st nr a, (k st nr a).hit = true → (k st nr a).code = 0 ∧ ∃ st' s, (k st nr a).settled = st' ++ [s] ∧ S.over s.id = true) (at_ : Seen) (st nr : List Seen) (a : List Int) :
    (settleF S k at_ st nr a).hit = true → (settleF S k at_ st nr a).code = 0 ∧ ∃ st' s, (settleF S k at_ st nr a).settled = st' ++ [s] ∧ S.over s.id = true := by
  unfold settleF
  split
  · rename_i h
    exact fun _ => ⟨rfl, st, at_, rfl, h⟩
  · split
    · split
      · intro h; simp at h
      · split
        · intro h; simp at h
        · exact hk _ _ _
    · exact hk _ _ _
theorem rest_hit (S : Sr) : ∀ n st nr a, (restF S n st nr a).hit = true → (restF S n st nr a).code = 0 ∧ ∃ st' s, (restF S n st nr a).settled = st' ++ [s] ∧ S.over s.id = true
  | 0, st, nr, a => by
    unfold restF
    split <;> (intro h; simp at h)
  | n + 1, st, nr, a => by
    unfold restF
    split
    · intro h; simp at h
    · exact settle_hit S _ (rest_hit S n) _ _ _ _
theorem search_hit (S : Sr) (start : Int) (h : (searchF S start).hit = true) : (searchF S start).code = 0 ∧ ∃ st s, (searchF S start).settled = st ++ [s] ∧ S.over s.id = true := settle_hit S _ (rest_hit S 4095) _ _ _ _ h

def lastSum (f : Fd) : Int := ((f.settled.getLast?).map (·.sum)).getD 0
def srHops (of : Int → List Arc × Int) (to : Int) : Sr := ⟨of, fun id => decide (id = to), fun _ => true, true⟩
def srLeast (of : Int → List Arc × Int) (to : Int) : Sr := ⟨of, fun id => decide (id = to), fun _ => true, false⟩
def srReach (of : Int → List Arc × Int) (most : Int) : Sr := ⟨of, fun _ => false, fun s => decide (s < most), true⟩
/-- What Hops tells. -/
noncomputable def hopsV (f : Fd) : Value := .tuple #[.int .i64 (if f.hit then lastSum f else 0), .bool f.hit, .int .i64 f.code]

section
variable {h0 h : Hp} {of : Int → List Arc × Int} {Sh : List Int → List Nat → Hp → Prop} {a0 : List Int} {B0 : List Nat} {fv : Value}
theorem hops_spec (A : ArcsOk h0 fv of Sh) (hs : Sh a0 B0 h) (ha : a0.length ≤ 1000000) (start to : Int) {R : Value → Hp → Prop}
    (hR : ∀ h' B', Sh (a0 ++ (searchF (srHops of to) start).asked) B' h' → Fr h h' B0 → (∀ b ∈ B', b ∈ B0 ∨ h.size ≤ b) → R (hopsV (searchF (srHops of to) start)) h') : CallsH Tryd.prog 18 #[fv, .int .i64 start, .int .i64 to] h R := by
  have ltB := A.lt hs
  refine f18.ok ?_
  unfold f18.T
  simp only [nw_eq, cells_int, ptr0_eq, A.nil, bnd_some, condT_bool, Bool.false_eq_true, if_false]
  have f1 := Fr.push h (.cells #[.int .i64 to] 2 (0, 0)) []
  have g1 := get_new h (.cells #[.int .i64 to] 2 (0, 0))
  have z1 : (h.push (.cells #[.int .i64 to] 2 (0, 0))).size = h.size + 1 := by simp
  generalize h.push (.cells #[.int .i64 to] 2 (0, 0)) = h1 at *
  refine news_spec A.cells true fun h2 p pm pn H2 f2 hn => ?_
  have F2 : Fr h h2 [] := f1.then f2
  have hs2 := A.fr hs F2 (by simp)
  have g2 := f2.get g1 (by simp)
  have f2s := f2.size
  refine run_spec (S := srHops of to) (L := [(h.size, .cells #[.int .i64 to] 2 (0, 0))]) A hs2 H2 (fun b hb => ?_) ha over_to always_ok (by simpa [Has] using g2) ?_ fun h3 B' RE => ?_
  · have := hn b hb
    exact ⟨by have := ltB.1; omega, fun hb' => by have := (ltB.2 b hb').2; omega⟩
  · intro x hx hb
    obtain rfl := List.mem_singleton.1 hx
    have h1 := hn p (by simp [SB])
    have h2 := hn pm (by simp [SB])
    have h3 := hn pn (by simp [SB])
    simp only [List.mem_cons] at hb
    rcases hb with h | h | h | h
    · omega
    · omega
    · omega
    · have := (ltB.2 _ h).2; omega
  · have F3 : Fr h h3 B0 := F2.trans RE.fr (by simp) fun c hc hm => by
      have h1 := hn p (by simp [SB])
      have h2 := hn pm (by simp [SB])
      have h3 := hn pn (by simp [SB])
      simp only [List.mem_cons] at hm
      rcases hm with h | h | h | h
      · omega
      · omega
      · omega
      · exact h
    have hB' : ∀ b ∈ B', b ∈ B0 ∨ h.size ≤ b := fun b hb => (RE.newB b hb).imp_right fun h => by omega
    have fin := hR h3 B' RE.sh F3 hB'
    have F23 := RE.fr
    generalize hfd : searchF (srHops of to) start = fd at *
    simp only [extE_tuple, List.getElem?_toArray, List.getElem?_cons_succ, List.getElem?_cons_zero, bnd_some, bin_neq]
    cases hh : fd.hit
    · have hv : hopsV fd = .tuple #[.int .i64 0, .bool false, .int .i64 fd.code] := by simp [hopsV, hh]
      rw [hv] at fin
      by_cases hc : fd.code = 0
      · simpa [hc] using fin
      · simpa [hc, isB_undef] using fin
    · obtain ⟨hc, st, s, hst, hov⟩ := search_hit (srHops of to) start (by rw [hfd]; exact hh)
      rw [hfd] at hc hst
      have good := RE.good
      rw [hfd] at good
      obtain ⟨nr, its, M, ck, bl, bo, log, SR, sim, _, _, _⟩ := good hc
      obtain ⟨ov, e, o⟩ := SR.top
      have hid : s.id = to := by simpa [srHops] using hov
      obtain ⟨fr, ed, hg⟩ := sim.fin s (by rw [hst]; simp)
      rw [hid] at hg
      have g3 : h3[h.size]? = some (.cells #[.int .i64 to] 2 (0, 0)) := F23.get g2 (by
        have h1 := hn p (by simp [SB])
        have h2 := hn pm (by simp [SB])
        have h3 := hn pn (by simp [SB])
        simp only [List.mem_cons, not_or]
        exact ⟨by omega, by omega, by omega, fun hb => by have := (ltB.2 _ hb).2; omega⟩)
      have hv : hopsV fd = .tuple #[.int .i64 s.sum, .bool true, .int .i64 0] := by simp [hopsV, hh, hc, lastSum, hst]
      rw [hv] at fin
      have hd : decide (fd.code ≠ 0) = false := by simp [hc]
      simp only [hd, isB_bool, beq_self_eq_true, cond_true, unE_not, Bool.not_true, asB_bool, Option.map_some, cond_false, bnd_some, condT_bool, Bool.false_eq_true, if_false, nilE_ptr, fldE_ptr, Nat.zero_add, ldS_at e, ldS_at g3, List.getElem?_toArray, List.getElem?_cons_succ, List.getElem?_cons_zero]
      refine SR.look (ok := false) ?_
      simpa [hg, Mark.val] using fin

theorem reach_none (A : ArcsOk h0 fv of Sh) (start : Int) {most : Int} (hm : most < 0) {R : Value → Hp → Prop} (hR : ∀ h', Fr h h' [] → R (.tuple #[.slice none 0 0, .int .i64 1]) h') : CallsH Tryd.prog 22 #[fv, .int .i64 start, .int .i64 most] h R := by
  refine f22.ok ?_
  unfold f22.T
  have f1 := Fr.push h (.cells #[.int .i64 most] 3 (0, 0)) []
  have g1 := get_new h (.cells #[.int .i64 most] 3 (0, 0))
  simp only [nw_eq, cells_int, ptr0_eq, A.nil, bnd_some]
  generalize h.push (.cells #[.int .i64 most] 3 (0, 0)) = h1 at *
  simpa [ldS_at g1, hm] using hR h1 f1

/-- Reach: the order is the search's own list. -/
theorem reach_spec (A : ArcsOk h0 fv of Sh) (hs : Sh a0 B0 h) (ha : a0.length ≤ 1000000) (start : Int) {most : Int} (hm : 0 ≤ most) {R : Value → Hp → Prop}
    (hR : ∀ h' B' v bv, Sh (a0 ++ (searchF (srReach of most) start).asked) B' h' → Fr h h' B0 → (∀ b ∈ B', b ∈ B0 ∨ h.size ≤ b) → OwnS h' 2 1 v (if (searchF (srReach of most) start).code = 0 then ints (ids (searchF (srReach of most) start).settled) else []) bv → (∀ b ∈ bv, h.size ≤ b ∧ b ∉ B') →
      R (.tuple #[v, .int .i64 (searchF (srReach of most) start).code]) h') : CallsH Tryd.prog 22 #[fv, .int .i64 start, .int .i64 most] h R := by
  have ltB := A.lt hs
  refine f22.ok ?_
  unfold f22.T
  have f1 := Fr.push h (.cells #[.int .i64 most] 3 (0, 0)) []
  have g1 := get_new h (.cells #[.int .i64 most] 3 (0, 0))
  have z1 : (h.push (.cells #[.int .i64 most] 3 (0, 0))).size = h.size + 1 := by simp
  simp only [nw_eq, cells_int, ptr0_eq, A.nil, bnd_some]
  generalize h.push (.cells #[.int .i64 most] 3 (0, 0)) = h1 at *
  have hm' : decide (most < 0) = false := by simp; omega
  simp only [isB_bool, beq_self_eq_true, cond_true, ldS_at g1, List.getElem?_toArray, List.getElem?_cons_zero, bnd_some, bin_lss, hm', asB_bool, Option.map_some, cond_false, condT_bool, Bool.false_eq_true, if_false]
  refine news_spec A.cells true fun h2 p pm pn H2 f2 hn => ?_
  have F2 : Fr h h2 [] := f1.then f2
  have hs2 := A.fr hs F2 (by simp)
  have g2 := f2.get g1 (by simp)
  have f2s := f2.size
  refine run_spec (S := srReach of most) (L := [(h.size, .cells #[.int .i64 most] 3 (0, 0))]) A hs2 H2 (fun b hb => ?_) ha never_ok asks_most (by simpa [Has] using g2) ?_ fun h3 B' RE => ?_
  · have := hn b hb
    exact ⟨by have := ltB.1; omega, fun hb' => by have := (ltB.2 b hb').2; omega⟩
  · intro x hx hb
    obtain rfl := List.mem_singleton.1 hx
    have h1 := hn p (by simp [SB])
    have h2 := hn pm (by simp [SB])
    have h3 := hn pn (by simp [SB])
    simp only [List.mem_cons] at hb
    rcases hb with h | h | h | h
    · omega
    · omega
    · omega
    · have := (ltB.2 _ h).2; omega
  · have F3 : Fr h h3 B0 := F2.trans RE.fr (by simp) fun c hc hm => by
      have h1 := hn p (by simp [SB])
      have h2 := hn pm (by simp [SB])
      have h3 := hn pn (by simp [SB])
      simp only [List.mem_cons] at hm
      rcases hm with h | h | h | h
      · omega
      · omega
      · omega
      · exact h
    have hB' : ∀ b ∈ B', b ∈ B0 ∨ h.size ≤ b := fun b hb => (RE.newB b hb).imp_right fun h => by omega
    have fin := fun v bv => hR h3 B' v bv RE.sh F3 hB'
    have good := RE.good
    generalize hfd : searchF (srReach of most) start = fd at *
    simp only [extE_tuple, List.getElem?_toArray, List.getElem?_cons_succ, List.getElem?_cons_zero, bnd_some, bin_neq, condT_bool]
    by_cases hc : fd.code = 0
    · have hd : decide (fd.code ≠ 0) = false := by simp [hc]
      obtain ⟨nr, its, M, ck, bl, bo, log, SR, sim, dis, new, _⟩ := good hc
      obtain ⟨ov, e, o⟩ := SR.top
      simp only [hd, Bool.false_eq_true, if_false, nilE_ptr, bnd_some, fldE_ptr, Nat.zero_add, ldS_at e, List.getElem?_toArray, List.getElem?_cons_succ, List.getElem?_cons_zero]
      have := fin ov bo (by simpa [hc] using o) fun b hb => ⟨by have := new b (by simp [hb]); omega, (dis b (by simp [SB, hb])).2⟩
      rwa [hc] at this
    · have hd : decide (fd.code ≠ 0) = true := by simp [hc]
      simp only [hd, if_true]
      exact fin _ [] (by simpa [hc] using OwnS.nil h3 2 1) (by simp)
end
end Go.Proofs.YtkiakofohkecaaaDoor
