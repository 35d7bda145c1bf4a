/- The program's run goes as the document's search. No condition but that the memory is as told. -/
import Derived.Test.YtkiakofohkecaaaDoorE18
namespace Go.Proofs.YtkiakofohkecaaaDoor
open Go Go.Fw

/-- The arcs that were looked at, in order. -/
def logF (S : Sr) (st : List Seen) : List (Seen × Arc) := st.flatMap fun s => if S.asks s.sum then (S.of s.id).1.map fun a => (s, a) else []
theorem logF_app (S : Sr) (st : List Seen) (s : Seen) : logF S (st ++ [s]) = logF S st ++ if S.asks s.sum then (S.of s.id).1.map fun a => (s, a) else [] := by simp [logF]
theorem popped_len (x : Item) (rest : List Item) : (popped ltOffer (x :: rest)).length = rest.length := by
  have := (pop_perm ltOffer x rest).length_eq
  simpa using this
theorem search_start (S : Sr) (start : Int) : restF S 4096 [] [⟨start, 0⟩] [] = searchF S start := by
  have hL : LeastTo [(⟨start, 0⟩ : Seen)] [(⟨start, 0⟩ : Seen)].length 0 := ⟨by simp, fun j hj => by
    obtain rfl : j = 0 := by simpa using hj
    simp [lessS]⟩
  have := leastI_eq (l := [(⟨start, 0⟩ : Seen)]) (by simp [ids]) hL
  have gen : ∀ n, restF S (n + 1) [] [⟨start, 0⟩] [] = settleF S (restF S n) ⟨start, 0⟩ [] [] [] := fun n => by
    simp only [restF, this]; rfl
  exact gen 4095

/-- The loop's state. -/
structure RunI (h0 hs : Hp) (S : Sr) (Sh : List Int → List Nat → Hp → Prop) (a0 : List Int) (B0 : List Nat) (p pm pn : Nat) (fv : Value) (start : Int) (h : Hp) (st nr : List Seen) (its : List Item) (M : List (Int × Mark)) (ck : Int) (bl bo : List Nat) (a : List Int) (B : List Nat) : Prop where
  sh : Sh (a0 ++ a) B h
  sr : SrAt h p pm pn fv S.hops M its ck bl (ids st) bo
  sim : Sim start S.hops st nr its M (logF S st)
  rest : restF S (4096 - st.length) st nr a = searchF S start
  n1 : st.length ≤ 4096
  n2 : a.length ≤ st.length
  n3 : its.length ≤ 1 + st.length * 1048577
  n4 : 0 ≤ ck ∧ ck ≤ 1 + st.length * 1048577
  dis : ∀ b ∈ SB p pm pn bl bo, h0.size ≤ b ∧ b ∉ B
  fr : Fr hs h (p :: pm :: pn :: B0)
  new : ∀ b ∈ bl ++ bo, hs.size ≤ b
  newB : ∀ b ∈ B, b ∈ B0 ∨ hs.size ≤ b
def RunInv (h0 hs : Hp) (S : Sr) (Sh : List Int → List Nat → Hp → Prop) (a0 : List Int) (B0 : List Nat) (p pm pn : Nat) (fv : Value) (start : Int) (_ : List Value) (h : Hp) : Prop :=
  ∃ st nr its M ck bl bo a B, RunI h0 hs S Sh a0 B0 p pm pn fv start h st nr its M ck bl bo a B
/-- What the run leaves. -/
structure RunEnd (h0 hs : Hp) (S : Sr) (Sh : List Int → List Nat → Hp → Prop) (a0 : List Int) (B0 : List Nat) (p pm pn : Nat) (fv : Value) (start : Int) (h : Hp) (B : List Nat) : Prop where
  sh : Sh (a0 ++ (searchF S start).asked) B h
  fr : Fr hs h (p :: pm :: pn :: B0)
  newB : ∀ b ∈ B, b ∈ B0 ∨ hs.size ≤ b
  good : (searchF S start).code = 0 → ∃ nr its M ck bl bo log, SrAt h p pm pn fv S.hops M its ck bl (ids (searchF S start).settled) bo ∧ Sim start S.hops (searchF S start).settled nr its M log ∧ (∀ b ∈ SB p pm pn bl bo, h0.size ≤ b ∧ b ∉ B) ∧ (∀ b ∈ bl ++ bo, hs.size ≤ b) ∧
    log = logF S (if (searchF S start).hit then (searchF S start).settled.dropLast else (searchF S start).settled) ∧ ((searchF S start).hit = false → nr = [])

theorem new_box2 (h : Hp) (a b : Int) : stE 2 (h.push (.cells #[.int .i64 0, .int .i64 0] 134 (0, 0))) (.pointer (some ⟨h.size, 0, none⟩)) (.agg #[.int .i64 a, .int .i64 b]) =
    some ((h.push (.cells #[.int .i64 0, .int .i64 0] 134 (0, 0))).setIfInBounds h.size (.cells #[.int .i64 a, .int .i64 b] 134 (0, 0))) := by
  rw [stE_at _ (get_new h _)]; simp [splice]

set_option maxHeartbeats 2000000 in
theorem run_round {h0 hs h3 : Hp} {S : Sr} {Sh : List Int → List Nat → Hp → Prop} {a0 : List Int} {B0 : List Nat} {p pm pn : Nat} {fv t2 t3 : Value} {start : Int} {st nr : List Seen} {its : List Item} {M : List (Int × Mark)} {ck : Int} {bl bo : List Nat} {a : List Int} {B : List Nat}
    (A : ArcsOk h0 fv S.of Sh) (I : RunI h0 hs S Sh a0 B0 p pm pn fv start h3 st nr its M ck bl bo a B) (ha : a0.length ≤ 1000000) {L : List (Nat × Obj)} (ov : FnOk L t2 S.over) (asx : FnOk L t3 S.asks) (hL : Has h3 L) (hLd : ∀ x ∈ L, x.1 ∉ SB p pm pn bl bo)
    {R : Value → Hp → Prop} (hR : ∀ h' B', RunEnd h0 hs S Sh a0 B0 p pm pn fv start h' B' → R (.tuple #[.bool (searchF S start).hit, .int .i64 (searchF S start).code]) h')
    {hj : Hp} {q10 q12 : Nat} {x : Item} {rest : List Item} {k : Mark} (hi : its = x :: rest) (hk : gget M x.tag = some k) (H : SrAt hj p pm pn fv S.hops M (popped ltOffer its) ck bl (ids st) bo) (f : Fr h3 hj (pn :: bl))
    (g10 : hj[q10]? = some (.cells #[.int .i64 x.key, .int .i64 x.tag] 134 (0, 0))) (g12 : hj[q12]? = some (.cells #[.int .i64 k.sum, .int .i64 k.from_, .int .i64 k.edge, .bool k.done] 93 (0, 0))) (h10 : h3.size ≤ q10) (h12 : h3.size ≤ q12) (hne : q10 ≠ q12) :
    f49.J1 (.pointer (some ⟨q12, 0, none⟩)) hj (.pointer (some ⟨q10, 0, none⟩)) (RunInv h0 hs S Sh a0 B0 p pm pn fv start) (muR p pn) h3 (.pointer (some ⟨p, 0, none⟩)) R t2 t3 := by
  have lt3 := I.sr.lt
  have ltB := A.lt I.sh
  have hpl : (popped ltOffer its).length + 1 = its.length := by rw [hi, popped_len]; rfl
  have mu3 : muR p pn [] h3 = (4097 - st.length) * 1048578 + its.length := by simp only [muR, I.sr.olen, I.sr.ilen, ids, List.length_map]
  have hSB : ∀ b ∈ pn :: bl, b ∈ SB p pm pn bl bo := fun b hb => by simp only [SB, List.mem_cons, List.mem_append] at hb ⊢; rcases hb with h | h <;> simp [h]
  have nq : ∀ q, h3.size ≤ q → q ∉ SB p pm pn bl bo := fun q hq hb => by have := lt3 q hb; omega
  -- what is so of all heaps that differ from h3 by the search's blocks alone
  have shk : ∀ h', Fr h3 h' (SB p pm pn bl bo) → Sh (a0 ++ a) B h' ∧ Fr hs h' (p :: pm :: pn :: B0) := fun h' f' => ⟨A.fr I.sh f' I.dis, I.fr.trans f' (fun _ _ h => h) fun c hc hm => by
    simp only [SB, List.mem_cons] at hm ⊢
    rcases hm with h | h | h | h
    · simp [h]
    · simp [h]
    · simp [h]
    · have := I.new c h; omega⟩
  have fj : Fr h3 hj (SB p pm pn bl bo) := f.mono fun c _ hc => hSB c hc
  have hn1 := I.n1
  have hn2 := I.n2
  have hn3 := I.n3
  have hn4 := I.n4
  have hst := I.rest
  refine run_J1 H g10 g12 (nq _ h10) (nq _ h12) hne (by simp [ids]; exact hn1) ov asx (hL.fr f fun y hy hb => hLd y hy (hSB _ hb)) (fun y hy => ⟨fun e => by have := lt_of_get (hL y hy); omega, hLd y hy⟩) ?_ ?_ ?_
  · -- a thing that is no longer so
    intro hs'
    have sim' := I.sim
    rw [hi] at sim'
    have sim' := sim'.stale hk hs'
    rw [← hi] at sim'
    obtain ⟨e1, e2⟩ := shk hj fj
    refine ⟨⟨st, nr, popped ltOffer its, M, ck, bl, bo, a, B, e1, H, sim', hst, hn1, hn2, by omega, hn4, I.dis, e2, I.new, I.newB⟩, ?_⟩
    rw [mu3]
    simp only [muR, H.olen, H.ilen, ids, List.length_map]
    omega
  · -- too many
    intro hd' hsum ho
    have sim' := I.sim
    rw [hi] at sim'
    obtain ⟨hnr, _⟩ := sim'.fresh hk hd' hsum
    have ho' : st.length = 4096 := by simpa [ids] using ho
    rw [ho'] at hst
    simp only [Nat.sub_self, restF, if_neg hnr] at hst
    obtain ⟨e1, e2⟩ := shk hj fj
    have := hR hj B ⟨by rw [← hst]; exact e1, e2, I.newB, fun hc => by rw [← hst] at hc; cases hc⟩
    rwa [← hst] at this
  · -- the node is settled
    intro hd' hsum ho h' bo' H' f' hbo'
    have sim' := I.sim
    rw [hi] at sim'
    obtain ⟨hnr, hsn, sim2, hat, hlow, hh⟩ := sim'.fresh hk hd' hsum
    rw [← hi] at sim2
    have ho' : st.length < 4096 := by simpa [ids] using ho
    obtain ⟨n, hn⟩ : ∃ n, 4096 - st.length = n + 1 := ⟨4095 - st.length, by omega⟩
    rw [hn] at hst
    simp only [restF, if_neg hnr, hsn] at hst
    have fjs := f.size
    have f3' : Fr h3 h' (SB p pm pn bl bo) := fj.trans f' (fun _ _ h => h) fun c hc hm => by
      simp only [SB, List.mem_cons, List.mem_append] at hm ⊢
      rcases hm with h | h | h | h
      · omega
      · simp [h]
      · simp [h]
      · simp [h]
    obtain ⟨e1, e2⟩ := shk h' f3'
    have hb2 : ∀ b ∈ bo', b ∈ bo ∨ h3.size ≤ b := fun b hb => (hbo' b hb).imp_right fun h => by omega
    have hs3 := I.fr.size
    have new' : ∀ b ∈ bl ++ bo', hs.size ≤ b := fun b hb => by
      rcases List.mem_append.1 hb with hb | hb
      · exact I.new b (by simp [hb])
      · rcases hb2 b hb with h | h
        · exact I.new b (by simp [h])
        · omega
    have dis' : ∀ b ∈ SB p pm pn bl bo', h0.size ≤ b ∧ b ∉ B := fun b hb => by
      have : b ∈ SB p pm pn bl bo ∨ h3.size ≤ b := by
        simp only [SB, List.mem_cons, List.mem_append] at hb ⊢
        rcases hb with h | h | h | h | h
        · simp [h]
        · simp [h]
        · simp [h]
        · simp [h]
        · rcases hb2 b h with h | h
          · simp [h]
          · exact .inr h
      rcases this with h | h
      · exact I.dis b h
      · exact ⟨by have := ltB.1; omega, fun hb => by have := (ltB.2 b hb).2; omega⟩
    have hids : ids (st ++ [⟨x.tag, x.key⟩]) = ids st ++ [x.tag] := by simp [ids]
    rw [← hids] at H'
    have hl1 : (st ++ [(⟨x.tag, x.key⟩ : Seen)]).length = st.length + 1 := by simp
    refine ⟨fun hov => ?_, fun hov has => ?_, fun hov has K hK => ?_⟩
    · have hfd : searchF S start = ⟨st ++ [⟨x.tag, x.key⟩], a, 0, true⟩ := by rw [← hst]; simp only [settleF, hov, if_true]
      have := hR h' B ⟨by rw [hfd]; exact e1, e2, I.newB, fun _ => ⟨_, _, _, ck, bl, bo', logF S st, by rw [hfd]; exact H', by rw [hfd]; exact sim2, dis', new', by rw [hfd]; simp, fun hf => by rw [hfd] at hf; cases hf⟩⟩
      rwa [hfd] at this
    · have hrest : restF S n (st ++ [⟨x.tag, x.key⟩]) (nr.eraseIdx (leastI nr)) a = searchF S start := by
        rw [← hst]; simp only [settleF, hov, has, Bool.false_eq_true, if_false]
      refine ⟨⟨st ++ [⟨x.tag, x.key⟩], nr.eraseIdx (leastI nr), popped ltOffer its, _, ck, bl, bo', a, B, e1, H', ?_, ?_, by omega, by omega, by omega, by omega, dis', e2, new', I.newB⟩, ?_⟩
      · rw [logF_app]; simpa [has] using sim2
      · rw [hl1, show 4096 - (st.length + 1) = n by omega]; exact hrest
      · rw [mu3]
        simp only [muR, H'.olen, H'.ilen, ids, List.length_map, hl1]
        omega
    · have hlt' := H'.lt
      refine look_spec A e1 (by simp; omega) H' dis' sim2 (at_ := ⟨x.tag, x.key⟩) (by simp) hat hlow (fun hop => hh hop) (by omega) (by omega) ⟨by omega, by omega⟩ ?_
      intro h'' B'' M'' its'' ck'' bl'' sh'' H'' f'' hB'' dis'' hbl'' hgood
      have f's := f3'.size
      have e2'' : Fr hs h'' (p :: pm :: pn :: B0) := e2.trans f'' (fun _ _ h => h) fun c hc hm => by
        simp only [List.mem_cons, List.mem_append] at hm ⊢
        rcases hm with h | h | h | h
        · simp [h]
        · simp [h]
        · have := I.new c (by simp [h]); omega
        · rcases I.newB c h with h | h
          · simp [h]
          · omega
      have newB'' : ∀ b ∈ B'', b ∈ B0 ∨ hs.size ≤ b := fun b hb => by
        rcases hB'' b hb with h | h
        · exact I.newB b h
        · exact .inr (by omega)
      obtain ⟨k1, k2⟩ := hK (lookC S (st ++ [⟨x.tag, x.key⟩]) ⟨x.tag, x.key⟩ (nr.eraseIdx (leastI nr))) h''
      by_cases hc : lookC S (st ++ [⟨x.tag, x.key⟩]) ⟨x.tag, x.key⟩ (nr.eraseIdx (leastI nr)) = 0
      · obtain ⟨sim3, hof, hl3, hc0, hc1⟩ := hgood hc
        have har : (arcsL S.hops (st ++ [⟨x.tag, x.key⟩]) x.key (S.of x.tag).1 (nr.eraseIdx (leastI nr))).1 = 0 := by simpa [lookC, hof] using hc
        have hrest : restF S n (st ++ [⟨x.tag, x.key⟩]) (arcsL S.hops (st ++ [⟨x.tag, x.key⟩]) x.key (S.of x.tag).1 (nr.eraseIdx (leastI nr))).2 (a ++ [x.tag]) = searchF S start := by
          rw [← hst]; simp only [settleF, hov, has, Bool.false_eq_true, if_false, if_true, hof, har, ne_eq, not_true_eq_false]
        refine k2 hc ⟨⟨st ++ [⟨x.tag, x.key⟩], (arcsL S.hops (st ++ [⟨x.tag, x.key⟩]) x.key (S.of x.tag).1 (nr.eraseIdx (leastI nr))).2, its'', M'', ck'', bl'', bo', a ++ [x.tag], B'', by rw [← List.append_assoc]; exact sh'', H'', ?_, ?_, by omega, by simp; omega, by omega, by omega, dis'', e2'', fun b hb => ?_, newB''⟩, ?_⟩
        · rw [logF_app]; simpa [has] using sim3
        · rw [hl1, show 4096 - (st.length + 1) = n by omega]; exact hrest
        · rcases List.mem_append.1 hb with hb | hb
          · rcases hbl'' b hb with h | h
            · exact new' b (by simp [h])
            · omega
          · exact new' b (by simp [hb])
        · rw [mu3]
          simp only [muR, H''.olen, H''.ilen, ids, List.length_map, hl1]
          omega
      · have hfd : searchF S start = ⟨st ++ [⟨x.tag, x.key⟩], a ++ [x.tag], lookC S (st ++ [⟨x.tag, x.key⟩]) ⟨x.tag, x.key⟩ (nr.eraseIdx (leastI nr)), false⟩ := by
          rw [← hst]
          simp only [settleF, hov, has, Bool.false_eq_true, if_false, if_true]
          by_cases hof : (S.of x.tag).2 = 0
          · have har : ¬ (arcsL S.hops (st ++ [⟨x.tag, x.key⟩]) x.key (S.of x.tag).1 (nr.eraseIdx (leastI nr))).1 = 0 := by simpa [lookC, hof] using hc
            simp [hof, har, lookC]
          · simp [hof, lookC]
        refine k1 hc ?_
        have := hR h'' B'' ⟨by rw [hfd, ← List.append_assoc]; exact sh'', e2'', newB'', fun h0' => by rw [hfd] at h0'; exact absurd h0' hc⟩
        rwa [hfd] at this
end Go.Proofs.YtkiakofohkecaaaDoor
