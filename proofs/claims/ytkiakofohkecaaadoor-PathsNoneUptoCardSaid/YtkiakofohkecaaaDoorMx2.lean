/- The plain law of the search, its ends: what is settled, with which sums; when there is no error. No program is in sight. No condition but those each theorem states. -/
import Derived.Test.YtkiakofohkecaaaDoorMe
import Derived.Test.YtkiakofohkecaaaDoorMx1
import Derived.Test.YtkiakofohkecaaaDoorMb
namespace Go.Proofs.YtkiakofohkecaaaDoor
open Go Go.Fw

/-- A way from the start, and what it adds up to. -/
inductive Walk (of : Int → List Arc × Int) (hops : Bool) (start : Int) : Int → Int → Prop
  | nil : Walk of hops start start 0
  | step {u k : Int} {a : Arc} : Walk of hops start u k → a ∈ (of u).1 → Walk of hops start a.to (k + wt hops a)

section
variable {start : Int} {hops : Bool}

theorem Sim.next {st nr : List Seen} {M : List (Int × Mark)} {log : List (Seen × Arc)} (hnr : nr ≠ []) : ∀ (n : Nat) {its : List Item}, its.length = n → Sim start hops st nr its M log → ∃ its' M', Sim start hops (st ++ [snth nr (leastI nr)]) (nr.eraseIdx (leastI nr)) its' M' log ∧ snth nr (leastI nr) ∈ nr ∧
    (∀ s ∈ st ++ [snth nr (leastI nr)], s.sum ≤ (snth nr (leastI nr)).sum) ∧ (∀ t ∈ nr.eraseIdx (leastI nr), (snth nr (leastI nr)).sum ≤ t.sum) ∧ (hops = true → (snth nr (leastI nr)).sum + 1 ≤ (st ++ [snth nr (leastI nr)]).length)
  | 0, its, hn, H => by
    obtain rfl := List.length_eq_zero_iff.1 hn
    exact absurd H.empty hnr
  | n + 1, x :: rest, hn, H => by
    obtain ⟨k, hk⟩ := H.mark x (by simp)
    by_cases hs : k.done = true ∨ k.sum ≠ x.key
    · exact Sim.next hnr n (by rw [popped_len]; simpa using hn) (H.stale hk hs)
    · have hd : k.done = false := by cases h : k.done; rfl; exact absurd (.inl h) hs
      have he : k.sum = x.key := Classical.byContradiction fun h => hs (.inr h)
      obtain ⟨_, e, h1, h2, h3, h4⟩ := H.fresh hk hd he
      obtain ⟨s, hm, hi, hsum⟩ := H.only _ _ hk
      rw [hd] at hm
      rw [e]
      exact ⟨_, _, h1, by simpa [Seen.ext' (a := s) (b := ⟨x.tag, x.key⟩) hi (by rw [hsum, he])] using hm, h2, h3, h4⟩

theorem Sim.arcs {st : List Seen} {at_ : Seen} (hm : at_ ∈ st) (hat : ∀ s ∈ st, s.sum ≤ at_.sum) (hh : hops = true → at_.sum + 1 ≤ st.length) : ∀ (l : List Arc) {nr : List Seen} {its : List Item} {M : List (Int × Mark)} {log : List (Seen × Arc)}, Sim start hops st nr its M log → (∀ t ∈ nr, at_.sum ≤ t.sum) → (arcsL hops st at_.sum l nr).1 = 0 →
    ∃ its' M', Sim start hops st (arcsL hops st at_.sum l nr).2 its' M' (log ++ l.map fun a => (at_, a)) ∧ ∀ t ∈ (arcsL hops st at_.sum l nr).2, at_.sum ≤ t.sum
  | [], nr, its, M, log, H, hnr, _ => ⟨its, M, by simpa [arcsL] using H, by simpa [arcsL] using hnr⟩
  | a :: l, nr, its, M, log, H, hnr, hc => by
    by_cases h0 : wt hops a < 0
    · simp [arcsL, h0] at hc
    · by_cases hf : 1099511627776 - at_.sum < wt hops a
      · simp [arcsL, h0, hf] at hc
      · simp only [arcsL, if_neg h0, if_neg hf] at hc ⊢
        have hl : log ++ (a :: l).map (fun a => (at_, a)) = (log ++ [(at_, a)]) ++ l.map (fun a => (at_, a)) := by simp
        rw [hl]
        by_cases hk : ∃ k, gget M a.to = some k ∧ k.sum ≤ at_.sum + wt hops a
        · obtain ⟨k, hk, hle⟩ := hk
          obtain ⟨H', e⟩ := H.skip hm hk hle
          rw [e] at hc ⊢
          exact Sim.arcs hm hat hh l H' hnr hc
        · obtain ⟨H', hlow⟩ := H.take hm hat hnr hh (by omega) (by omega) (fun k hk' => Classical.byContradiction fun h => hk ⟨k, hk', by omega⟩) 0
          exact Sim.arcs hm hat hh l H' hlow hc
end

theorem arcs_mem {hops : Bool} {st : List Seen} {sum : Int} {P : Seen → Prop} : ∀ (l : List Arc) {nr : List Seen}, (∀ s ∈ nr, P s) → (∀ a ∈ l, 0 ≤ wt hops a → P ⟨a.to, sum + wt hops a⟩) → ∀ s ∈ (arcsL hops st sum l nr).2, P s
  | [], nr, h, _ => by simpa [arcsL] using h
  | a :: l, nr, h, ha => by
    unfold arcsL
    split
    · exact h
    · rename_i h0
      split
      · exact h
      · refine arcs_mem l ?_ fun a hm => ha a (by simp [hm])
        split
        · exact h
        · intro s hs
          rcases sight_mem hs with hs | rfl
          · exact h s hs
          · exact ha a (by simp) (by omega)
theorem arcs_code {hops : Bool} {st : List Seen} {sum : Int} : ∀ (l : List Arc) {nr : List Seen}, (∀ a ∈ l, 0 ≤ wt hops a ∧ wt hops a ≤ 1099511627776 - sum) → (arcsL hops st sum l nr).1 = 0
  | [], nr, _ => rfl
  | a :: l, nr, h => by
    have := h a (by simp)
    simp only [arcsL, if_neg (show ¬ wt hops a < 0 by omega), if_neg (show ¬ 1099511627776 - sum < wt hops a by omega)]
    exact arcs_code l fun a hm => h a (by simp [hm])

/-- What is left at the end. -/
def endL (f : Fd) : List Seen := if f.hit then f.settled.dropLast else f.settled
def Fin (S : Sr) (start : Int) (f : Fd) : Prop :=
  f.code = 0 → ∃ nr its M, Sim start S.hops f.settled nr its M (logF S (endL f)) ∧ (f.hit = false → nr = []) ∧ (∀ s ∈ endL f, S.over s.id = false) ∧ (∀ s ∈ f.settled, Walk S.of S.hops start s.id s.sum) ∧ (f.hit = true → ∃ s, f.settled = endL f ++ [s] ∧ S.over s.id = true)

theorem rest_fin (S : Sr) (start : Int) : ∀ (n : Nat) (st nr : List Seen) (its : List Item) (M : List (Int × Mark)) (a : List Int), Sim start S.hops st nr its M (logF S st) → (∀ s ∈ st, S.over s.id = false) → (∀ s ∈ st ++ nr, Walk S.of S.hops start s.id s.sum) → Fin S start (restF S n st nr a)
  | 0, st, nr, its, M, a, H, ho, hw => by
    unfold restF
    split
    · rename_i h
      exact fun _ => ⟨nr, its, M, by simpa [endL] using H, fun _ => h, by simpa [endL] using ho, fun s hs => hw s (by simp [hs]), fun h => by cases h⟩
    · intro h; cases h
  | n + 1, st, nr, its, M, a, H, ho, hw => by
    unfold restF
    split
    · rename_i h
      exact fun _ => ⟨nr, its, M, by simpa [endL] using H, fun _ => h, by simpa [endL] using ho, fun s hs => hw s (by simp [hs]), fun h => by cases h⟩
    · rename_i hnr
      obtain ⟨its', M', H', hmem, hat, hlow, hh⟩ := Sim.next hnr _ rfl H
      generalize snth nr (leastI nr) = at_ at *
      have hwa : Walk S.of S.hops start at_.id at_.sum := hw at_ (by simp [hmem])
      have hw1 : ∀ s ∈ st ++ [at_], Walk S.of S.hops start s.id s.sum := fun s hs => by
        rcases List.mem_append.1 hs with hs | hs
        · exact hw s (by simp [hs])
        · simp at hs; subst hs; exact hwa
      have hwe : ∀ s ∈ nr.eraseIdx (leastI nr), Walk S.of S.hops start s.id s.sum := fun s hs => hw s (by simp [List.mem_of_mem_eraseIdx hs])
      unfold settleF
      split
      · rename_i hov
        exact fun _ => ⟨_, its', M', by simpa [endL] using H', fun h => (by cases h), by simpa [endL] using ho, hw1, fun _ => ⟨at_, by simp [endL], hov⟩⟩
      · rename_i hov
        have hov : S.over at_.id = false := by simpa using hov
        have ho1 : ∀ s ∈ st ++ [at_], S.over s.id = false := fun s hs => by
          rcases List.mem_append.1 hs with hs | hs
          · exact ho s hs
          · simp at hs; subst hs; exact hov
        split
        · rename_i has
          split
          · rename_i hc; intro h; exact absurd h hc
          · split
            · rename_i hc; intro h; exact absurd h hc
            · rename_i hc
              have hc : (arcsL S.hops (st ++ [at_]) at_.sum (S.of at_.id).1 (nr.eraseIdx (leastI nr))).1 = 0 := Classical.byContradiction fun h => hc h
              obtain ⟨its'', M'', H'', _⟩ := Sim.arcs (at_ := at_) (by simp) hat hh _ H' hlow hc
              refine rest_fin S start n _ _ its'' M'' _ (by rw [logF_app]; simpa [has] using H'') ho1 fun s hs => ?_
              rcases List.mem_append.1 hs with hs | hs
              · exact hw1 s hs
              · exact arcs_mem (P := fun s => Walk S.of S.hops start s.id s.sum) _ hwe (fun a ha _ => .step hwa ha) s hs
        · rename_i has
          have has : S.asks at_.sum = false := by simpa using has
          refine rest_fin S start n _ _ its' M' _ (by rw [logF_app]; simpa [has] using H') ho1 fun s hs => ?_
          rcases List.mem_append.1 hs with hs | hs
          · exact hw1 s hs
          · exact hwe s hs
theorem search_fin (S : Sr) (start : Int) : Fin S start (searchF S start) := by
  rw [← search_start]
  refine rest_fin S start 4096 [] [⟨start, 0⟩] _ _ [] (Sim.start start S.hops) (by simp) fun s hs => ?_
  simp at hs; subst hs
  exact .nil

/-! ## when there is no error -/
theorem sub_len : ∀ {l E : List Int}, l.Nodup → (∀ x ∈ l, x ∈ E) → l.length ≤ E.length
  | [], _, _, _ => by simp
  | x :: l, E, hd, h => by
    have hd := List.nodup_cons.1 hd
    have hx := h x (by simp)
    have := sub_len (l := l) (E := E.erase x) hd.2 fun y hy => (List.mem_erase_of_ne (fun e : y = x => hd.1 (by rw [← e]; exact hy))).2 (h y (by simp [hy]))
    have h1 := List.length_erase_of_mem hx
    have h2 := List.length_pos_of_mem hx
    simp only [List.length_cons]
    omega
theorem rest_code (S : Sr) (start : Int) (E : List Int) (hE : E.length ≤ 4096) (h1 : ∀ id, (S.of id).2 = 0) (h2 : ∀ id, ∀ a ∈ (S.of id).1, 0 ≤ wt S.hops a ∧ wt S.hops a ≤ 1048576 ∧ a.to ∈ E) : ∀ (n : Nat) (st nr : List Seen) (its : List Item) (M : List (Int × Mark)) (a : List Int), n + st.length = 4096 → Sim start S.hops st nr its M (logF S st) →
    (∀ s ∈ st ++ nr, s.id ∈ E ∧ s.sum ≤ st.length * 1048576) → (restF S n st nr a).code = 0
  | 0, st, nr, its, M, a, hn, H, he => by
    unfold restF
    split
    · rfl
    · rename_i hnr
      have h1 : (ids (st ++ nr)).length ≤ E.length := sub_len H.dist fun x hx => by
        obtain ⟨s, hs, rfl⟩ := List.mem_map.1 hx
        exact (he s hs).1
      have h2 := List.length_pos_iff.2 hnr
      simp [ids] at h1
      omega
  | n + 1, st, nr, its, M, a, hn, H, he => by
    unfold restF
    split
    · rfl
    · rename_i hnr
      obtain ⟨its', M', H', hmem, hat, hlow, hh⟩ := Sim.next hnr _ rfl H
      generalize snth nr (leastI nr) = at_ at *
      have hb := he at_ (by simp [hmem])
      have hl1 : (st ++ [at_]).length = st.length + 1 := by simp
      have he1 : ∀ s ∈ st ++ [at_], s.id ∈ E ∧ s.sum ≤ ((st ++ [at_]).length : Int) * 1048576 := fun s hs => by
        have : s ∈ st ++ nr := by
          rcases List.mem_append.1 hs with hs | hs
          · simp [hs]
          · simp at hs; subst hs; simp [hmem]
        have := he s this
        exact ⟨this.1, by rw [hl1]; omega⟩
      have hee : ∀ s ∈ nr.eraseIdx (leastI nr), s.id ∈ E ∧ s.sum ≤ ((st ++ [at_]).length : Int) * 1048576 := fun s hs => by
        have := he s (by simp [List.mem_of_mem_eraseIdx hs])
        exact ⟨this.1, by rw [hl1]; omega⟩
      unfold settleF
      split
      · rfl
      · split
        · rename_i has
          split
          · rename_i hc; exact absurd (h1 _) hc
          · have hc : (arcsL S.hops (st ++ [at_]) at_.sum (S.of at_.id).1 (nr.eraseIdx (leastI nr))).1 = 0 := arcs_code _ fun a ha => by
              have := h2 at_.id a ha
              exact ⟨this.1, by omega⟩
            split
            · rename_i hc'; exact absurd hc hc'
            · obtain ⟨its'', M'', H'', _⟩ := Sim.arcs (at_ := at_) (by simp) hat hh _ H' hlow hc
              refine rest_code S start E hE h1 h2 n _ _ its'' M'' _ (by rw [hl1]; omega) (by rw [logF_app]; simpa [has] using H'') fun s hs => ?_
              rcases List.mem_append.1 hs with hs | hs
              · exact he1 s hs
              · refine arcs_mem (P := fun s => s.id ∈ E ∧ s.sum ≤ ((st ++ [at_]).length : Int) * 1048576) _ hee (fun a ha _ => ⟨(h2 _ a ha).2.2, ?_⟩) s hs
                have := (h2 _ a ha).2.1
                rw [hl1]
                simp only
                omega
        · rename_i has
          have has : S.asks at_.sum = false := by simpa using has
          refine rest_code S start E hE h1 h2 n _ _ its' M' _ (by rw [hl1]; omega) (by rw [logF_app]; simpa [has] using H') fun s hs => ?_
          rcases List.mem_append.1 hs with hs | hs
          · exact he1 s hs
          · exact hee s hs
theorem search_code (S : Sr) (start : Int) (E : List Int) (hE : E.length ≤ 4096) (hs : start ∈ E) (h1 : ∀ id, (S.of id).2 = 0) (h2 : ∀ id, ∀ a ∈ (S.of id).1, 0 ≤ wt S.hops a ∧ wt S.hops a ≤ 1048576 ∧ a.to ∈ E) : (searchF S start).code = 0 := by
  rw [← search_start]
  exact rest_code S start E hE h1 h2 4096 [] [⟨start, 0⟩] _ _ [] rfl (Sim.start start S.hops) fun s hs' => by simp at hs'; subst hs'; exact ⟨hs, by simp⟩
end Go.Proofs.YtkiakofohkecaaaDoor

/- The plain law of Hops and Reach: what Hops tells is the least number of arcs; Reach's nodes are just those that so many arcs reach, in order. No program is in sight. No condition but those each theorem states. -/
namespace Go.Proofs.YtkiakofohkecaaaDoor
open Go Go.Fw

theorem mem_logF {S : Sr} {st : List Seen} {p : Seen × Arc} : p ∈ logF S st ↔ p.1 ∈ st ∧ S.asks p.1.sum = true ∧ p.2 ∈ (S.of p.1.id).1 := by
  simp only [logF, List.mem_flatMap]
  constructor
  · rintro ⟨s, hs, hp⟩
    split at hp
    · rename_i h
      obtain ⟨a, ha, rfl⟩ := List.mem_map.1 hp
      exact ⟨hs, h, ha⟩
    · simp at hp
  · rintro ⟨h1, h2, h3⟩
    exact ⟨p.1, h1, by rw [if_pos h2]; exact List.mem_map.2 ⟨p.2, h3, rfl⟩⟩

/-- A search that asks all and came to its aim: nothing reaches the aim with less; all that lies nearer is settled. -/
theorem fin_hit {S : Sr} {start : Int} (hw : ∀ id, ∀ a ∈ (S.of id).1, 0 ≤ wt S.hops a) (hall : ∀ s, S.asks s = true) (hh : (searchF S start).hit = true) :
    ∃ s, (searchF S start).settled = endL (searchF S start) ++ [s] ∧ S.over s.id = true ∧ Walk S.of S.hops start s.id s.sum ∧ (∀ t ∈ endL (searchF S start), S.over t.id = false) ∧
      ∀ id k, Walk S.of S.hops start id k → (∃ t ∈ endL (searchF S start), t.id = id ∧ t.sum ≤ k) ∨ s.sum ≤ k := by
  have hc := (search_hit S start hh).1
  obtain ⟨nr, its, M, H, _, ho, hwk, hs⟩ := search_fin S start hc
  obtain ⟨s, e, hov⟩ := hs hh
  refine ⟨s, e, hov, hwk s (by rw [e]; simp), ho, fun id k hk => ?_⟩
  have sorted : ∀ t ∈ nr, s.sum ≤ t.sum := fun t ht => H.low s (by rw [e]; simp) t ht
  induction hk with
  | nil =>
    obtain ⟨d, hz⟩ := H.zero
    obtain ⟨t, ht, hi, hsum⟩ := H.only _ _ hz
    simp only at hsum
    cases d
    · have ht : t ∈ nr := by simpa using ht
      exact .inr (by have := sorted t ht; omega)
    · have ht : t ∈ (searchF S start).settled := by simpa using ht
      rw [e] at ht
      rcases List.mem_append.1 ht with ht | ht
      · exact .inl ⟨t, ht, hi, by omega⟩
      · simp at ht; subst ht; exact .inr (by omega)
  | step hu ha ih =>
    rename_i u k a
    have hwa := hw u a ha
    rcases ih with ⟨t, ht, hi, hsum⟩ | h
    · obtain ⟨m, hg, hle⟩ := H.logs (t, a) (mem_logF.2 ⟨ht, hall _, by rw [hi]; exact ha⟩)
      obtain ⟨r, hr, hri, hrs⟩ := H.only _ _ hg
      simp only at hle
      cases hd : m.done
      · rw [hd] at hr
        have hr : r ∈ nr := by simpa using hr
        have := sorted r hr
        exact .inr (by omega)
      · rw [hd] at hr
        have hr : r ∈ (searchF S start).settled := by simpa using hr
        rw [e] at hr
        rcases List.mem_append.1 hr with hr | hr
        · exact .inl ⟨r, hr, hri, by omega⟩
        · simp at hr; subst hr; exact .inr (by omega)
    · exact .inr (by omega)

/-- A search that asks all and did not come to its aim: all that can be reached is settled. -/
theorem fin_not {S : Sr} {start : Int} (hall : ∀ s, S.asks s = true) (hh : (searchF S start).hit = false) (hc : (searchF S start).code = 0) :
    (∀ t ∈ (searchF S start).settled, S.over t.id = false) ∧ ∀ id k, Walk S.of S.hops start id k → ∃ t ∈ (searchF S start).settled, t.id = id ∧ t.sum ≤ k := by
  obtain ⟨nr, its, M, H, hn, ho, hwk, _⟩ := search_fin S start hc
  have he : endL (searchF S start) = (searchF S start).settled := by simp [endL, hh]
  rw [he] at H ho
  refine ⟨ho, fun id k hk => ?_⟩
  have hn := hn hh
  subst hn
  have hset : ∀ id m, gget M id = some m → ∃ t ∈ (searchF S start).settled, t.id = id ∧ t.sum = m.sum := fun id m hg => by
    obtain ⟨r, hr, h⟩ := H.only _ _ hg
    cases hd : m.done <;> rw [hd] at hr
    · simp at hr
    · exact ⟨r, by simpa using hr, h⟩
  induction hk with
  | nil =>
    obtain ⟨d, hz⟩ := H.zero
    obtain ⟨t, ht, hi, hsum⟩ := hset _ _ hz
    exact ⟨t, ht, hi, by simp only at hsum; omega⟩
  | step hu ha ih =>
    rename_i u k a
    obtain ⟨t, ht, hi, hsum⟩ := ih
    obtain ⟨m, hg, hle⟩ := H.logs (t, a) (mem_logF.2 ⟨ht, hall _, by rw [hi]; exact ha⟩)
    obtain ⟨r, hr, hri, hrs⟩ := hset _ _ hg
    simp only at hle
    exact ⟨r, hr, hri, by omega⟩

/-! ## Hops -/
section
variable {of : Int → List Arc × Int} {start to : Int}
/-- The least number of arcs from the start, if there is a way. -/
def Least1 (of : Int → List Arc × Int) (hops : Bool) (start id k : Int) : Prop := Walk of hops start id k ∧ ∀ k', Walk of hops start id k' → k ≤ k'
theorem hops_yes (hh : (searchF (srHops of to) start).hit = true) : Least1 of true start to (lastSum (searchF (srHops of to) start)) := by
  obtain ⟨s, e, hov, hw, ho, hmin⟩ := fin_hit (S := srHops of to) (start := start) (fun id a _ => by simp [wt, srHops]) (fun _ => rfl) hh
  have hid : s.id = to := by simpa [srHops] using hov
  have hl : lastSum (searchF (srHops of to) start) = s.sum := by simp [lastSum, e]
  rw [hl]
  refine ⟨by rw [← hid]; exact hw, fun k' hk' => ?_⟩
  rcases hmin to k' hk' with ⟨t, ht, hi, _⟩ | h
  · have := ho t ht
    simp [srHops, hi] at this
  · exact h
theorem hops_no (hc : (searchF (srHops of to) start).code = 0) (hh : (searchF (srHops of to) start).hit = false) : ∀ k, ¬ Walk of true start to k := fun k hk => by
  obtain ⟨ho, hr⟩ := fin_not (S := srHops of to) (start := start) (fun _ => rfl) hh hc
  obtain ⟨t, ht, hi, _⟩ := hr to k hk
  have := ho t ht
  simp [srHops, hi] at this

/-! ## Reach -/
theorem never_hit (S : Sr) (h : ∀ id, S.over id = false) (start : Int) : (searchF S start).hit = false := by
  cases hh : (searchF S start).hit with
  | false => rfl
  | true =>
    obtain ⟨_, st, s, _, hov⟩ := search_hit S start hh
    rw [h] at hov; cases hov
theorem reach_sim {most : Int} (hm : 0 ≤ most) (hc : (searchF (srReach of most) start).code = 0) :
    (ids (searchF (srReach of most) start).settled).Nodup ∧ (∀ s ∈ (searchF (srReach of most) start).settled, Walk of true start s.id s.sum ∧ s.sum ≤ most) ∧ ∀ id k, Walk of true start id k → k ≤ most → ∃ s ∈ (searchF (srReach of most) start).settled, s.id = id ∧ s.sum ≤ k := by
  have hh := never_hit (srReach of most) (fun _ => rfl) start
  obtain ⟨nr, its, M, H, hn, ho, hwk, _⟩ := search_fin (srReach of most) start hc
  have he : endL (searchF (srReach of most) start) = (searchF (srReach of most) start).settled := by simp [endL, hh]
  rw [he] at H
  have hn := hn hh
  subst hn
  have hset : ∀ id m, gget M id = some m → ∃ t ∈ (searchF (srReach of most) start).settled, t.id = id ∧ t.sum = m.sum := fun id m hg => by
    obtain ⟨r, hr, h⟩ := H.only _ _ hg
    cases hd : m.done <;> rw [hd] at hr
    · simp at hr
    · exact ⟨r, by simpa using hr, h⟩
  refine ⟨by simpa using H.dist, fun s hs => ⟨hwk s hs, ?_⟩, fun id k hk => ?_⟩
  · obtain ⟨f, ed, hg⟩ := H.fin s hs
    by_cases e : s.id = start
    · obtain ⟨d, hz⟩ := H.zero
      rw [e, hz] at hg
      have := Option.some.inj hg
      simp only [Mark.mk.injEq] at this
      omega
    · obtain ⟨p, hp, _, _⟩ := H.via _ _ hg e
      have hm2 := mem_logF.1 (List.mem_of_find?_eq_some hp)
      have hp2 := List.find?_some hp
      have h1 : p.1.sum < most := by simpa [srReach] using hm2.2.1
      simp [wt, srReach] at hp2
      omega
  · have key : ∀ id k, Walk of true start id k → 0 ≤ k ∧ (k ≤ most → ∃ s ∈ (searchF (srReach of most) start).settled, s.id = id ∧ s.sum ≤ k) := by
      intro id k hk
      induction hk with
      | nil =>
        refine ⟨by omega, fun _ => ?_⟩
        obtain ⟨d, hz⟩ := H.zero
        obtain ⟨t, ht, hi, hsum⟩ := hset _ _ hz
        exact ⟨t, ht, hi, by simp only at hsum; omega⟩
      | step hu ha ih =>
        rename_i u k a
        have h1 : wt true a = 1 := by simp [wt]
        refine ⟨by omega, fun hkm => ?_⟩
        obtain ⟨t, ht, hi, hsum⟩ := ih.2 (by omega)
        obtain ⟨m, hg, hle⟩ := H.logs (t, a) (mem_logF.2 ⟨ht, by simp [srReach]; omega, by rw [hi]; exact ha⟩)
        obtain ⟨r, hr, hri, hrs⟩ := hset _ _ hg
        simp only [srReach] at hle
        exact ⟨r, hr, hri, by omega⟩
    exact (key id k hk).2

theorem sight_lt {st : List Seen} {P : Seen → Prop} {nr : List Seen} {id sum : Int} (h : ∀ s ∈ nr, P s) (h2 : P ⟨id, sum⟩) : ∀ s ∈ sightL nr id sum, P s := fun s hs => by
  rcases sight_mem hs with hs | rfl
  · exact h s hs
  · exact h2
/-- Nearer ones first, of equally near ones the lesser id. -/
theorem rest_sorted (S : Sr) (hop : S.hops = true) : ∀ (n : Nat) (st nr : List Seen) (a : List Int), st.Pairwise (fun s t => lessS s t = true) → (∀ s ∈ st, ∀ t ∈ nr, lessS s t = true) → (ids nr).Nodup → (restF S n st nr a).settled.Pairwise fun s t => lessS s t = true
  | 0, st, nr, a, hp, _, _ => by
    unfold restF
    split <;> exact hp
  | n + 1, st, nr, a, hp, hn, hd => by
    unfold restF
    split
    · exact hp
    · rename_i hnr
      have hpos := List.length_pos_iff.2 hnr
      have hex : ∀ m, 0 < m → ∃ k, LeastTo nr m k := by
        intro m hm
        induction m with
        | zero => omega
        | succ m ih =>
          by_cases h0 : m = 0
          · subst h0
            exact ⟨0, by omega, fun j hj => by obtain rfl : j = 0 := by omega
                                               simp [lessS]⟩
          · obtain ⟨k, hk, hmin⟩ := ih (by omega)
            by_cases hl : lessS (snth nr m) (snth nr k) = true
            · refine ⟨m, by omega, fun j hj => ?_⟩
              by_cases e : j = m
              · subst e; simp [lessS]
              · have := hmin j (by omega)
                simp [lessS] at hl this ⊢
                omega
            · refine ⟨k, by omega, fun j hj => ?_⟩
              by_cases e : j = m
              · subst e; simpa using hl
              · exact hmin j (by omega)
      obtain ⟨k, hk⟩ := hex nr.length hpos
      have hL := leastI_eq hd hk
      have hkl := hk.1
      have hm : snth nr (leastI nr) ∈ nr := by rw [hL]; exact snth_mem hkl
      have hle : ∀ t ∈ nr.eraseIdx (leastI nr), lessS (snth nr (leastI nr)) t = true := fun t ht => by
        rw [hL] at ht ⊢
        obtain ⟨j, hj, hjk, rfl⟩ := List.mem_eraseIdx_iff_getElem.1 ht
        have h1 := hk.2 j hj
        rw [snth_get hj, snth_get hkl] at h1
        have h2 : nr[j].id ≠ nr[k].id := fun e => hjk (ids_at hd hj hkl e)
        rw [snth_get hkl]
        simp [lessS] at h1 ⊢
        omega
      generalize snth nr (leastI nr) = at_ at *
      have hp1 : (st ++ [at_]).Pairwise fun s t => lessS s t = true := by
        rw [List.pairwise_append]
        exact ⟨hp, by simp, fun s hs t ht => by simp at ht; subst ht; exact hn s hs _ hm⟩
      have hn1 : ∀ s ∈ st ++ [at_], ∀ t ∈ nr.eraseIdx (leastI nr), lessS s t = true := fun s hs t ht => by
        rcases List.mem_append.1 hs with hs | hs
        · exact hn s hs t (List.mem_of_mem_eraseIdx ht)
        · simp at hs; subst hs; exact hle t ht
      have hd1 : (ids (nr.eraseIdx (leastI nr))).Nodup := hd.sublist ((List.eraseIdx_sublist _ _).map _)
      unfold settleF
      split
      · exact hp1
      · split
        · split
          · exact hp1
          · split
            · exact hp1
            · have hs1 : ∀ s ∈ st ++ [at_], s.sum ≤ at_.sum := fun s hs => by
                rcases List.mem_append.1 hs with hs | hs
                · have := hn s hs _ hm; simp [lessS] at this; omega
                · simp at hs; subst hs; exact Int.le_refl _
              have hnd : ∀ (l : List Arc) (nr : List Seen), (ids nr).Nodup → (ids (arcsL S.hops (st ++ [at_]) at_.sum l nr).2).Nodup := by
                intro l
                induction l with
                | nil => intro nr h; exact h
                | cons a l ih =>
                  intro nr h
                  unfold arcsL
                  split
                  · exact h
                  · split
                    · exact h
                    · refine ih _ ?_
                      split
                      · exact h
                      · exact sight_nodup h _ _
              refine rest_sorted S hop n _ _ _ hp1 (fun s hs => ?_) (hnd _ _ hd1)
              refine arcs_mem (P := fun t => lessS s t = true) _ (hn1 s hs) fun a _ _ => ?_
              have := hs1 s hs
              simp [lessS, wt, hop]
              omega
        · exact rest_sorted S hop n _ _ _ hp1 hn1 hd1
theorem reach_sorted {most : Int} : (searchF (srReach of most) start).settled.Pairwise fun s t => lessS s t = true := by
  rw [← search_start]
  exact rest_sorted _ rfl 4096 [] [⟨start, 0⟩] [] (by simp) (by simp) (by simp [ids])
theorem reach_first {most : Int} : ∃ l, (searchF (srReach of most) start).settled = ⟨start, 0⟩ :: l := by
  have h1 : ∀ (n : Nat) (st nr : List Seen) (a : List Int), ∃ l, (restF (srReach of most) n st nr a).settled = st ++ l := by
    intro n
    induction n with
    | zero => intro st nr a; unfold restF; split <;> exact ⟨[], by simp⟩
    | succ n ih =>
      intro st nr a
      unfold restF
      split
      · exact ⟨[], by simp⟩
      · unfold settleF
        split
        · exact ⟨_, rfl⟩
        · split
          · split
            · exact ⟨_, rfl⟩
            · split
              · exact ⟨_, rfl⟩
              · obtain ⟨l, e⟩ := ih (st ++ [snth nr (leastI nr)]) (arcsL (srReach of most).hops (st ++ [snth nr (leastI nr)]) (snth nr (leastI nr)).sum ((srReach of most).of (snth nr (leastI nr)).id).1 (nr.eraseIdx (leastI nr))).2 (a ++ [(snth nr (leastI nr)).id])
                exact ⟨_, by rw [e, List.append_assoc]⟩
          · obtain ⟨l, e⟩ := ih (st ++ [snth nr (leastI nr)]) (nr.eraseIdx (leastI nr)) a
            exact ⟨_, by rw [e, List.append_assoc]⟩
  unfold searchF settleF
  split
  · exact ⟨[], rfl⟩
  · split
    · split
      · exact ⟨[], rfl⟩
      · split
        · exact ⟨[], rfl⟩
        · exact h1 _ _ _ _
    · exact h1 _ _ _ _
end
end Go.Proofs.YtkiakofohkecaaaDoor

/- The mild rows and the ends of a net, as the outright laws make them. No condition but that the rows are read in memory as told. -/
namespace Go.Proofs.YtkiakofohkecaaaDoor
open Go Go.Fw

theorem elem24 : ElemOk Tryd.prog 24 74 3 40 := .of (z := .agg #[.int .i64 0, .slice none 0 0, .int .i64 0]) (by kernel_rfl) (by kernel_rfl) (by kernel_rfl)
theorem elem59' : ElemOk Tryd.prog 59 62 3 24 := .of (z := .agg #[.int .i64 0, .int .i64 0, .int .i64 0]) (by kernel_rfl) (by kernel_rfl) (by kernel_rfl)
/-- The last twenty bits. -/
def mw (w : Int) : Int := IntKind.i64.wrap (BitVec.ofInt 64 w &&& BitVec.ofInt 64 1048575).toNat
theorem mw_range (w : Int) : 0 ≤ mw w ∧ mw w ≤ 1048575 := by
  have h : (BitVec.ofInt 64 w &&& BitVec.ofInt 64 1048575).toNat ≤ 1048575 := by
    rw [BitVec.toNat_and]
    have : (BitVec.ofInt 64 1048575).toNat = 1048575 := by decide
    rw [this]
    exact Nat.and_le_right
  unfold mw
  rw [i64_id (by omega) (by omega)]
  omega
def mildA (a : Arc) : Arc := ⟨a.edge, a.to, mw a.weight⟩
/-- A row of mild arcs, without a code. -/
def MildR (r : NRow) : Prop := r.code = 0 ∧ (∀ a ∈ r.arcs, 0 ≤ a.weight ∧ a.weight ≤ 1048575) ∧ r.arcs.length ≤ 1048576
theorem bin_and64 (w : Int) : binE .and (.int .i64 w) (.int .i64 1048575) = some (.int .i64 (mw w)) := bin_and .i64 w 1048575
theorem fill_row0 (k : Int) : (fillS [(0, 1), (1, 1), (2, 1)] #[(.int .i64 0), (.slice none 0 0), (.int .i64 0)] [(0, .int .i64 k)]).map Value.agg = some (.agg #[.int .i64 k, .slice none 0 0, .int .i64 0]) := by kernel_rfl
theorem fill_row1 (k c : Int) (v : Value) : fillR 3 #[(.int .i64 0), (.slice none 0 0), (.int .i64 0)] [(0, .agg #[.int .i64 k, v, .int .i64 c])] = some #[.int .i64 k, v, .int .i64 c] := by
  simp [fillR, Instr.fill]
theorem seg_row {h : Hp} {b E : Nat} {x y z : Value} (e : h[b]? = some (.cells #[x, y, z] E (0, 0))) : Seg h 3 b 0 [[x, y, z]] := by
  refine ⟨_, _, _, e, by simp, by simp, fun a j u hi hj => ?_⟩
  have ha := (List.getElem?_eq_some_iff.1 hi).1
  simp at ha
  subst ha
  simp at hi
  subst hi
  simp

section
variable {h0 h : Hp} {v : Value} {rows : List NRow}
/-- Row i is read. -/
theorem NetOk.at_ (net : NetOk h v rows) {i : Nat} (hi : i < rows.length) : ∃ b o, idxE 3 v (.int .i64 (i : Int)) = some (.pointer (some ⟨b, o, none⟩)) ∧ ∀ h', Fr h h' [] → ldS h' (.pointer (some ⟨b, o, none⟩)) = some (.int .i64 rows[i].id) ∧ ldS h' (.pointer (some ⟨b, o + 1, none⟩)) = some rows[i].v ∧ RowV h' 3 rows[i].v (rows[i].arcs.map Arc.enc) := by
  obtain ⟨b, o, e, _, rd⟩ := net.rows.get (i := i) (x := (rows[i]).enc) (by simp [hi]) .i64
  refine ⟨b, o, e, fun h' f => ⟨?_, ?_, (net.fr f).arcs _ (by simp)⟩⟩
  · simpa [NRow.enc] using (rd h' f).1 0 (by omega)
  · simpa [NRow.enc] using (rd h' f).1 1 (by omega)
theorem NetOk.len (net : NetOk h v rows) : lenE v = some (.int .i64 rows.length) := by
  obtain ⟨a, c, rfl, _⟩ := net.rows
  simp

/-! ## mild -/
structure MildI (hS : Hp) (rows : List NRow) (i : Nat) (out : List NRow) (ov : Value) (bo BB : List Nat) (h : Hp) : Prop where
  fr : Fr hS h []
  len : out.length = i
  own : OwnS h 74 3 ov (out.map NRow.enc) bo
  arcs : ∀ r ∈ out, RowB h 3 r.v (r.arcs.map Arc.enc) BB
  good : ∀ r ∈ out, MildR r
  new : (∀ b ∈ bo, hS.size ≤ b) ∧ ∀ b ∈ BB, hS.size ≤ b ∧ b < h.size ∧ b ∉ bo
def MInv (hS : Hp) (rows : List NRow) (vs : List Value) (h : Hp) : Prop := ∃ (i : Nat) (out : List NRow) (ov : Value) (bo BB : List Nat), vs = [ov, .int .i64 i] ∧ i ≤ rows.length ∧ MildI hS rows i out ov bo BB h
def MInv2 (hS h1 : Hp) (rows : List NRow) (i : Nat) (out : List NRow) (ov : Value) (bo BB : List Nat) (q : Nat) (id : Int) (l : List Arc) (vs : List Value) (h : Hp) : Prop :=
  ∃ (j : Nat) (av : Value) (bc : List Nat) (xs : List Arc), vs = [.int .i64 j] ∧ j ≤ l.length ∧ MildI hS rows i out ov bo BB h ∧ h[q]? = some (.cells #[.int .i64 id, av, .int .i64 0] 74 (0, 0)) ∧ OwnS h 62 3 av (xs.map Arc.enc) bc ∧ xs.length = j ∧ (∀ a ∈ xs, 0 ≤ a.weight ∧ a.weight ≤ 1048575) ∧ (∀ b ∈ bc, h1.size < b ∧ b ≠ q ∧ b ∉ bo ∧ b ∉ BB) ∧ h1.size ≤ h.size

theorem MildI.fr' {hS h h' : Hp} {rows out : List NRow} {i : Nat} {ov : Value} {bo BB S : List Nat} (I : MildI hS rows i out ov bo BB h) (f : Fr h h' S) (hS' : ∀ b ∈ S, hS.size ≤ b ∧ b ∉ bo ∧ b ∉ BB) : MildI hS rows i out ov bo BB h' :=
  ⟨I.fr.news f fun c hc => (hS' c hc).1, I.len, I.own.fr f fun b hb hb' => (hS' b hb').2.1 hb, fun r hr => (I.arcs r hr).fr f fun b hb hb' => (hS' b hb').2.2 hb, I.good, I.new.1, fun b hb => by have := I.new.2 b hb; have := f.size; exact ⟨by omega, by omega, (I.new.2 b hb).2.2⟩⟩

set_option maxHeartbeats 2000000 in
theorem mild_round {hS h1 : Hp} (net : NetOk hS v rows) {i : Nat} (hi : i < rows.length) {out : List NRow} {ov : Value} {bo BB : List Nat} (I : MildI hS rows i out ov bo BB h1) {I1 : List Value → Hp → Prop} {μ1 : List Value → Hp → Nat}
    (hI : ∀ ov' h', MInv hS rows [ov', .int .i64 ((i + 1 : Nat) : Int)] h' → I1 [ov', .int .i64 ((i + 1 : Nat) : Int)] h' ∧ μ1 [ov', .int .i64 ((i + 1 : Nat) : Int)] h' < μ1 [ov, .int .i64 (i : Int)] h1) :
    bnd (idxE 3 v (.int .i64 (i : Int))) fun t16_1 =>
    bnd (fldE 0 t16_1) fun t17_1 =>
    bnd (ldS h1 t17_1) fun t18_1 =>
    bnd ((fillS [(0, 1), (1, 1), (2, 1)] #[(.int .i64 0), (.slice none 0 0), (.int .i64 0)] [(0, t18_1)]).map .agg) fun t19_1 =>
    nw h1 #[(.int .i64 0), (.slice none 0 0), (.int .i64 0)] 74 ptr0 fun t5_1 h_2 =>
    bnd (stE 3 h_2 t5_1 t19_1) fun h_3 =>
    (f26.L2 h_3 v (.int .i64 (i : Int)) t5_1 ov I1 μ1 h1) := by
  have hbd := net.bound
  have hal := net.each rows[i] (by simp)
  have netl := net.len
  obtain ⟨b0, o0, e0, rd0⟩ := net.at_ hi
  have r0 := (rd0 h1 I.fr).1
  have s3 : stE 3 (h1.push (.cells #[.int .i64 0, .slice none 0 0, .int .i64 0] 74 (0, 0))) (.pointer (some ⟨h1.size, 0, none⟩)) (.agg #[.int .i64 rows[i].id, .slice none 0 0, .int .i64 0]) =
      some ((h1.push (.cells #[.int .i64 0, .slice none 0 0, .int .i64 0] 74 (0, 0))).setIfInBounds h1.size (.cells #[.int .i64 rows[i].id, .slice none 0 0, .int .i64 0] 74 (0, 0))) := by
    rw [stE_at _ (get_new h1 _)]; simp [splice]
  simp only [e0, bnd_some, fldE_ptr, Nat.add_zero, r0, fill_row0, nw_eq, ptr0_eq, s3]
  obtain ⟨f3, g3⟩ := box_fr h1 (.cells #[.int .i64 0, .slice none 0 0, .int .i64 0] 74 (0, 0)) (.cells #[.int .i64 rows[i].id, .slice none 0 0, .int .i64 0] 74 (0, 0)) rfl rfl
  generalize (h1.push (.cells #[.int .i64 0, .slice none 0 0, .int .i64 0] 74 (0, 0))).setIfInBounds h1.size (.cells #[.int .i64 rows[i].id, .slice none 0 0, .int .i64 0] 74 (0, 0)) = h3 at *
  have I3 := I.fr' f3 (by simp)
  have hs1 := I.fr.size
  have lo := I.own.lt
  have l3 := lt_of_get g3
  unfold f26.L2
  refine ⟨MInv2 hS h1 rows i out ov bo BB h1.size rows[i].id rows[i].arcs, muI rows[i].arcs.length, ⟨0, _, [], [], rfl, by omega, I3, g3, .nil _ _ _, rfl, by simp, by simp, by omega⟩, ?_⟩
  intro t20_1 t21_1 t22_1 t23_1 t24_1 t25_1 t26_1 t27_1 t30_1 t31_1 t32_1 t33_1 t34_1 t35_1 t36_1 t37_1 t7_1 t38_1 t39_1 t40_1 t41_1 t42_1 t43_1 t44_1 t45_1 t46_1 t47_1 t28_1 t29_1 t6_1 h4
  rintro ⟨j, av, bc, xs, hv, hj, I4, g4, oa, hx, hw, hbc, hs4⟩
  obtain rfl : t6_1 = .int .i64 j := by simpa using hv
  obtain ⟨_, rv4, ra4⟩ := rd0 h4 I4.fr
  have hll : lenE rows[i].v = some (.int .i64 rows[i].arcs.length) := by obtain ⟨a, c, e, _⟩ := ra4; rw [e]; simp
  have nq : h1.size ∉ bo := fun hb => by have := lo _ hb; omega
  have nqB : h1.size ∉ BB := fun hb => by have := (I.new.2 _ hb).2.1; omega
  simp only [e0, bnd_some, fldE_ptr, rv4, hll, bin_lss, condT_bool]
  by_cases hlt : j < rows[i].arcs.length
  · have hdec : decide ((j : Int) < (rows[i].arcs.length : Int)) = true := by simp; omega
    have w1 : IntKind.i64.wrap ((j : Int) + 1) = ((j + 1 : Nat) : Int) := by rw [i64_id (by omega) (by omega)]; omega
    obtain ⟨b5, o5, e5, _, rd5⟩ := ra4.get (i := j) (x := (rows[i].arcs[j]).enc) (by simp [hlt]) .i64
    have r5 := (rd5 h4 (Fr.refl _ _)).2
    simp only [Arc.enc] at r5
    generalize rows[i].arcs[j] = a at *
    simp only [hdec, if_true, e5, r5, bnd_some, nw_eq, ptr0_eq, new_box3, fldE_ptr]
    obtain ⟨f6, g6⟩ := box_fr h4 (.cells #[.int .i64 0, .int .i64 0, .int .i64 0] 62 (0, 0)) (.cells #[.int .i64 a.edge, .int .i64 a.to, .int .i64 a.weight] 62 (0, 0)) rfl rfl
    generalize (h4.push (.cells #[.int .i64 0, .int .i64 0, .int .i64 0] 62 (0, 0))).setIfInBounds h4.size (.cells #[.int .i64 a.edge, .int .i64 a.to, .int .i64 a.weight] 62 (0, 0)) = h6 at *
    have s7 : stE 1 h6 (.pointer (some ⟨h4.size, 2, none⟩)) (.int .i64 (mw a.weight)) = some (h6.setIfInBounds h4.size (.cells #[.int .i64 a.edge, .int .i64 a.to, .int .i64 (mw a.weight)] 62 (0, 0))) := by
      rw [stE_at _ g6]; simp [splice]
    have g7 := get_set (o' := .cells #[.int .i64 a.edge, .int .i64 a.to, .int .i64 (mw a.weight)] 62 (0, 0)) g6
    have F7 := f6.set_new (Nat.le_refl h4.size) (.cells #[.int .i64 a.edge, .int .i64 a.to, .int .i64 (mw a.weight)] 62 (0, 0))
    simp only [fldE_ptr, ldS_at g6, Nat.zero_add, List.getElem?_toArray, List.getElem?_cons_succ, List.getElem?_cons_zero, bnd_some, bin_and64, s7]
    generalize h6.setIfInBounds h4.size (.cells #[.int .i64 a.edge, .int .i64 a.to, .int .i64 (mw a.weight)] 62 (0, 0)) = h7 at *
    have g47 := F7.get g4 (by simp)
    have l7 : ldA 3 h7 (.pointer (some ⟨h4.size, 0, none⟩)) = some (.agg #[.int .i64 a.edge, .int .i64 a.to, .int .i64 (mw a.weight)]) := by rw [ldA_at g7]; simp
    simp only [fldE_ptr, ldS_at g47, Nat.zero_add, List.getElem?_toArray, List.getElem?_cons_succ, List.getElem?_cons_zero, bnd_some, l7, fill_arc1, nw_eq]
    have f8 := Fr.push h7 (.cells #[.int .i64 a.edge, .int .i64 a.to, .int .i64 (mw a.weight)] 62 (0, 0)) []
    have g8 := get_new h7 (.cells #[.int .i64 a.edge, .int .i64 a.to, .int .i64 (mw a.weight)] 62 (0, 0))
    generalize h7.push (.cells #[.int .i64 a.edge, .int .i64 a.to, .int .i64 (mw a.weight)] 62 (0, 0)) = h8 at *
    have F8 : Fr h4 h8 [] := F7.then f8
    have sg8 : Seg h8 3 h7.size 0 [(mildA a).enc] := seg_row g8
    refine own_app (ys := [(mildA a).enc]) elem59' (oa.fr F8 (by simp)) sg8 (by simp [Arc.enc]) (by simp; omega) (by simp; omega) fun h9 av' bc' oa' f9 nb' => ?_
    have F9 : Fr h4 h9 bc := F8.trans f9 (by simp) (fun c _ hc => hc)
    have g9 := F9.get g4 (fun hb => (hbc _ hb).2.1 rfl)
    have s10 : stE 1 h9 (.pointer (some ⟨h1.size, 1, none⟩)) av' = some (h9.setIfInBounds h1.size (.cells #[.int .i64 rows[i].id, av', .int .i64 0] 74 (0, 0))) := by
      rw [stE_at _ g9]; simp [splice, oa'.cells, oa'.one]
    have g10 := get_set (o' := .cells #[.int .i64 rows[i].id, av', .int .i64 0] 74 (0, 0)) g9
    have f10 : Fr h9 (h9.setIfInBounds h1.size (.cells #[.int .i64 rows[i].id, av', .int .i64 0] 74 (0, 0))) [h1.size] := Fr.set _ _ _ (fun _ => by simp) (by rw [g9]; rfl)
    simp only [s10, bnd_some, bin_add, w1]
    generalize h9.setIfInBounds h1.size (.cells #[.int .i64 rows[i].id, av', .int .i64 0] 74 (0, 0)) = h10 at *
    have F8s := F8.size
    have F9s := F9.size
    have f10s := f10.size
    have hbc' : ∀ b ∈ bc', h1.size < b ∧ b ≠ h1.size ∧ b ∉ bo ∧ b ∉ BB := fun b hb => by
      rcases nb' b hb with h | h
      · exact hbc b h
      · refine ⟨by have := lt_of_get g4; omega, by have := lt_of_get g4; omega, fun hb => by have := lo b hb; omega, fun hb => by have := (I4.new.2 b hb).2.1; omega⟩
    have I9 := I4.fr' F9 fun b hb => ⟨by have := (hbc b hb).1; omega, (hbc b hb).2.2⟩
    have I10 := I9.fr' f10 fun b hb => by simp at hb; subst hb; exact ⟨by omega, nq, nqB⟩
    refine ⟨⟨j + 1, av', bc', xs ++ [mildA a], rfl, by omega, I10, g10, by simpa using oa'.fr f10 fun b hb hb' => by simp at hb'; exact (hbc' b hb).2.1 hb', by simp [hx], fun x hxm => ?_, hbc', by omega⟩, muI_lt _ _ hlt⟩
    rcases List.mem_append.1 hxm with hxm | hxm
    · exact hw x hxm
    · simp at hxm; subst hxm; exact mw_range a.weight
  · have hdec : decide ((j : Int) < (rows[i].arcs.length : Int)) = false := by simp; omega
    obtain rfl : j = rows[i].arcs.length := by omega
    have w1 : IntKind.i64.wrap ((i : Int) + 1) = ((i + 1 : Nat) : Int) := by rw [i64_id (by omega) (by omega)]; omega
    have l4 : ldA 3 h4 (.pointer (some ⟨h1.size, 0, none⟩)) = some (.agg #[.int .i64 rows[i].id, av, .int .i64 0]) := by rw [ldA_at g4]; simp
    simp only [hdec, Bool.false_eq_true, if_false, l4, bnd_some, fill_row1, nw_eq]
    have f5 := Fr.push h4 (.cells #[.int .i64 rows[i].id, av, .int .i64 0] 74 (0, 0)) []
    have g5 := get_new h4 (.cells #[.int .i64 rows[i].id, av, .int .i64 0] 74 (0, 0))
    generalize h4.push (.cells #[.int .i64 rows[i].id, av, .int .i64 0] 74 (0, 0)) = h5 at *
    have I5 := I4.fr' f5 (by simp)
    have hln := I4.len
    refine own_app (ys := [(⟨rows[i].id, av, xs, 0⟩ : NRow).enc]) elem24 I5.own (seg_row g5) (by simp [NRow.enc, oa.one]) (by simp; omega) (by simp; omega) fun h6 ov' bo' o6 f6 nb => ?_
    have f5s := f5.size
    have f6s := f6.size
    have oa6 := (oa.fr f5 (by simp)).fr f6 fun b hb hb' => (hbc b hb).2.2.1 hb'
    simp only [bin_add, bnd_some, w1]
    refine hI ov' h6 ⟨i + 1, out ++ [⟨rows[i].id, av, xs, 0⟩], ov', bo', BB ++ bc, rfl, by omega, ⟨I5.fr.news f6 fun c hc => I.new.1 c hc, by simp [hln], by simpa using o6, fun r hr => ?_, fun r hr => ?_, fun b hb => ?_, fun b hb => ?_⟩⟩
    · rcases List.mem_append.1 hr with hr | hr
      · have := (I5.arcs r hr).fr f6 fun b hb hb' => (I5.new.2 b hb).2.2 hb'
        obtain ⟨a, c, e, hx⟩ := this
        exact ⟨a, c, e, fun hne => let ⟨b, o, e, hb, s⟩ := hx hne; ⟨b, o, e, by simp [hb], s⟩⟩
      · simp at hr; subst hr
        rcases oa6 with ⟨rfl, hxe, rfl⟩ | ⟨b, cap, rfl, r, rfl⟩
        · exact ⟨none, 0, by simp only; rw [hxe]; rfl, fun hne => absurd hxe hne⟩
        · exact ⟨_, cap, rfl, fun _ => ⟨b, 0, rfl, by simp, r.seg⟩⟩
    · rcases List.mem_append.1 hr with hr | hr
      · exact I.good r hr
      · simp at hr; subst hr; exact ⟨rfl, hw, by simp only; omega⟩
    · rcases nb b hb with h | h
      · exact I.new.1 b h
      · omega
    · have lt4 := oa.lt
      rcases List.mem_append.1 hb with hb | hb
      · have := I5.new.2 b hb
        exact ⟨by omega, by omega, fun hb' => by rcases nb b hb' with h | h; exact this.2.2 h; omega⟩
      · have h1' := hbc b hb
        have h2' := lt4 b hb
        exact ⟨by omega, by omega, fun hb' => by rcases nb b hb' with h | h; exact h1'.2.2.1 h; omega⟩

theorem mild_spec {h : Hp} (net : NetOk h v rows) {R : Value → Hp → Prop} (hR : ∀ h' v' rows', NetOk h' v' rows' → (∀ r ∈ rows', MildR r) → Fr h h' [] → R v' h') : CallsH Tryd.prog 26 #[v] h R := by
  have hbd := net.bound
  refine f26.ok ?_
  unfold f26.T f26.L1
  refine ⟨MInv h rows, muF rows.length, ⟨0, [], _, [], [], rfl, by omega, ⟨Fr.refl _ _, rfl, .nil _ _ _, by simp, by simp, by simp, by simp⟩⟩, ?_⟩
  intro t8 t9 t10 t11 t14 t15 t16 t17 t18 t19 t5 t20 t21 t22 t23 t24 t25 t26 t27 t30 t31 t32 t33 t34 t35 t36 t37 t7 t38 t39 t40 t41 t42 t43 t44 t45 t46 t47 t28 t29 t6 t48 t49 t50 t51 t3 t12 t13 t4 h1
  rintro ⟨i, out, ov, bo, BB, hv, hi, I⟩
  obtain ⟨rfl, rfl⟩ : t3 = ov ∧ t4 = .int .i64 i := by simpa using hv
  simp only [net.len, bnd_some, bin_lss, condT_bool]
  by_cases hlt : i < rows.length
  · have hdec : decide ((i : Int) < (rows.length : Int)) = true := by simp; omega
    simp only [hdec, if_true]
    exact mild_round net hlt I fun ov' h' m => ⟨m, by simp only [muF, Int.toNat_natCast]; omega⟩
  · have hdec : decide ((i : Int) < (rows.length : Int)) = false := by simp; omega
    simp only [hdec, Bool.false_eq_true, if_false]
    have hln := I.len
    exact hR h1 t3 out ⟨I.own.rowv, fun r hr => (I.arcs r hr).rowv, by omega, fun r hr => (I.good r hr).2.2⟩ I.good I.fr
end
end Go.Proofs.YtkiakofohkecaaaDoor

/- The ends of a net. No condition but that the rows are read in memory as told. -/
namespace Go.Proofs.YtkiakofohkecaaaDoor
open Go Go.Fw

def endsR (r : NRow) : List Int := r.id :: r.arcs.map (·.to)
def endsL (rows : List NRow) (start : Int) : List Int := start :: rows.flatMap endsR

section
variable {h : Hp} {v : Value} {rows : List NRow}
structure EndI (hS : Hp) (l : List Int) (ov : Value) (bo : List Nat) (h : Hp) : Prop where
  fr : Fr hS h []
  own : OwnS h 2 1 ov (ints l) bo
  new : ∀ b ∈ bo, hS.size ≤ b
def EInv (hS : Hp) (rows : List NRow) (start : Int) (vs : List Value) (h : Hp) : Prop := ∃ (i : Nat) (ov : Value) (bo : List Nat), vs = [ov, .int .i64 i] ∧ i ≤ rows.length ∧ EndI hS (start :: (rows.take i).flatMap endsR) ov bo h ∧ (start :: (rows.take i).flatMap endsR).length ≤ 1 + i * 1048577
def EInv2 (hS : Hp) (l0 : List Int) (l : List Arc) (vs : List Value) (h : Hp) : Prop := ∃ (j : Nat) (ov : Value) (bo : List Nat), vs = [ov, .int .i64 j] ∧ j ≤ l.length ∧ EndI hS (l0 ++ (l.take j).map (·.to)) ov bo h

theorem EndI.app {hS h : Hp} {l : List Int} {ov : Value} {bo : List Nat} (I : EndI hS l ov bo h) (hl : l.length ≤ 4398046511102) {k : Int} {K : Value → Hp → Prop} (hK : ∀ ov' bo' h', EndI hS (l ++ [k]) ov' bo' h' → K ov' h') :
    nw h #[.int .i64 k] 2 (fun b => .slice (some ⟨b, 0, none⟩) 1 1) fun t44_2 h_6 => efS Tryd.prog (Go.Builtin.append_ #[28, 28] 28 #[ov, t44_2]) h_6 K := by
  have f1 := Fr.push h (.cells #[.int .i64 k] 2 (0, 0)) []
  have g1 := get_new h (.cells #[.int .i64 k] 2 (0, 0))
  simp only [nw_eq]
  generalize h.push (.cells #[.int .i64 k] 2 (0, 0)) = h1 at *
  have f1s := f1.size
  have hs := I.fr.size
  refine own_app elem28 (I.own.fr f1 (by simp)) (seg_one g1) (by simp) (by simp [ints]; omega) (by simp [ints]; omega) fun h' v' bl' o' f' nb => hK v' bl' h' ⟨I.fr.news (f1.trans f' (S := bo) (by simp) (fun _ _ h => h)) I.new, by simpa [ints] using o', fun b hb => ?_⟩
  rcases nb b hb with h | h
  · exact I.new b h
  · omega

theorem ends_spec {h : Hp} (net : NetOk h v rows) (start : Int) {R : Value → Hp → Prop} (hR : ∀ h' ev be, OwnS h' 2 1 ev (ints (endsL rows start)) be → Fr h h' [] → (∀ b ∈ be, h.size ≤ b) → (endsL rows start).length ≤ 1099512676353 → R ev h') : CallsH Tryd.prog 27 #[v, .int .i64 start] h R := by
  have hbd := net.bound
  have netl := net.len
  refine f27.ok ?_
  unfold f27.T
  simp only [fill_int, bnd_some, nw_eq]
  have f1 := Fr.push h (.cells #[.int .i64 start] 2 (0, 0)) []
  have g1 := get_new h (.cells #[.int .i64 start] 2 (0, 0))
  have o1 : OwnS (h.push (.cells #[.int .i64 start] 2 (0, 0))) 2 1 (.slice (some ⟨h.size, 0, none⟩) 1 1) (ints [start]) [h.size] := .inr ⟨h.size, 1, by simp [ints], ⟨_, g1, by simp, by simp [ints], by simp [ints], by simp [ints], by simp [ints]⟩, rfl⟩
  generalize h.push (.cells #[.int .i64 start] 2 (0, 0)) = h1 at *
  unfold f27.L1
  refine ⟨EInv h rows start, muF rows.length, ⟨0, _, _, rfl, by omega, ⟨f1, by simpa using o1, by simp⟩, by simp⟩, ?_⟩
  intro t10 t11 t12 t13 t16 t17 t18 t19 t20 t21 t22 t23 t24 t25 t26 t27 t28 t29 t30 t31 t34 t35 t36 t37 t38 t39 t40 t41 t42 t43 t44 t45 t5 t32 t33 t7 t14 t15 t6 h2
  rintro ⟨i, ov, bo, hv, hi, I2, hlen⟩
  obtain ⟨rfl, rfl⟩ : t5 = ov ∧ t6 = .int .i64 i := by simpa using hv
  simp only [netl, bnd_some, bin_lss, condT_bool]
  by_cases hlt : i < rows.length
  · have hdec : decide ((i : Int) < (rows.length : Int)) = true := by simp; omega
    have w0 : IntKind.i64.wrap ((i : Int) + 1) = ((i + 1 : Nat) : Int) := by rw [i64_id (by omega) (by omega)]; omega
    have hal := net.each rows[i] (by simp)
    obtain ⟨b0, o0, e0, rd0⟩ := net.at_ hlt
    have r0 := (rd0 h2 I2.fr).1
    simp only [hdec, if_true, e0, bnd_some, fldE_ptr, Nat.add_zero, r0, fill_int]
    refine I2.app (by omega) fun ov3 bo3 h3 I3 => ?_
    unfold f27.L2
    refine ⟨EInv2 h ((start :: (rows.take i).flatMap endsR) ++ [rows[i].id]) rows[i].arcs, muF rows[i].arcs.length, ⟨0, ov3, bo3, rfl, by omega, by simpa using I3⟩, ?_⟩
    intro t24_1 t25_1 t26_1 t27_1 t28_1 t29_1 t30_1 t31_1 t34_1 t35_1 t36_1 t37_1 t38_1 t39_1 t40_1 t41_1 t42_1 t43_1 t44_1 t45_1 t5_1 t32_1 t33_1 t7_1 h5
    rintro ⟨j, ov5, bo5, hv, hj, I5⟩
    obtain ⟨rfl, rfl⟩ : t5_1 = ov5 ∧ t7_1 = .int .i64 j := by simpa using hv
    obtain ⟨_, rv5, ra5⟩ := rd0 h5 I5.fr
    have hll : lenE rows[i].v = some (.int .i64 rows[i].arcs.length) := by obtain ⟨a, c, e, _⟩ := ra5; rw [e]; simp
    simp only [e0, bnd_some, fldE_ptr, rv5, hll, bin_lss, condT_bool]
    by_cases hjl : j < rows[i].arcs.length
    · have hdec2 : decide ((j : Int) < (rows[i].arcs.length : Int)) = true := by simp; omega
      have w1 : IntKind.i64.wrap ((j : Int) + 1) = ((j + 1 : Nat) : Int) := by rw [i64_id (by omega) (by omega)]; omega
      obtain ⟨b6, o6, e6, _, rd6⟩ := ra5.get (i := j) (x := (rows[i].arcs[j]).enc) (by simp [hjl]) .i64
      have r6 := (rd6 h5 (Fr.refl _ _)).1 1 (by omega)
      simp only [Arc.enc, List.getElem?_cons_succ, List.getElem?_cons_zero] at r6
      simp only [hdec2, if_true, e6, fldE_ptr, r6, bnd_some, fill_int]
      refine I5.app (by simp at hlen ⊢; omega) fun ov7 bo7 h7 I7 => ?_
      simp only [bin_add, bnd_some, w1]
      refine ⟨⟨j + 1, ov7, bo7, rfl, by omega, ?_⟩, by simp only [muF, Int.toNat_natCast]; omega⟩
      rw [List.take_add_one, List.getElem?_eq_getElem hjl, Option.toList_some, List.map_append, ← List.append_assoc]
      exact I7
    · have hdec2 : decide ((j : Int) < (rows[i].arcs.length : Int)) = false := by simp; omega
      obtain rfl : j = rows[i].arcs.length := by omega
      simp only [hdec2, Bool.false_eq_true, if_false, bin_add, bnd_some, w0]
      have e : (start :: (rows.take (i + 1)).flatMap endsR) = (start :: (rows.take i).flatMap endsR) ++ [rows[i].id] ++ (rows[i].arcs.take rows[i].arcs.length).map (·.to) := by
        rw [List.take_add_one, List.getElem?_eq_getElem hlt, Option.toList_some, List.flatMap_append]
        simp [endsR]
      refine ⟨⟨i + 1, t5_1, bo5, rfl, by omega, by rw [e]; exact I5, ?_⟩, by simp only [muF, Int.toNat_natCast]; omega⟩
      rw [e]
      simp at hlen ⊢
      omega
  · have hdec : decide ((i : Int) < (rows.length : Int)) = false := by simp; omega
    obtain rfl : i = rows.length := by omega
    rw [List.take_length] at I2 hlen
    simp only [hdec, Bool.false_eq_true, if_false]
    exact hR h2 t5 bo I2.own I2.fr I2.new (by unfold endsL; omega)

theorem ofL_ends {id start : Int} {a : Arc} (ha : a ∈ (ofL rows false id).1) : a.to ∈ endsL rows start := by
  unfold ofL at ha
  split at ha
  · rename_i r hr
    split at ha
    · simp only [endsL, List.mem_cons, List.mem_flatMap]
      exact .inr ⟨r, List.mem_of_find?_eq_some hr, by simp only [endsR, List.mem_cons, List.mem_map]; exact .inr ⟨a, ha, rfl⟩⟩
    · simp at ha
  · simp at ha
theorem ofL_mild (hm : ∀ r ∈ rows, MildR r) (id : Int) : (ofL rows false id).2 = 0 ∧ ∀ a ∈ (ofL rows false id).1, 0 ≤ a.weight ∧ a.weight ≤ 1048575 := by
  unfold ofL
  split
  · rename_i r hr
    have := hm r (List.mem_of_find?_eq_some hr)
    rw [if_pos this.1]
    exact ⟨rfl, this.2.1⟩
  · simp
end
end Go.Proofs.YtkiakofohkecaaaDoor

/- The law PathsNear: Reach's nodes are just those to which Hops tells few enough, nearer ones first. No condition but that the rows are read in memory as told. -/
namespace Go.Proofs.YtkiakofohkecaaaDoor
open Go Go.Fw

section
variable {of : Int → List Arc × Int} {start most : Int} {E : List Int}
structure Mild (of : Int → List Arc × Int) (start : Int) (E : List Int) : Prop where
  code : ∀ id, (of id).2 = 0
  arcs : ∀ id, ∀ a ∈ (of id).1, 0 ≤ a.weight ∧ a.weight ≤ 1048575 ∧ a.to ∈ E
  start : start ∈ E
  len : E.length ≤ 1000
theorem Mild.hops (M : Mild of start E) (to : Int) : (searchF (srHops of to) start).code = 0 :=
  search_code _ start E (by have := M.len; omega) M.start M.code fun id a ha => ⟨by simp [wt, srHops], by simp [wt, srHops], (M.arcs id a ha).2.2⟩
theorem Mild.reach (M : Mild of start E) (most : Int) : (searchF (srReach of most) start).code = 0 :=
  search_code _ start E (by have := M.len; omega) M.start M.code fun id a ha => ⟨by simp [wt, srReach], by simp [wt, srReach], (M.arcs id a ha).2.2⟩
theorem Mild.reach_len (M : Mild of start E) (hm : 0 ≤ most) : (searchF (srReach of most) start).settled.length ≤ 1000 := by
  obtain ⟨hd, hw, _⟩ := reach_sim hm (M.reach most)
  have key : ∀ id k, Walk of true start id k → id ∈ E := fun id k h => by
    cases h with
    | nil => exact M.start
    | step _ ha => exact (M.arcs _ _ ha).2.2
  have := sub_len hd (E := E) fun x hx => by
    obtain ⟨s, hs, rfl⟩ := List.mem_map.1 hx
    exact key _ _ (hw s hs).1
  have := M.len
  simp [ids] at *
  omega
theorem Mild.near (M : Mild of start E) (hm : 0 ≤ most) {s : Seen} (hs : s ∈ (searchF (srReach of most) start).settled) : hopsV (searchF (srHops of s.id) start) = .tuple #[.int .i64 s.sum, .bool true, .int .i64 0] := by
  obtain ⟨hd, hw, hr⟩ := reach_sim hm (M.reach most)
  have hc := M.hops s.id
  cases hh : (searchF (srHops of s.id) start).hit
  · exact absurd (hw s hs).1 (hops_no hc hh _)
  · obtain ⟨h1, h2⟩ := hops_yes hh
    have h3 := h2 _ (hw s hs).1
    obtain ⟨t, ht, hi, hle⟩ := hr _ _ h1 (by have := (hw s hs).2; omega)
    obtain rfl := ids_inj hd ht hs hi
    have : lastSum (searchF (srHops of t.id) start) = t.sum := by omega
    simp [hopsV, hh, hc, this]
theorem Mild.iff (M : Mild of start E) (hm : 0 ≤ most) (id : Int) : ((searchF (srHops of id) start).hit = true ∧ lastSum (searchF (srHops of id) start) ≤ most) ↔ id ∈ ids (searchF (srReach of most) start).settled := by
  obtain ⟨hd, hw, hr⟩ := reach_sim hm (M.reach most)
  constructor
  · rintro ⟨hh, hle⟩
    obtain ⟨t, ht, hi, _⟩ := hr _ _ (hops_yes hh).1 hle
    exact List.mem_map.2 ⟨t, ht, hi⟩
  · intro hx
    obtain ⟨s, hs, rfl⟩ := List.mem_map.1 hx
    have h := M.near hm hs
    simp only [hopsV, Value.tuple.injEq, Array.mk.injEq, List.cons.injEq, Value.int.injEq, Value.bool.injEq, and_true, true_and] at h
    obtain ⟨h1, h2, _⟩ := h
    rw [h2] at h1
    simp only [if_true] at h1
    exact ⟨h2, by rw [h1]; exact (hw s hs).2⟩
end

def NearI (hB : Hp) (Sh : List Int → List Nat → Hp → Prop) (Lv : Value) (L : List Int) (bv : List Nat) (ev : Value) (E : List Int) (be : List Nat) (n : Nat) (h : Hp) : Prop :=
  ∃ a B, Sh a B h ∧ a.length ≤ 4096 * n ∧ OwnS h 2 1 Lv (ints L) bv ∧ (∀ b ∈ bv, b ∉ B) ∧ OwnS h 2 1 ev (ints E) be ∧ (∀ b ∈ be, b ∉ B) ∧ Fr hB h [] ∧ ∀ b ∈ B, hB.size ≤ b

theorem near_step {hB h : Hp} {of : Int → List Arc × Int} {Sh : List Int → List Nat → Hp → Prop} {fv : Value} (A : ArcsOk hB fv of Sh) {Lv ev : Value} {L E : List Int} {bv be : List Nat} {n : Nat} (I : NearI hB Sh Lv L bv ev E be n h) (hn : n ≤ 8000) (start to : Int) {R : Value → Hp → Prop}
    (hR : ∀ h', NearI hB Sh Lv L bv ev E be (n + 1) h' → R (hopsV (searchF (srHops of to) start)) h') : CallsH Tryd.prog 18 #[fv, .int .i64 start, .int .i64 to] h R := by
  obtain ⟨a, B, hs, ha, oL, nL, oE, nE, F, hb⟩ := I
  refine hops_spec A hs (by omega) start to fun h' B' hs' f hB' => hR h' ⟨_, B', hs', ?_, oL.fr f nL, fun b hb' hb2 => ?_, oE.fr f nE, fun b hb' hb2 => ?_, F.news f hb, fun b hb' => ?_⟩
  · have := asks_len (S := srHops of to) (start := start)
    simp; omega
  · rcases hB' b hb2 with h | h
    · exact nL b hb' h
    · have := oL.lt b hb'; omega
  · rcases hB' b hb2 with h | h
    · exact nE b hb' h
    · have := oE.lt b hb'; omega
  · rcases hB' b hb' with h | h
    · exact hb b h
    · have := F.size; omega
theorem own_read {h : Hp} {v : Value} {l : List Int} {bl : List Nat} (o : OwnS h 2 1 v (ints l) bl) {i : Nat} (hi : i < l.length) : ∃ b o', idxE 1 v (.int .i64 (i : Int)) = some (.pointer (some ⟨b, o', none⟩)) ∧ ldS h (.pointer (some ⟨b, o', none⟩)) = some (.int .i64 l[i]) := ints_read o.rowv (by simp [hi])
theorem own_len {h : Hp} {v : Value} {l : List Int} {bl : List Nat} (o : OwnS h 2 1 v (ints l) bl) : lenE v = some (.int .i64 l.length) := ints_len o.rowv

def N1 (hB : Hp) (Sh : List Int → List Nat → Hp → Prop) (Lv : Value) (st : List Seen) (bv : List Nat) (ev : Value) (E : List Int) (be : List Nat) (vs : List Value) (h : Hp) : Prop :=
  ∃ i : Nat, vs = [.int .i64 (if i = 0 then 0 else (snth st (i - 1)).sum), .int .i64 i] ∧ i ≤ st.length ∧ NearI hB Sh Lv (ids st) bv ev E be (i + 1) h
def N2 (hB : Hp) (Sh : List Int → List Nat → Hp → Prop) (Lv : Value) (L : List Int) (bv : List Nat) (ev : Value) (E : List Int) (be : List Nat) (vs : List Value) (h : Hp) : Prop :=
  ∃ i : Nat, vs = [.int .i64 i] ∧ i ≤ E.length ∧ NearI hB Sh Lv L bv ev E be (1001 + i) h
def N3 (L : List Int) (e : Int) (h : Hp) (vs : List Value) (h' : Hp) : Prop := ∃ i : Nat, vs = [.bool (decide (e ∈ L.take i)), .int .i64 i] ∧ i ≤ L.length ∧ h' = h

theorem near_L3 {h : Hp} {Lv ev : Value} {L E : List Int} {bv be : List Nat} (oL : OwnS h 2 1 Lv (ints L) bv) (oE : OwnS h 2 1 ev (ints E) be) (hL : L.length ≤ 4096) {k : Nat} (hk : k < E.length) {R : Value → Hp → Prop} {I2 : List Value → Hp → Prop} {μ2 : List Value → Hp → Nat} {h9 : Hp} {hit : Bool} {sum most : Int}
    (hiff : (hit = true ∧ sum ≤ most) ↔ E[k] ∈ L) (hkE : k ≤ 1048576) (hI : I2 [.int .i64 ((k + 1 : Nat) : Int)] h ∧ μ2 [.int .i64 ((k + 1 : Nat) : Int)] h < μ2 [.int .i64 (k : Int)] h9) :
    f6.L3 h Lv ev (.int .i64 (k : Int)) (.int .i64 0) (.bool hit) (.int .i64 sum) (.int .i64 most) R I2 μ2 h9 := by
  unfold f6.L3
  refine ⟨N3 L E[k] h, muF L.length, ⟨0, by simp, by omega, rfl⟩, ?_⟩
  intro t136_1 t137_1 t138_1 t139_1 t142_1 t143_1 t144_1 t145_1 t146_1 t147_1 t148_1 t149_1 t150_1 t151_1 t152_1 t153_1 t21_1 t140_1 t141_1 t22_1 h11
  rintro ⟨i, hv, hi, rfl⟩
  obtain ⟨rfl, rfl⟩ : t21_1 = .bool (decide (E[k] ∈ L.take i)) ∧ t22_1 = .int .i64 i := by simpa using hv
  obtain ⟨b2, o2, e2, r2⟩ := own_read oE hk
  simp only [own_len oL, bnd_some, bin_lss, condT_bool]
  by_cases hlt : i < L.length
  · have hdec : decide ((i : Int) < (L.length : Int)) = true := by simp; omega
    obtain ⟨b1, o1, e1, r1⟩ := own_read oL hlt
    have hnext : L.take (i + 1) = L.take i ++ [L[i]] := by rw [List.take_add_one, List.getElem?_eq_getElem hlt]; rfl
    have fin : ∀ b : Bool, b = decide (E[k] ∈ L.take (i + 1)) → N3 L E[k] h11 [.bool b, .int .i64 ((i + 1 : Nat) : Int)] h11 ∧ muF L.length [.bool b, .int .i64 ((i + 1 : Nat) : Int)] h11 < muF L.length [.bool (decide (E[k] ∈ L.take i)), .int .i64 (i : Int)] h11 := fun b hb => by
      subst hb
      exact ⟨⟨i + 1, rfl, by omega, rfl⟩, by simp only [muF, Int.toNat_natCast]; omega⟩
    by_cases hin : E[k] ∈ L.take i
    · have h1 : decide (E[k] ∈ L.take i) = true := decide_eq_true hin
      have := fin true (decide_eq_true (by rw [hnext]; exact List.mem_append_left _ hin)).symm
      rw [h1] at this ⊢
      simp only [hdec, if_true, isB_bool, show (true == false) = false from rfl, cond_false, bnd_some, asB_bool, Option.map_some, cond_true, bin_add, w_suc (show i ≤ 1048576 by omega)]
      exact this
    · have h1 : decide (E[k] ∈ L.take i) = false := decide_eq_false hin
      have := fin (decide (L[i] = E[k])) (decide_eq_decide.2 ⟨fun e => by rw [hnext, ← e]; exact List.mem_append_right _ (List.mem_singleton.2 rfl), fun h => by
        rw [hnext] at h
        rcases List.mem_append.1 h with h | h
        · exact absurd h hin
        · exact (List.mem_singleton.1 h).symm⟩)
      rw [h1] at this ⊢
      simp only [hdec, if_true, isB_bool, beq_self_eq_true, cond_true, e1, r1, e2, r2, bnd_some, bin_eql, asB_bool, Option.map_some, cond_false, bin_add, w_suc (show i ≤ 1048576 by omega)]
      exact this
  · have hdec : decide ((i : Int) < (L.length : Int)) = false := by simp; omega
    obtain rfl : i = L.length := by omega
    rw [List.take_length]
    simp only [hdec, Bool.false_eq_true, if_false, bin_neq, ne_eq, not_true_eq_false, decide_false, bnd_some, isB_bool, beq_self_eq_true, cond_true]
    have hw : (fun K => K) (I2 [.int .i64 ((k + 1 : Nat) : Int)] h11 ∧ μ2 [.int .i64 ((k + 1 : Nat) : Int)] h11 < μ2 [.int .i64 (k : Int)] h9) := hI
    cases hit
    · have h1 : decide (E[k] ∈ L) = false := decide_eq_false fun h => by have := hiff.2 h; simp at this
      simpa [h1, w_suc hkE, isB_undef] using hI
    · by_cases hle : sum ≤ most
      · have h1 : decide (E[k] ∈ L) = true := decide_eq_true (hiff.1 ⟨rfl, hle⟩)
        simpa [h1, hle, w_suc hkE, isB_undef] using hI
      · have h1 : decide (E[k] ∈ L) = false := decide_eq_false fun h => hle (hiff.2 h).2
        simpa [h1, hle, w_suc hkE, isB_undef] using hI
end Go.Proofs.YtkiakofohkecaaaDoor
