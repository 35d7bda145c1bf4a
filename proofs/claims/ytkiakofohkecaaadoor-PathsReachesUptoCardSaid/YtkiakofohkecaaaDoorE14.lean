/- The plain law of the search, its steps: a thing is taken from the heap; an arc is looked at. No program is in sight. No condition but those each theorem states. -/
import Derived.Test.YtkiakofohkecaaaDoorE13
namespace Go.Proofs.YtkiakofohkecaaaDoor
open Go Go.Fw

theorem Seen.ext' {a b : Seen} (h1 : a.id = b.id) (h2 : a.sum = b.sum) : a = b := by cases a; cases b; simp_all

theorem erase_perm : ∀ {l : List Seen} {i : Nat} (hi : i < l.length), l.Perm ([l[i]] ++ l.eraseIdx i)
  | [], i, hi => absurd hi (by simp)
  | a :: l, 0, _ => by simp
  | a :: l, i + 1, hi => by
    have hi' : i < l.length := by simpa using hi
    simp only [List.getElem_cons_succ, List.eraseIdx_cons_succ, List.singleton_append]
    exact ((erase_perm hi').cons a).trans (List.Perm.swap _ _ _)
section
variable {start : Int} {hops : Bool} {st nr : List Seen} {its : List Item} {M : List (Int × Mark)} {log : List (Seen × Arc)}

theorem Sim.empty (H : Sim start hops st nr [] M log) : nr = [] := by
  cases nr with
  | nil => rfl
  | cons s l => obtain ⟨x, hx, _⟩ := H.item s (by simp); simp at hx

theorem Sim.stale {x : Item} {rest : List Item} (H : Sim start hops st nr (x :: rest) M log) {k : Mark} (hk : gget M x.tag = some k) (hs : k.done = true ∨ k.sum ≠ x.key) : Sim start hops st nr (popped ltOffer (x :: rest)) M log := by
  have hp := pop_perm ltOffer x rest
  refine ⟨H.dist, H.near, H.fin, H.only, fun s hs' => ?_, fun y hy => H.mark y (hp.subset (by simp [hy])), pop_ok ord_offer H.heap, H.low, H.top, H.logs, H.via, H.zero⟩
  obtain ⟨y, hy, e1, e2⟩ := H.item s hs'
  rcases List.mem_cons.1 (hp.symm.subset hy) with rfl | hy'
  · obtain ⟨f, e, hg⟩ := H.near s hs'
    rw [e2, hg] at hk
    obtain rfl := Option.some.inj hk
    rcases hs with hs | hs
    · simp at hs
    · exact absurd e1.symm hs
  · exact ⟨y, hy', e1, e2⟩

theorem Sim.fresh {x : Item} {rest : List Item} (H : Sim start hops st nr (x :: rest) M log) {k : Mark} (hk : gget M x.tag = some k) (hd : k.done = false) (hs : k.sum = x.key) :
    nr ≠ [] ∧ snth nr (leastI nr) = ⟨x.tag, x.key⟩ ∧ Sim start hops (st ++ [⟨x.tag, x.key⟩]) (nr.eraseIdx (leastI nr)) (popped ltOffer (x :: rest)) (gset M x.tag { k with done := true }) log ∧
    (∀ s ∈ st ++ [⟨x.tag, x.key⟩], s.sum ≤ x.key) ∧ (∀ t ∈ nr.eraseIdx (leastI nr), x.key ≤ t.sum) ∧ (hops = true → x.key + 1 ≤ (st ++ [(⟨x.tag, x.key⟩ : Seen)]).length) := by
  have hp := pop_perm ltOffer x rest
  obtain ⟨s, hm, hi, hsum⟩ := H.only _ _ hk
  rw [hd] at hm
  have hm : s ∈ nr := by simpa using hm
  obtain rfl : s = ⟨x.tag, x.key⟩ := Seen.ext' hi (by rw [hsum, hs])
  have hdn : (ids nr).Nodup := by
    have := H.dist
    rw [ids, List.map_append, List.nodup_append] at this
    exact this.2.1
  obtain ⟨i, hil, hie⟩ := List.mem_iff_getElem.1 hm
  have hmin : ∀ t ∈ nr, lessS t ⟨x.tag, x.key⟩ = false := fun t ht => by
    obtain ⟨y, hy, e1, e2⟩ := H.item t ht
    obtain ⟨j, hj, rfl⟩ := List.mem_iff_getElem.1 hy
    have := root_first ord_offer H.heap j hj
    rw [nth_get hj, nth_get (show 0 < (x :: rest).length by simp)] at this
    simp only [List.getElem_cons_zero] at this
    simp [aheadB, ltOffer] at this
    simp [lessS]
    omega
  have hL : LeastTo nr nr.length i := ⟨hil, fun j hj => by rw [snth_get hj, snth_get hil, hie]; exact hmin _ (List.getElem_mem hj)⟩
  have hI := leastI_eq hdn hL
  have hperm : (st ++ nr).Perm ((st ++ [⟨x.tag, x.key⟩]) ++ nr.eraseIdx i) := by
    rw [List.append_assoc]
    refine List.Perm.append_left _ ?_
    rw [← hie]
    exact erase_perm hil
  have hle : ∀ t ∈ nr, x.key ≤ t.sum := fun t ht => by have := hmin t ht; simp [lessS] at this; omega
  have hne : ∀ s ∈ st, s.id ≠ x.tag := fun s hs' e => by
    have := H.dist
    rw [ids, List.map_append, List.nodup_append] at this
    exact this.2.2 s.id (List.mem_map_of_mem hs') x.tag (List.mem_map.2 ⟨_, hm, rfl⟩) e
  have her : ∀ t ∈ nr.eraseIdx i, t ∈ nr := fun t ht => List.mem_of_mem_eraseIdx ht
  have hd' : (ids ((st ++ [⟨x.tag, x.key⟩]) ++ nr.eraseIdx i)).Nodup := (List.Perm.map (fun s : Seen => s.id) hperm).nodup_iff.1 H.dist
  have hne2 : ∀ t ∈ nr.eraseIdx i, t.id ≠ x.tag := fun t ht e => by
    rw [ids, List.map_append, List.nodup_append] at hd'
    exact hd'.2.2 x.tag (by simp) t.id (List.mem_map_of_mem ht) e.symm
  have htop := H.top ⟨x.tag, x.key⟩ (by simp [hm])
  refine ⟨List.ne_nil_of_mem hm, by rw [hI, snth_get hil, hie], ?_, ?_, ?_, ?_⟩
  · rw [hI]
    refine ⟨hd', fun t ht => ?_, fun s hs' => ?_, fun id k' hk' => ?_, fun t ht => ?_, fun y hy => ?_, pop_ok ord_offer H.heap, fun s hs' t ht => ?_, fun s hs' => ?_, fun p hp' => ?_, fun id k' hk' hne' => ?_, ?_⟩
    · rw [gget_set, if_neg (hne2 t ht)]; exact H.near t (her t ht)
    · rw [gget_set]
      rcases List.mem_append.1 hs' with hs' | hs'
      · rw [if_neg (hne s hs')]; exact H.fin s hs'
      · simp at hs'; subst hs'; exact ⟨k.from_, k.edge, by simp [hs]⟩
    · rw [gget_set] at hk'
      split at hk'
      · rename_i e
        obtain rfl := Option.some.inj hk'
        exact ⟨⟨x.tag, x.key⟩, by simp, e.symm, hs.symm⟩
      · rename_i e
        obtain ⟨s, hs', e1, e2⟩ := H.only _ _ hk'
        refine ⟨s, ?_, e1, e2⟩
        cases hkd : k'.done <;> rw [hkd] at hs'
        · have hs' : s ∈ nr := by simpa using hs'
          obtain ⟨j, hj, rfl⟩ := List.mem_iff_getElem.1 hs'
          have hji : j ≠ i := fun e' => by subst e'; rw [hie] at e1; exact e e1.symm
          simp only [Bool.false_eq_true, if_false]
          exact List.mem_eraseIdx_iff_getElem.2 ⟨j, hj, hji, rfl⟩
        · simp only [if_true] at hs' ⊢; simp [hs']
    · obtain ⟨y, hy, e1, e2⟩ := H.item t (her t ht)
      rcases List.mem_cons.1 (hp.symm.subset hy) with rfl | hy'
      · exact absurd e2.symm (hne2 t ht)
      · exact ⟨y, hy', e1, e2⟩
    · rw [gget_set]
      split
      · exact ⟨_, rfl⟩
      · exact H.mark y (hp.subset (by simp [hy]))
    · rcases List.mem_append.1 hs' with hs' | hs'
      · exact H.low s hs' t (her t ht)
      · simp at hs'; subst hs'; exact hle t (her t ht)
    · have := H.top s (hperm.symm.subset hs')
      refine ⟨this.1, this.2.1, fun hh => ?_⟩
      have := this.2.2 hh
      simp; omega
    · obtain ⟨k', e1, e2⟩ := H.logs p hp'
      rw [gget_set]
      split
      · rename_i e
        rw [e, hk] at e1
        obtain rfl := Option.some.inj e1
        exact ⟨_, rfl, e2⟩
      · exact ⟨k', e1, e2⟩
    · rw [gget_set] at hk'
      split at hk'
      · rename_i e
        obtain rfl := Option.some.inj hk'
        subst e
        exact H.via _ k hk hne'
      · exact H.via _ _ hk' hne'
    · obtain ⟨e, hz⟩ := H.zero
      rw [gget_set]
      split
      · rename_i e'
        rw [e', hk] at hz
        obtain rfl := Option.some.inj hz
        exact ⟨true, rfl⟩
      · exact ⟨e, hz⟩
  · intro s hs'
    rcases List.mem_append.1 hs' with hs' | hs'
    · exact H.low s hs' _ hm
    · simp at hs'; subst hs'; exact Int.le_refl _
  · rw [hI]; exact fun t ht => hle t (her t ht)
  · intro hh
    have := htop.2.2 hh
    simp at this ⊢; omega

/-- An arc that changes nothing. -/
theorem Sim.skip (H : Sim start hops st nr its M log) {at_ : Seen} (hm : at_ ∈ st) {a : Arc} {k : Mark} (hk : gget M a.to = some k) (hle : k.sum ≤ at_.sum + wt hops a) :
    Sim start hops st nr its M (log ++ [(at_, a)]) ∧ (if ∃ s ∈ st, s.id = a.to then nr else sightL nr a.to (at_.sum + wt hops a)) = nr := by
  have hdn : (ids nr).Nodup := by
    have := H.dist
    rw [ids, List.map_append, List.nodup_append] at this
    exact this.2.1
  refine ⟨⟨H.dist, H.near, H.fin, H.only, H.item, H.mark, H.heap, H.low, H.top, fun p hp => ?_, fun id k' hk' hne => ?_, H.zero⟩, ?_⟩
  · rcases List.mem_append.1 hp with hp | hp
    · exact H.logs p hp
    · simp at hp; subst hp; exact ⟨k, hk, hle⟩
  · obtain ⟨p, e, h⟩ := H.via id k' hk' hne
    exact ⟨p, by rw [List.find?_append, e]; rfl, h⟩
  · split
    · rfl
    · rename_i hno
      obtain ⟨s, hs, e1, e2⟩ := H.only _ _ hk
      have hs : s ∈ nr := by
        cases hkd : k.done <;> rw [hkd] at hs
        · simpa using hs
        · exact absurd ⟨s, by simpa using hs, e1⟩ hno
      rcases sight_cases hdn a.to (at_.sum + wt hops a) with ⟨_, h⟩ | ⟨h, _⟩
      · exact h
      · have := h s hs e1; omega

/-- An arc that leads to a node not seen before, or with less. -/
theorem Sim.take (H : Sim start hops st nr its M log) {at_ : Seen} (hm : at_ ∈ st) (hat : ∀ s ∈ st, s.sum ≤ at_.sum) (hnr : ∀ t ∈ nr, at_.sum ≤ t.sum) (hh : hops = true → at_.sum + 1 ≤ st.length) {a : Arc} (h0 : 0 ≤ wt hops a) (hf : wt hops a ≤ 1099511627776 - at_.sum)
    (hk : ∀ k, gget M a.to = some k → at_.sum + wt hops a < k.sum) (ck : Int) :
    Sim start hops st (if ∃ s ∈ st, s.id = a.to then nr else sightL nr a.to (at_.sum + wt hops a)) (siftUp ltOffer (its ++ [⟨at_.sum + wt hops a, a.to, ck⟩]) its.length) (gset M a.to ⟨at_.sum + wt hops a, at_.id, a.edge, false⟩) (log ++ [(at_, a)]) ∧
    (∀ t ∈ (if ∃ s ∈ st, s.id = a.to then nr else sightL nr a.to (at_.sum + wt hops a)), at_.sum ≤ t.sum) := by
  have hdn : (ids nr).Nodup := by
    have := H.dist
    rw [ids, List.map_append, List.nodup_append] at this
    exact this.2.1
  have hdd : ∀ s ∈ st, ∀ t ∈ nr, s.id ≠ t.id := fun s hs t ht => by
    have := H.dist
    rw [ids, List.map_append, List.nodup_append] at this
    exact this.2.2 s.id (List.mem_map_of_mem hs) t.id (List.mem_map_of_mem ht)
  have hno : ¬ ∃ s ∈ st, s.id = a.to := fun ⟨s, hs, e⟩ => by
    obtain ⟨f, ed, hg⟩ := H.fin s hs
    have := hk _ (by rw [← e]; exact hg)
    have := hat s hs
    simp only at *
    omega
  rw [if_neg hno]
  obtain ⟨hnd, hmem⟩ : (ids (sightL nr a.to (at_.sum + wt hops a))).Nodup ∧ (∀ s, s ∈ sightL nr a.to (at_.sum + wt hops a) ↔ (s ∈ nr ∧ s.id ≠ a.to) ∨ s = ⟨a.to, at_.sum + wt hops a⟩) := by
    rcases sight_cases hdn a.to (at_.sum + wt hops a) with ⟨⟨s, hs, e, hle⟩, _⟩ | ⟨_, h1, h2⟩
    · obtain ⟨f, ed, hg⟩ := H.near s hs
      have := hk _ (by rw [← e]; exact hg)
      simp only at this
      omega
    · exact ⟨h1, h2⟩
  have hp := push_perm ltOffer its ⟨at_.sum + wt hops a, a.to, ck⟩
  have h0s : 0 ≤ at_.sum := (H.top at_ (by simp [hm])).1
  have hstart : a.to ≠ start := fun e => by
    obtain ⟨ed, hz⟩ := H.zero
    have := hk _ (by rw [e]; exact hz)
    simp only at this
    omega
  have hlow : ∀ t ∈ sightL nr a.to (at_.sum + wt hops a), at_.sum ≤ t.sum := fun t ht => by
    rcases (hmem t).1 ht with ⟨ht, _⟩ | rfl
    · exact hnr t ht
    · simp only; omega
  have hheap := push_ok ord_offer H.heap ⟨at_.sum + wt hops a, a.to, ck⟩
  generalize sightL nr a.to (at_.sum + wt hops a) = nr' at *
  generalize siftUp ltOffer (its ++ [⟨at_.sum + wt hops a, a.to, ck⟩]) its.length = its' at *
  generalize hw : at_.sum + wt hops a = w at *
  refine ⟨⟨?_, fun s hs => ?_, fun s hs => ?_, fun id k hk' => ?_, fun s hs => ?_, fun x hx => ?_, hheap, fun s hs t ht => ?_, fun s hs => ?_, fun p hp' => ?_, fun id k hk' hne => ?_, ?_⟩, hlow⟩
  · rw [ids, List.map_append, List.nodup_append]
    refine ⟨?_, hnd, fun x hx y hy e => ?_⟩
    · have := H.dist
      rw [ids, List.map_append, List.nodup_append] at this
      exact this.1
    · obtain ⟨s, hs, rfl⟩ := List.mem_map.1 hx
      obtain ⟨t, ht, rfl⟩ := List.mem_map.1 hy
      rcases (hmem t).1 ht with ⟨ht, _⟩ | rfl
      · exact hdd s hs t ht e
      · exact hno ⟨s, hs, e⟩
  · rw [gget_set]
    rcases (hmem s).1 hs with ⟨hs, hn⟩ | rfl
    · rw [if_neg hn]; exact H.near s hs
    · exact ⟨_, _, by simp; exact ⟨rfl, rfl⟩⟩
  · rw [gget_set, if_neg (fun e => hno ⟨s, hs, e⟩)]; exact H.fin s hs
  · rw [gget_set] at hk'
    split at hk'
    · rename_i e
      obtain rfl := Option.some.inj hk'
      exact ⟨⟨a.to, w⟩, by simp [hmem], e.symm, rfl⟩
    · rename_i e
      obtain ⟨s, hs, e1, e2⟩ := H.only _ _ hk'
      refine ⟨s, ?_, e1, e2⟩
      cases hkd : k.done <;> rw [hkd] at hs
      · simp only [Bool.false_eq_true, if_false] at hs ⊢
        exact (hmem s).2 (.inl ⟨hs, by rw [e1]; exact e⟩)
      · exact hs
  · rcases (hmem s).1 hs with ⟨hs, _⟩ | rfl
    · obtain ⟨x, hx, h⟩ := H.item s hs
      exact ⟨x, hp.symm.subset (by simp [hx]), h⟩
    · exact ⟨⟨w, a.to, ck⟩, hp.symm.subset (by simp), rfl, rfl⟩
  · rw [gget_set]
    split
    · exact ⟨_, rfl⟩
    · rename_i e
      rcases List.mem_cons.1 (hp.subset hx) with rfl | hx
      · exact absurd rfl e
      · exact H.mark x hx
  · exact Int.le_trans (hat s hs) (hlow t ht)
  · rcases List.mem_append.1 hs with hs | hs
    · exact H.top s (by simp [hs])
    · rcases (hmem s).1 hs with ⟨hs, _⟩ | rfl
      · exact H.top s (by simp [hs])
      · refine ⟨by simp only; omega, by simp only; omega, fun h => ?_⟩
        have := hh h
        have : wt hops a = 1 := by simp [wt, h]
        simp only; omega
  · rw [gget_set]
    rcases List.mem_append.1 hp' with hp' | hp'
    · obtain ⟨k, e1, e2⟩ := H.logs p hp'
      split
      · rename_i e
        rw [e] at e1
        have := hk k e1
        exact ⟨_, rfl, by simp only; omega⟩
      · exact ⟨k, e1, e2⟩
    · simp at hp'; subst hp'
      exact ⟨_, by simp; rfl, by simp [hw]⟩
  · rw [gget_set] at hk'
    split at hk'
    · rename_i e
      obtain rfl := Option.some.inj hk'
      have hnone : log.find? (fun p => p.2.to == id && p.1.sum + wt hops p.2 == w) = none := List.find?_eq_none.2 fun p hp' => by
        obtain ⟨k, e1, e2⟩ := H.logs p hp'
        simp only [Bool.and_eq_true, beq_iff_eq, not_and]
        intro h1 h2
        have := hk k (by rw [← e, ← h1]; exact e1)
        omega
      exact ⟨(at_, a), by rw [List.find?_append, hnone]; simp [e, hw], rfl, rfl⟩
    · obtain ⟨p, e, h⟩ := H.via id k hk' hne
      exact ⟨p, by rw [List.find?_append, e]; rfl, h⟩
  · obtain ⟨e, hz⟩ := H.zero
    exact ⟨e, by rw [gget_set, if_neg (fun e => hstart e.symm)]; exact hz⟩
end
end Go.Proofs.YtkiakofohkecaaaDoor
