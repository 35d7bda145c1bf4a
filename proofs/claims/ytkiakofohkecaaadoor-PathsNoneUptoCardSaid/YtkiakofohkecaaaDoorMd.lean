/- The plain law of the search: what the document's search gives, as one function; the state of the program's search, and that it goes the same way, step by step. No program is in sight. No condition but those each theorem states. -/
import Derived.Test.YtkiakofohkecaaaDoorMc
import Derived.Test.YtkiakofohkecaaaDoorMb
namespace Go.Proofs.YtkiakofohkecaaaDoor
open Go Go.Fw

/-! ## lists of keys and things -/
def gget {α : Type} (m : List (Int × α)) (k : Int) : Option α := (m.find? fun x => x.1 == k).map (·.2)
def gset {α : Type} (m : List (Int × α)) (k : Int) (v : α) : List (Int × α) :=
  match m.findIdx? fun x => x.1 == k with
  | some i => m.modify i fun _ => (k, v)
  | none => m ++ [(k, v)]
theorem find_map {α β : Type} (f : α → β) (m : List (Int × α)) (k : Int) : (m.map fun x => (x.1, f x.2)).find? (fun x => x.1 == k) = (m.find? fun x => x.1 == k).map fun x => (x.1, f x.2) := by
  induction m with
  | nil => rfl
  | cons x m ih => by_cases h : (x.1 == k) = true <;> simp [h, ih]
theorem findIdx_map {α β : Type} (f : α → β) (m : List (Int × α)) (k : Int) : (m.map fun x => (x.1, f x.2)).findIdx? (fun x => x.1 == k) = m.findIdx? fun x => x.1 == k := by
  induction m with
  | nil => rfl
  | cons x m ih => by_cases h : (x.1 == k) = true <;> simp [List.findIdx?_cons, h, ih]
theorem mget_map {α : Type} (f : α → Value) (m : List (Int × α)) (k : Int) : mget (m.map fun x => (x.1, f x.2)) k = (gget m k).map f := by
  simp only [mget, gget, find_map, Option.map_map]; rfl
theorem mset_map {α : Type} (f : α → Value) (m : List (Int × α)) (k : Int) (v : α) : mset (m.map fun x => (x.1, f x.2)) k (f v) = (gset m k v).map fun x => (x.1, f x.2) := by
  simp only [mset, gset, findIdx_map]
  cases h : m.findIdx? fun x => x.1 == k with
  | none => simp
  | some i =>
    apply List.ext_getElem?
    intro j
    simp only [List.getElem?_map, List.getElem?_modify]
    by_cases hij : i = j
    · subst hij; cases m[i]? <;> simp
    · simp [hij]
theorem gget_set {α : Type} (k : Int) (v : α) : ∀ (m : List (Int × α)) (j : Int), gget (gset m k v) j = if j = k then some v else gget m j
  | [], j => by
    by_cases h : j = k
    · subst h; simp [gget, gset]
    · have : (k == j) = false := by simpa using fun e => h e.symm
      simp [gget, gset, h, this]
  | x :: m, j => by
    have ih := gget_set k v m j
    by_cases hx : x.1 = k
    · have e : gset (x :: m) k v = (k, v) :: m := by simp [gset, List.findIdx?_cons, hx]
      rw [e]
      by_cases h : j = k
      · subst h; simp [gget]
      · have h1 : (k == j) = false := by simpa using fun e => h e.symm
        have h2 : (x.1 == j) = false := by rw [hx]; exact h1
        simp [gget, h, h1, h2]
    · have hx' : (x.1 == k) = false := by simpa using hx
      have e : gset (x :: m) k v = x :: gset m k v := by
        simp only [gset, List.findIdx?_cons, hx', Bool.false_eq_true, if_false]
        cases h : m.findIdx? fun x => x.1 == k <;> simp
      rw [e]
      by_cases hj : x.1 = j
      · have : ¬ j = k := fun e => hx (by rw [hj, e])
        simp [gget, hj, this]
      · have hj' : (x.1 == j) = false := by simpa using hj
        have e2 : ∀ l : List (Int × α), gget (x :: l) j = gget l j := fun l => by simp [gget, hj']
        rw [e2, e2, ih]

/-! ## the document's search -/
structure Sr where
  of : Int → List Arc × Int
  over : Int → Bool
  asks : Int → Bool
  hops : Bool
structure Fd where
  settled : List Seen
  asked : List Int
  code : Int
  hit : Bool
def wt (hops : Bool) (a : Arc) : Int := if hops then 1 else a.weight
def arcsL (hops : Bool) (st : List Seen) (sum : Int) : List Arc → List Seen → Int × List Seen
  | [], nr => (0, nr)
  | a :: l, nr =>
    if wt hops a < 0 then (90, nr) else if 1099511627776 - sum < wt hops a then (91, nr)
    else arcsL hops st sum l (if ∃ s ∈ st, s.id = a.to then nr else sightL nr a.to (sum + wt hops a))
noncomputable def leastI (l : List Seen) : Nat := open Classical in if h : ∃ k, LeastTo l l.length k then h.choose else 0
def settleF (S : Sr) (k : List Seen → List Seen → List Int → Fd) (at_ : Seen) (st nr : List Seen) (asked : List Int) : Fd :=
  if S.over at_.id then ⟨st ++ [at_], asked, 0, true⟩
  else if S.asks at_.sum then
    if (S.of at_.id).2 ≠ 0 then ⟨st ++ [at_], asked ++ [at_.id], (S.of at_.id).2, false⟩
    else if (arcsL S.hops (st ++ [at_]) at_.sum (S.of at_.id).1 nr).1 ≠ 0 then ⟨st ++ [at_], asked ++ [at_.id], (arcsL S.hops (st ++ [at_]) at_.sum (S.of at_.id).1 nr).1, false⟩
    else k (st ++ [at_]) (arcsL S.hops (st ++ [at_]) at_.sum (S.of at_.id).1 nr).2 (asked ++ [at_.id])
  else k (st ++ [at_]) nr asked
noncomputable def restF (S : Sr) : Nat → List Seen → List Seen → List Int → Fd
  | 0, st, nr, asked => if nr = [] then ⟨st, asked, 0, false⟩ else ⟨st, asked, 92, false⟩
  | n + 1, st, nr, asked => if nr = [] then ⟨st, asked, 0, false⟩ else settleF S (restF S n) (snth nr (leastI nr)) st (nr.eraseIdx (leastI nr)) asked
/-- What the search from a node comes to. -/
noncomputable def searchF (S : Sr) (start : Int) : Fd := settleF S (restF S 4095) ⟨start, 0⟩ [] [] []

/-! ## nodes in sight, each once -/
def ids (l : List Seen) : List Int := l.map (·.id)
theorem snth_mem {l : List Seen} {k : Nat} (h : k < l.length) : snth l k ∈ l := by rw [snth_get h]; exact List.getElem_mem h
theorem ids_at {l : List Seen} (hd : (ids l).Nodup) {i j : Nat} (hi : i < l.length) (hj : j < l.length) (e : l[i].id = l[j].id) : i = j := by
  have h := List.pairwise_iff_getElem.1 hd
  rcases Nat.lt_trichotomy i j with h1 | h1 | h1
  · exact absurd (by simpa [ids] using e) (h i j (by simpa [ids] using hi) (by simpa [ids] using hj) h1)
  · exact h1
  · exact absurd (by simpa [ids] using e.symm) (h j i (by simpa [ids] using hj) (by simpa [ids] using hi) h1)
theorem ids_inj {l : List Seen} (hd : (ids l).Nodup) {a b : Seen} (ha : a ∈ l) (hb : b ∈ l) (e : a.id = b.id) : a = b := by
  obtain ⟨i, hi, rfl⟩ := List.mem_iff_getElem.1 ha
  obtain ⟨j, hj, rfl⟩ := List.mem_iff_getElem.1 hb
  have := ids_at hd hi hj e
  subst this; rfl
theorem least_one {l : List Seen} (hd : (ids l).Nodup) {i j : Nat} (hi : LeastTo l l.length i) (hj : LeastTo l l.length j) : i = j := by
  have h1 := hi.2 j hj.1
  have h2 := hj.2 i hi.1
  have e : (snth l i).id = (snth l j).id := by simp [lessS] at h1 h2; omega
  rw [snth_get hi.1, snth_get hj.1] at e
  exact ids_at hd hi.1 hj.1 e
theorem leastI_eq {l : List Seen} (hd : (ids l).Nodup) {i : Nat} (hi : LeastTo l l.length i) : leastI l = i := by
  have h : ∃ k, LeastTo l l.length k := ⟨i, hi⟩
  unfold leastI
  rw [dif_pos h]
  exact least_one hd h.choose_spec hi
theorem sight_mem {l : List Seen} {id sum : Int} {s : Seen} (h : s ∈ sightL l id sum) : s ∈ l ∨ s = ⟨id, sum⟩ := by
  unfold sightL at h
  split at h
  · split at h
    · exact (List.mem_or_eq_of_mem_set h)
    · exact .inl h
  · simpa using h
theorem sight_cases {l : List Seen} (hd : (ids l).Nodup) (id sum : Int) :
    ((∃ s ∈ l, s.id = id ∧ s.sum ≤ sum) ∧ sightL l id sum = l) ∨
    ((∀ s ∈ l, s.id = id → sum < s.sum) ∧ (ids (sightL l id sum)).Nodup ∧ (∀ s, s ∈ sightL l id sum ↔ (s ∈ l ∧ s.id ≠ id) ∨ s = ⟨id, sum⟩)) := by
  cases hf : l.findIdx? (fun s => s.id == id) with
  | none =>
    have hno : ∀ s ∈ l, s.id ≠ id := by simpa [List.findIdx?_eq_none_iff] using hf
    refine .inr ⟨fun s hs e => absurd e (hno s hs), ?_, fun s => ?_⟩
    · simp only [sightL, hf, ids, List.map_append, List.map_cons, List.map_nil]
      refine List.nodup_append.2 ⟨hd, by simp, fun a ha b hb e => ?_⟩
      obtain ⟨s, hs, rfl⟩ := List.mem_map.1 ha
      simp at hb
      exact hno s hs (by rw [e, hb])
    · simp only [sightL, hf, List.mem_append, List.mem_singleton]
      exact ⟨fun h => h.imp (fun h => ⟨h, hno s h⟩) (fun h => h), fun h => h.imp And.left (fun h => h)⟩
  | some i =>
    obtain ⟨hi, hp, _⟩ := List.findIdx?_eq_some_iff_getElem.1 hf
    have hp : l[i].id = id := by simpa using hp
    have hs : ((l[i]?).map (·.sum)).getD 0 = l[i].sum := by simp [hi]
    by_cases hlt : sum < l[i].sum
    · refine .inr ⟨fun s hs' e => ?_, ?_, fun s => ?_⟩
      · rw [ids_inj hd hs' (List.getElem_mem hi) (by rw [e, hp])]; exact hlt
      · simp only [sightL, hf, hs, hlt, if_true, ids, List.map_set]
        have : (l.map (·.id)).set i id = l.map (·.id) := by
          apply List.ext_getElem?
          intro j
          rw [List.getElem?_set]
          by_cases hj : i = j
          · subst hj; simp [hi, hp]
          · simp [hj]
        rw [this]; exact hd
      · simp only [sightL, hf, hs, hlt, if_true]
        constructor
        · intro h
          obtain ⟨j, hj, e⟩ := List.mem_iff_getElem.1 h
          rw [List.getElem_set] at e
          by_cases hij : i = j
          · simp [hij] at e; exact .inr e.symm
          · rw [if_neg hij] at e
            subst e
            have hj' : j < l.length := by simpa using hj
            refine .inl ⟨List.getElem_mem hj', fun e => hij ?_⟩
            exact ids_at hd hi hj' (by rw [hp, e])
        · rintro (⟨h, hne⟩ | rfl)
          · obtain ⟨j, hj, rfl⟩ := List.mem_iff_getElem.1 h
            have hij : i ≠ j := fun e => hne (by subst e; exact hp)
            exact List.mem_iff_getElem.2 ⟨j, by simpa using hj, by rw [List.getElem_set_ne hij]⟩
          · exact List.mem_iff_getElem.2 ⟨i, by simpa using hi, by simp⟩
    · refine .inl ⟨⟨l[i], List.getElem_mem hi, hp, by omega⟩, ?_⟩
      simp only [sightL, hf, hs, hlt, if_false]

/-! ## the program's state -/
structure Mark where
  sum : Int
  from_ : Int
  edge : Int
  done : Bool
def Mark.val (m : Mark) : Value := .agg #[.int .i64 m.sum, .int .i64 m.from_, .int .i64 m.edge, .bool m.done]

structure Sim (start : Int) (hops : Bool) (st nr : List Seen) (its : List Item) (M : List (Int × Mark)) (log : List (Seen × Arc)) : Prop where
  dist : (ids (st ++ nr)).Nodup
  near : ∀ s ∈ nr, ∃ f e, gget M s.id = some ⟨s.sum, f, e, false⟩
  fin : ∀ s ∈ st, ∃ f e, gget M s.id = some ⟨s.sum, f, e, true⟩
  only : ∀ id k, gget M id = some k → ∃ s ∈ (if k.done then st else nr), s.id = id ∧ s.sum = k.sum
  item : ∀ s ∈ nr, ∃ x ∈ its, x.key = s.sum ∧ x.tag = s.id
  mark : ∀ x ∈ its, ∃ k, gget M x.tag = some k
  heap : HeapOk (aheadB ltOffer) its
  low : ∀ s ∈ st, ∀ t ∈ nr, s.sum ≤ t.sum
  top : ∀ s ∈ st ++ nr, 0 ≤ s.sum ∧ s.sum ≤ 1099511627776 ∧ (hops = true → s.sum ≤ st.length)
  logs : ∀ p ∈ log, ∃ k, gget M p.2.to = some k ∧ k.sum ≤ p.1.sum + wt hops p.2
  via : ∀ id k, gget M id = some k → id ≠ start → ∃ p, log.find? (fun p => p.2.to == id && p.1.sum + wt hops p.2 == k.sum) = some p ∧ k.from_ = p.1.id ∧ k.edge = p.2.edge
  zero : ∃ e, gget M start = some ⟨0, 0, 0, e⟩

/-- The start. -/
theorem Sim.start (start : Int) (hops : Bool) : Sim start hops [] [⟨start, 0⟩] (siftUp ltOffer [⟨0, start, 0⟩] 0) [(start, ⟨0, 0, 0, false⟩)] [] where
  dist := by simp [ids]
  near := by simp [gget]
  fin := (by simp)
  only := fun id k h => by
    by_cases e : start = id
    · subst e; simp [gget] at h; subst h; exact ⟨⟨start, 0⟩, by simp, rfl, rfl⟩
    · simp [gget, e] at h
  item := by simp [siftUp]
  mark := by simp [siftUp, gget]
  heap := fun j h0 hj => by simp [siftUp] at hj; omega
  low := by simp
  top := by simp
  logs := by simp
  via := fun id k h hne => by
    have : ¬ start = id := fun e => hne e.symm
    simp [gget, this] at h
  zero := ⟨false, by simp [gget]⟩
end Go.Proofs.YtkiakofohkecaaaDoor

/- The plain law of the search, its steps: a thing is taken from the heap; an arc is looked at. No program is in sight. No condition but those each theorem states. -/
namespace Go.Proofs.YtkiakofohkecaaaDoor
open Go Go.Fw

theorem Seen.ext' {a b : Seen} (h1 : a.id = b.id) (h2 : a.sum = b.sum) : a = b := by cases a; cases b; simp_all

theorem erase_perm : ∀ {l : List Seen} {i : Nat} (hi : i < l.length), l.Perm ([l[i]] ++ l.eraseIdx i)
  | [], i, hi => absurd hi (by simp)
  | a :: l, 0, _ => by simp
  | a :: l, i + 1, hi => by
    have hi' : i < l.length := by simpa using hi
    simp only [List.getElem_cons_succ, List.eraseIdx_cons_succ, List.singleton_append]
    exact ((erase_perm hi').cons a).trans (List.Perm.swap _ _ _)
section
variable {start : Int} {hops : Bool} {st nr : List Seen} {its : List Item} {M : List (Int × Mark)} {log : List (Seen × Arc)}

theorem Sim.empty (H : Sim start hops st nr [] M log) : nr = [] := by
  cases nr with
  | nil => rfl
  | cons s l => obtain ⟨x, hx, _⟩ := H.item s (by simp); simp at hx

theorem Sim.stale {x : Item} {rest : List Item} (H : Sim start hops st nr (x :: rest) M log) {k : Mark} (hk : gget M x.tag = some k) (hs : k.done = true ∨ k.sum ≠ x.key) : Sim start hops st nr (popped ltOffer (x :: rest)) M log := by
  have hp := pop_perm ltOffer x rest
  refine ⟨H.dist, H.near, H.fin, H.only, fun s hs' => ?_, fun y hy => H.mark y (hp.subset (by simp [hy])), pop_ok ord_offer H.heap, H.low, H.top, H.logs, H.via, H.zero⟩
  obtain ⟨y, hy, e1, e2⟩ := H.item s hs'
  rcases List.mem_cons.1 (hp.symm.subset hy) with rfl | hy'
  · obtain ⟨f, e, hg⟩ := H.near s hs'
    rw [e2, hg] at hk
    obtain rfl := Option.some.inj hk
    rcases hs with hs | hs
    · simp at hs
    · exact absurd e1.symm hs
  · exact ⟨y, hy', e1, e2⟩

theorem Sim.fresh {x : Item} {rest : List Item} (H : Sim start hops st nr (x :: rest) M log) {k : Mark} (hk : gget M x.tag = some k) (hd : k.done = false) (hs : k.sum = x.key) :
    nr ≠ [] ∧ snth nr (leastI nr) = ⟨x.tag, x.key⟩ ∧ Sim start hops (st ++ [⟨x.tag, x.key⟩]) (nr.eraseIdx (leastI nr)) (popped ltOffer (x :: rest)) (gset M x.tag { k with done := true }) log ∧
    (∀ s ∈ st ++ [⟨x.tag, x.key⟩], s.sum ≤ x.key) ∧ (∀ t ∈ nr.eraseIdx (leastI nr), x.key ≤ t.sum) ∧ (hops = true → x.key + 1 ≤ (st ++ [(⟨x.tag, x.key⟩ : Seen)]).length) := by
  have hp := pop_perm ltOffer x rest
  obtain ⟨s, hm, hi, hsum⟩ := H.only _ _ hk
  rw [hd] at hm
  have hm : s ∈ nr := by simpa using hm
  obtain rfl : s = ⟨x.tag, x.key⟩ := Seen.ext' hi (by rw [hsum, hs])
  have hdn : (ids nr).Nodup := by
    have := H.dist
    rw [ids, List.map_append, List.nodup_append] at this
    exact this.2.1
  obtain ⟨i, hil, hie⟩ := List.mem_iff_getElem.1 hm
  have hmin : ∀ t ∈ nr, lessS t ⟨x.tag, x.key⟩ = false := fun t ht => by
    obtain ⟨y, hy, e1, e2⟩ := H.item t ht
    obtain ⟨j, hj, rfl⟩ := List.mem_iff_getElem.1 hy
    have := root_first ord_offer H.heap j hj
    rw [nth_get hj, nth_get (show 0 < (x :: rest).length by simp)] at this
    simp only [List.getElem_cons_zero] at this
    simp [aheadB, ltOffer] at this
    simp [lessS]
    omega
  have hL : LeastTo nr nr.length i := ⟨hil, fun j hj => by rw [snth_get hj, snth_get hil, hie]; exact hmin _ (List.getElem_mem hj)⟩
  have hI := leastI_eq hdn hL
  have hperm : (st ++ nr).Perm ((st ++ [⟨x.tag, x.key⟩]) ++ nr.eraseIdx i) := by
    rw [List.append_assoc]
    refine List.Perm.append_left _ ?_
    rw [← hie]
    exact erase_perm hil
  have hle : ∀ t ∈ nr, x.key ≤ t.sum := fun t ht => by have := hmin t ht; simp [lessS] at this; omega
  have hne : ∀ s ∈ st, s.id ≠ x.tag := fun s hs' e => by
    have := H.dist
    rw [ids, List.map_append, List.nodup_append] at this
    exact this.2.2 s.id (List.mem_map_of_mem hs') x.tag (List.mem_map.2 ⟨_, hm, rfl⟩) e
  have her : ∀ t ∈ nr.eraseIdx i, t ∈ nr := fun t ht => List.mem_of_mem_eraseIdx ht
  have hd' : (ids ((st ++ [⟨x.tag, x.key⟩]) ++ nr.eraseIdx i)).Nodup := (List.Perm.map (fun s : Seen => s.id) hperm).nodup_iff.1 H.dist
  have hne2 : ∀ t ∈ nr.eraseIdx i, t.id ≠ x.tag := fun t ht e => by
    rw [ids, List.map_append, List.nodup_append] at hd'
    exact hd'.2.2 x.tag (by simp) t.id (List.mem_map_of_mem ht) e.symm
  have htop := H.top ⟨x.tag, x.key⟩ (by simp [hm])
  refine ⟨List.ne_nil_of_mem hm, by rw [hI, snth_get hil, hie], ?_, ?_, ?_, ?_⟩
  · rw [hI]
    refine ⟨hd', fun t ht => ?_, fun s hs' => ?_, fun id k' hk' => ?_, fun t ht => ?_, fun y hy => ?_, pop_ok ord_offer H.heap, fun s hs' t ht => ?_, fun s hs' => ?_, fun p hp' => ?_, fun id k' hk' hne' => ?_, ?_⟩
    · rw [gget_set, if_neg (hne2 t ht)]; exact H.near t (her t ht)
    · rw [gget_set]
      rcases List.mem_append.1 hs' with hs' | hs'
      · rw [if_neg (hne s hs')]; exact H.fin s hs'
      · simp at hs'; subst hs'; exact ⟨k.from_, k.edge, by simp [hs]⟩
    · rw [gget_set] at hk'
      split at hk'
      · rename_i e
        obtain rfl := Option.some.inj hk'
        exact ⟨⟨x.tag, x.key⟩, by simp, e.symm, hs.symm⟩
      · rename_i e
        obtain ⟨s, hs', e1, e2⟩ := H.only _ _ hk'
        refine ⟨s, ?_, e1, e2⟩
        cases hkd : k'.done <;> rw [hkd] at hs'
        · have hs' : s ∈ nr := by simpa using hs'
          obtain ⟨j, hj, rfl⟩ := List.mem_iff_getElem.1 hs'
          have hji : j ≠ i := fun e' => by subst e'; rw [hie] at e1; exact e e1.symm
          simp only [Bool.false_eq_true, if_false]
          exact List.mem_eraseIdx_iff_getElem.2 ⟨j, hj, hji, rfl⟩
        · simp only [if_true] at hs' ⊢; simp [hs']
    · obtain ⟨y, hy, e1, e2⟩ := H.item t (her t ht)
      rcases List.mem_cons.1 (hp.symm.subset hy) with rfl | hy'
      · exact absurd e2.symm (hne2 t ht)
      · exact ⟨y, hy', e1, e2⟩
    · rw [gget_set]
      split
      · exact ⟨_, rfl⟩
      · exact H.mark y (hp.subset (by simp [hy]))
    · rcases List.mem_append.1 hs' with hs' | hs'
      · exact H.low s hs' t (her t ht)
      · simp at hs'; subst hs'; exact hle t (her t ht)
    · have := H.top s (hperm.symm.subset hs')
      refine ⟨this.1, this.2.1, fun hh => ?_⟩
      have := this.2.2 hh
      simp; omega
    · obtain ⟨k', e1, e2⟩ := H.logs p hp'
      rw [gget_set]
      split
      · rename_i e
        rw [e, hk] at e1
        obtain rfl := Option.some.inj e1
        exact ⟨_, rfl, e2⟩
      · exact ⟨k', e1, e2⟩
    · rw [gget_set] at hk'
      split at hk'
      · rename_i e
        obtain rfl := Option.some.inj hk'
        subst e
        exact H.via _ k hk hne'
      · exact H.via _ _ hk' hne'
    · obtain ⟨e, hz⟩ := H.zero
      rw [gget_set]
      split
      · rename_i e'
        rw [e', hk] at hz
        obtain rfl := Option.some.inj hz
        exact ⟨true, rfl⟩
      · exact ⟨e, hz⟩
  · intro s hs'
    rcases List.mem_append.1 hs' with hs' | hs'
    · exact H.low s hs' _ hm
    · simp at hs'; subst hs'; exact Int.le_refl _
  · rw [hI]; exact fun t ht => hle t (her t ht)
  · intro hh
    have := htop.2.2 hh
    simp at this ⊢; omega

/-- An arc that changes nothing. -/
theorem Sim.skip (H : Sim start hops st nr its M log) {at_ : Seen} (hm : at_ ∈ st) {a : Arc} {k : Mark} (hk : gget M a.to = some k) (hle : k.sum ≤ at_.sum + wt hops a) :
    Sim start hops st nr its M (log ++ [(at_, a)]) ∧ (if ∃ s ∈ st, s.id = a.to then nr else sightL nr a.to (at_.sum + wt hops a)) = nr := by
  have hdn : (ids nr).Nodup := by
    have := H.dist
    rw [ids, List.map_append, List.nodup_append] at this
    exact this.2.1
  refine ⟨⟨H.dist, H.near, H.fin, H.only, H.item, H.mark, H.heap, H.low, H.top, fun p hp => ?_, fun id k' hk' hne => ?_, H.zero⟩, ?_⟩
  · rcases List.mem_append.1 hp with hp | hp
    · exact H.logs p hp
    · simp at hp; subst hp; exact ⟨k, hk, hle⟩
  · obtain ⟨p, e, h⟩ := H.via id k' hk' hne
    exact ⟨p, by rw [List.find?_append, e]; rfl, h⟩
  · split
    · rfl
    · rename_i hno
      obtain ⟨s, hs, e1, e2⟩ := H.only _ _ hk
      have hs : s ∈ nr := by
        cases hkd : k.done <;> rw [hkd] at hs
        · simpa using hs
        · exact absurd ⟨s, by simpa using hs, e1⟩ hno
      rcases sight_cases hdn a.to (at_.sum + wt hops a) with ⟨_, h⟩ | ⟨h, _⟩
      · exact h
      · have := h s hs e1; omega

/-- An arc that leads to a node not seen before, or with less. -/
theorem Sim.take (H : Sim start hops st nr its M log) {at_ : Seen} (hm : at_ ∈ st) (hat : ∀ s ∈ st, s.sum ≤ at_.sum) (hnr : ∀ t ∈ nr, at_.sum ≤ t.sum) (hh : hops = true → at_.sum + 1 ≤ st.length) {a : Arc} (h0 : 0 ≤ wt hops a) (hf : wt hops a ≤ 1099511627776 - at_.sum)
    (hk : ∀ k, gget M a.to = some k → at_.sum + wt hops a < k.sum) (ck : Int) :
    Sim start hops st (if ∃ s ∈ st, s.id = a.to then nr else sightL nr a.to (at_.sum + wt hops a)) (siftUp ltOffer (its ++ [⟨at_.sum + wt hops a, a.to, ck⟩]) its.length) (gset M a.to ⟨at_.sum + wt hops a, at_.id, a.edge, false⟩) (log ++ [(at_, a)]) ∧
    (∀ t ∈ (if ∃ s ∈ st, s.id = a.to then nr else sightL nr a.to (at_.sum + wt hops a)), at_.sum ≤ t.sum) := by
  have hdn : (ids nr).Nodup := by
    have := H.dist
    rw [ids, List.map_append, List.nodup_append] at this
    exact this.2.1
  have hdd : ∀ s ∈ st, ∀ t ∈ nr, s.id ≠ t.id := fun s hs t ht => by
    have := H.dist
    rw [ids, List.map_append, List.nodup_append] at this
    exact this.2.2 s.id (List.mem_map_of_mem hs) t.id (List.mem_map_of_mem ht)
  have hno : ¬ ∃ s ∈ st, s.id = a.to := fun ⟨s, hs, e⟩ => by
    obtain ⟨f, ed, hg⟩ := H.fin s hs
    have := hk _ (by rw [← e]; exact hg)
    have := hat s hs
    simp only at *
    omega
  rw [if_neg hno]
  obtain ⟨hnd, hmem⟩ : (ids (sightL nr a.to (at_.sum + wt hops a))).Nodup ∧ (∀ s, s ∈ sightL nr a.to (at_.sum + wt hops a) ↔ (s ∈ nr ∧ s.id ≠ a.to) ∨ s = ⟨a.to, at_.sum + wt hops a⟩) := by
    rcases sight_cases hdn a.to (at_.sum + wt hops a) with ⟨⟨s, hs, e, hle⟩, _⟩ | ⟨_, h1, h2⟩
    · obtain ⟨f, ed, hg⟩ := H.near s hs
      have := hk _ (by rw [← e]; exact hg)
      simp only at this
      omega
    · exact ⟨h1, h2⟩
  have hp := push_perm ltOffer its ⟨at_.sum + wt hops a, a.to, ck⟩
  have h0s : 0 ≤ at_.sum := (H.top at_ (by simp [hm])).1
  have hstart : a.to ≠ start := fun e => by
    obtain ⟨ed, hz⟩ := H.zero
    have := hk _ (by rw [e]; exact hz)
    simp only at this
    omega
  have hlow : ∀ t ∈ sightL nr a.to (at_.sum + wt hops a), at_.sum ≤ t.sum := fun t ht => by
    rcases (hmem t).1 ht with ⟨ht, _⟩ | rfl
    · exact hnr t ht
    · simp only; omega
  have hheap := push_ok ord_offer H.heap ⟨at_.sum + wt hops a, a.to, ck⟩
  generalize sightL nr a.to (at_.sum + wt hops a) = nr' at *
  generalize siftUp ltOffer (its ++ [⟨at_.sum + wt hops a, a.to, ck⟩]) its.length = its' at *
  generalize hw : at_.sum + wt hops a = w at *
  refine ⟨⟨?_, fun s hs => ?_, fun s hs => ?_, fun id k hk' => ?_, fun s hs => ?_, fun x hx => ?_, hheap, fun s hs t ht => ?_, fun s hs => ?_, fun p hp' => ?_, fun id k hk' hne => ?_, ?_⟩, hlow⟩
  · rw [ids, List.map_append, List.nodup_append]
    refine ⟨?_, hnd, fun x hx y hy e => ?_⟩
    · have := H.dist
      rw [ids, List.map_append, List.nodup_append] at this
      exact this.1
    · obtain ⟨s, hs, rfl⟩ := List.mem_map.1 hx
      obtain ⟨t, ht, rfl⟩ := List.mem_map.1 hy
      rcases (hmem t).1 ht with ⟨ht, _⟩ | rfl
      · exact hdd s hs t ht e
      · exact hno ⟨s, hs, e⟩
  · rw [gget_set]
    rcases (hmem s).1 hs with ⟨hs, hn⟩ | rfl
    · rw [if_neg hn]; exact H.near s hs
    · exact ⟨_, _, by simp; exact ⟨rfl, rfl⟩⟩
  · rw [gget_set, if_neg (fun e => hno ⟨s, hs, e⟩)]; exact H.fin s hs
  · rw [gget_set] at hk'
    split at hk'
    · rename_i e
      obtain rfl := Option.some.inj hk'
      exact ⟨⟨a.to, w⟩, by simp [hmem], e.symm, rfl⟩
    · rename_i e
      obtain ⟨s, hs, e1, e2⟩ := H.only _ _ hk'
      refine ⟨s, ?_, e1, e2⟩
      cases hkd : k.done <;> rw [hkd] at hs
      · simp only [Bool.false_eq_true, if_false] at hs ⊢
        exact (hmem s).2 (.inl ⟨hs, by rw [e1]; exact e⟩)
      · exact hs
  · rcases (hmem s).1 hs with ⟨hs, _⟩ | rfl
    · obtain ⟨x, hx, h⟩ := H.item s hs
      exact ⟨x, hp.symm.subset (by simp [hx]), h⟩
    · exact ⟨⟨w, a.to, ck⟩, hp.symm.subset (by simp), rfl, rfl⟩
  · rw [gget_set]
    split
    · exact ⟨_, rfl⟩
    · rename_i e
      rcases List.mem_cons.1 (hp.subset hx) with rfl | hx
      · exact absurd rfl e
      · exact H.mark x hx
  · exact Int.le_trans (hat s hs) (hlow t ht)
  · rcases List.mem_append.1 hs with hs | hs
    · exact H.top s (by simp [hs])
    · rcases (hmem s).1 hs with ⟨hs, _⟩ | rfl
      · exact H.top s (by simp [hs])
      · refine ⟨by simp only; omega, by simp only; omega, fun h => ?_⟩
        have := hh h
        have : wt hops a = 1 := by simp [wt, h]
        simp only; omega
  · rw [gget_set]
    rcases List.mem_append.1 hp' with hp' | hp'
    · obtain ⟨k, e1, e2⟩ := H.logs p hp'
      split
      · rename_i e
        rw [e] at e1
        have := hk k e1
        exact ⟨_, rfl, by simp only; omega⟩
      · exact ⟨k, e1, e2⟩
    · simp at hp'; subst hp'
      exact ⟨_, by simp; rfl, by simp [hw]⟩
  · rw [gget_set] at hk'
    split at hk'
    · rename_i e
      obtain rfl := Option.some.inj hk'
      have hnone : log.find? (fun p => p.2.to == id && p.1.sum + wt hops p.2 == w) = none := List.find?_eq_none.2 fun p hp' => by
        obtain ⟨k, e1, e2⟩ := H.logs p hp'
        simp only [Bool.and_eq_true, beq_iff_eq, not_and]
        intro h1 h2
        have := hk k (by rw [← e, ← h1]; exact e1)
        omega
      exact ⟨(at_, a), by rw [List.find?_append, hnone]; simp [e, hw], rfl, rfl⟩
    · obtain ⟨p, e, h⟩ := H.via id k hk' hne
      exact ⟨p, by rw [List.find?_append, e]; rfl, h⟩
  · obtain ⟨e, hz⟩ := H.zero
    exact ⟨e, by rw [gget_set, if_neg (fun e => hstart e.symm)]; exact hz⟩
end
end Go.Proofs.YtkiakofohkecaaaDoor

/- What a function tells that is asked for arcs, as the search needs it; the rows as they are shown: each asking is noted, each list is its own. No condition but that the memory is as told. -/
namespace Go.Proofs.YtkiakofohkecaaaDoor
open Go Go.Fw

/-- A function value that tells arcs: its state, what it may write, what it answers. -/
structure ArcsOk (h0 : Hp) (fv : Value) (of : Int → List Arc × Int) (Sh : List Int → List Nat → Hp → Prop) : Prop where
  one : fv.oneCell' = true
  cells : fv.cells = #[fv]
  nil : nilBin .f .eql fv .nilFunc = some (.bool false)
  fr : ∀ {h h' : Hp} {a : List Int} {B S : List Nat}, Sh a B h → Fr h h' S → (∀ b ∈ S, h0.size ≤ b ∧ b ∉ B) → Sh a B h'
  lt : ∀ {h : Hp} {a : List Int} {B : List Nat}, Sh a B h → h0.size ≤ h.size ∧ ∀ b ∈ B, h0.size ≤ b ∧ b < h.size
  len : ∀ id, (of id).1.length ≤ 1048576
  call : ∀ {h : Hp} {a : List Int} {B : List Nat} (id : Int) {K : Value → Hp → Prop}, Sh a B h → a.length ≤ 68719476736 →
    (∀ h' v B', Sh (a ++ [id]) B' h' → Fr h h' B → (∀ b ∈ B', b ∈ B ∨ h.size ≤ b) → RowB h' 3 v ((of id).1.map Arc.enc) B' → K (.tuple #[v, .int .i64 (of id).2]) h') →
    callV Tryd.prog fv #[.int .i64 id] h K

theorem elem28 : ElemOk Tryd.prog 28 2 1 8 := .of (z := .int .i64 0) (by kernel_rfl) (by kernel_rfl) (by kernel_rfl)
theorem elem29 : ElemOk Tryd.prog 29 59 1 24 := .of (z := .slice none 0 0) (by kernel_rfl) (by kernel_rfl) (by kernel_rfl)
theorem elem59 : ElemOk Tryd.prog 59 62 3 24 := .of (z := .agg #[.int .i64 0, .int .i64 0, .int .i64 0]) (by kernel_rfl) (by kernel_rfl) (by kernel_rfl)
theorem info62 : (Tryd.prog.info? 62).map (fun i => (i.zero, i.size, i.bytes)) = some (some (.agg #[.int .i64 0, .int .i64 0, .int .i64 0]), 3, 24) := by kernel_rfl

/-- A list that was given: its block, its room, the node. -/
structure GRow where
  b : Nat
  cap : Nat
  id : Int
def markA : Arc := ⟨-71, -72, -73⟩
def ownL (rows : List NRow) (tail : Bool) (id : Int) : List (List Value) := ((ofL rows tail id).1 ++ [markA, markA]).map Arc.enc
def GRow.val (rows : List NRow) (tail : Bool) (g : GRow) : Value := .slice (some ⟨g.b, 0, none⟩) (ownL rows tail g.id).length g.cap

structure ShownAt (h0 : Hp) (rows : List NRow) (tail : Bool) (v : Value) (q : Nat) (gs : List GRow) (bla blg : List Nat) (h : Hp) : Prop where
  base : Fr h0 h []
  new : h0.size ≤ q ∧ (∀ b ∈ bla, h0.size ≤ b) ∧ (∀ b ∈ blg, h0.size ≤ b) ∧ ∀ g ∈ gs, h0.size ≤ g.b
  top : ∃ av gv, h[q]? = some (.cells #[v, .bool tail, av, gv] 31 (0, 0)) ∧ OwnS h 2 1 av (ints (gs.map (·.id))) bla ∧ OwnS h 59 1 gv (gs.map fun g => [g.val rows tail]) blg
  each : ∀ g ∈ gs, RowAt h 62 3 g.b g.cap (ownL rows tail g.id)
  ne : q ∉ bla ∧ q ∉ blg ∧ (∀ b ∈ bla, b ∉ blg) ∧ ∀ g ∈ gs, g.b ≠ q ∧ g.b ∉ bla ∧ g.b ∉ blg

def ShownS (h0 : Hp) (rows : List NRow) (tail : Bool) (v : Value) (q : Nat) (a : List Int) (B : List Nat) (h : Hp) : Prop :=
  ∃ gs bla blg, a = gs.map (·.id) ∧ B = q :: bla ++ blg ++ gs.map (·.b) ∧ ShownAt h0 rows tail v q gs bla blg h

section
variable {h0 h h' : Hp} {rows : List NRow} {tail : Bool} {v : Value} {q : Nat} {gs : List GRow} {bla blg S : List Nat}
theorem ShownAt.fr (H : ShownAt h0 rows tail v q gs bla blg h) (f : Fr h h' S) (hS : ∀ b ∈ S, h0.size ≤ b ∧ b ∉ q :: bla ++ blg ++ gs.map (·.b)) : ShownAt h0 rows tail v q gs bla blg h' := by
  obtain ⟨av, gv, e, oa, og⟩ := H.top
  have hn : ∀ b, b ∈ q :: bla ++ blg ++ gs.map (·.b) → b ∉ S := fun b hb hs => (hS b hs).2 hb
  refine ⟨H.base.news f fun c hc => (hS c hc).1, H.new, ⟨av, gv, f.get e (hn q (by simp)), oa.fr f fun b hb => hn b (by simp [hb]), og.fr f fun b hb => hn b (by simp [hb])⟩, fun g hg => (H.each g hg).fr f (hn _ ?_), H.ne⟩
  simp only [List.mem_append, List.mem_map]
  exact .inr ⟨g, hg, rfl⟩
theorem ShownAt.lt (H : ShownAt h0 rows tail v q gs bla blg h) : ∀ b ∈ q :: bla ++ blg ++ gs.map (·.b), h0.size ≤ b ∧ b < h.size := by
  obtain ⟨av, gv, e, oa, og⟩ := H.top
  intro b hb
  simp only [List.cons_append, List.mem_cons, List.mem_append, List.mem_map] at hb
  rcases hb with rfl | (hb | hb) | ⟨g, hg, rfl⟩
  · exact ⟨H.new.1, lt_of_get e⟩
  · exact ⟨H.new.2.1 b hb, oa.lt b hb⟩
  · exact ⟨H.new.2.2.1 b hb, og.lt b hb⟩
  · exact ⟨H.new.2.2.2 g hg, (H.each g hg).lt⟩
end

theorem arc_one (a : Arc) : ∀ u ∈ a.enc, u.oneCell' = true := by simp [Arc.enc]
theorem enc_one {l : List Arc} : ∀ x ∈ l.map Arc.enc, ∀ u ∈ x, u.oneCell' = true := fun x hx => by obtain ⟨a, _, rfl⟩ := List.mem_map.1 hx; exact arc_one a
theorem ofL_len {h : Hp} {v : Value} {rows : List NRow} (o : NetOk h v rows) (tail : Bool) (id : Int) : (ofL rows tail id).1.length ≤ 1048576 := by
  unfold ofL
  split
  · rename_i r hr
    have := o.each r (List.mem_of_find?_eq_some hr)
    split
    · exact this
    · simp
  · split <;> simp
theorem fill_int (k : Int) : fillR 1 #[(.int .i64 0)] [(0, .int .i64 k)] = some #[.int .i64 k] := by kernel_rfl
theorem fill_marks : fillR 3 #[(.int .i64 0), (.int .i64 0), (.int .i64 0), (.int .i64 0), (.int .i64 0), (.int .i64 0)] [(0, .agg #[.int .i64 (-71), .int .i64 (-72), .int .i64 (-73)]), (1, .agg #[.int .i64 (-71), .int .i64 (-72), .int .i64 (-73)])] = some #[.int .i64 (-71), .int .i64 (-72), .int .i64 (-73), .int .i64 (-71), .int .i64 (-72), .int .i64 (-73)] := by kernel_rfl
theorem fill_sl (b n c : Nat) : fillR 1 #[(.slice none 0 0)] [(0, .slice (some ⟨b, 0, none⟩) n c)] = some #[.slice (some ⟨b, 0, none⟩) n c] := by kernel_rfl
theorem seg_one {h : Hp} {b E : Nat} {x : Value} (e : h[b]? = some (.cells #[x] E (0, 0))) : Seg h 1 b 0 [[x]] := by
  refine ⟨_, _, _, e, by simp, by simp, fun a j y hi hj => ?_⟩
  obtain rfl : a = 0 := by
    have := (List.getElem?_eq_some_iff.1 hi).1
    simpa using this
  obtain rfl : [x] = y := by simpa using hi
  obtain rfl : j = 0 := by omega
  simp

theorem seg_two {h : Hp} {b E : Nat} (e : h[b]? = some (.cells #[.int .i64 (-71), .int .i64 (-72), .int .i64 (-73), .int .i64 (-71), .int .i64 (-72), .int .i64 (-73)] E (0, 0))) : Seg h 3 b 0 ([markA, markA].map Arc.enc) := by
  refine ⟨_, _, _, e, by simp, by simp [Arc.enc], fun a j y hi hj => ?_⟩
  have ha := (List.getElem?_eq_some_iff.1 hi).1
  simp at ha
  obtain rfl | rfl : a = 0 ∨ a = 1 := by omega
  all_goals
    obtain rfl : markA.enc = y := by simpa using hi
    obtain rfl | rfl | rfl : j = 0 ∨ j = 1 ∨ j = 2 := by omega
    all_goals simp [Arc.enc, markA]
set_option maxHeartbeats 2000000 in
theorem arcs_spec {h0 h : Hp} {rows : List NRow} {tail : Bool} {v : Value} {q : Nat} {gs : List GRow} {bla blg : List Nat} {Em : Nat} {fm : Nat × Nat} (net : NetOk h0 v rows) (hm : h0[2]? = some (.cells #[.int .i64 (-71), .int .i64 (-72), .int .i64 (-73)] Em fm))
    (H : ShownAt h0 rows tail v q gs bla blg h) (hn : gs.length ≤ 68719476736) (nd : Int) {R : Value → Hp → Prop}
    (hR : ∀ h' g bla' blg' u, g.id = nd → ShownAt h0 rows tail v q (gs ++ [g]) bla' blg' h' → Fr h h' (q :: bla ++ blg) → h.size ≤ g.b → (∀ b ∈ bla', b ∈ bla ∨ h.size ≤ b) → (∀ b ∈ blg', b ∈ blg ∨ h.size ≤ b) → RowB h' 3 u ((ofL rows tail nd).1.map Arc.enc) [g.b] → R (.tuple #[u, .int .i64 (ofL rows tail nd).2]) h') :
    CallsH Tryd.prog 19 #[.pointer (some ⟨q, 0, none⟩), .int .i64 nd] h R := by
  obtain ⟨av, gv, e, oa, og⟩ := H.top
  have hlt := H.lt
  have hal := ofL_len net tail nd
  have hq := lt_of_get e
  have hb0 := H.base.size
  have h2lt := lt_of_get hm
  obtain ⟨n1, n2, n3, n4⟩ := H.ne
  refine f19.ok ?_
  unfold f19.T
  simp only [nilE_ptr, bnd_some, fldE_ptr, Nat.zero_add, ldS_at e, List.getElem?_toArray, List.getElem?_cons_succ, List.getElem?_cons_zero, fill_int, nw_eq]
  have f1 := Fr.push h (.cells #[.int .i64 nd] 2 (0, 0)) []
  have g1 := get_new h (.cells #[.int .i64 nd] 2 (0, 0))
  generalize h.push (.cells #[.int .i64 nd] 2 (0, 0)) = h1 at *
  refine own_app elem28 (oa.fr f1 (by simp)) (seg_one g1) (by simp) (by simp [ints]; omega) (by simp [ints]; omega) fun h2 av' bla' oa' f2 bl2 => ?_
  have F2 : Fr h h2 (q :: bla) := f1.trans f2 (by simp) (fun c _ hc => by simp [hc])
  have e2 := f2.get (f1.get e (by simp)) n1
  have st3 : stE 1 h2 (.pointer (some ⟨q, 2, none⟩)) av' = some (h2.setIfInBounds q (.cells #[v, .bool tail, av', gv] 31 (0, 0))) := by
    rw [stE_at _ e2]; simp [splice, oa'.cells, oa'.one]
  have e3 := get_set (o' := .cells #[v, .bool tail, av', gv] 31 (0, 0)) e2
  have f3 : Fr h2 (h2.setIfInBounds q (.cells #[v, .bool tail, av', gv] 31 (0, 0))) [q] := Fr.set _ _ _ (fun _ => by simp) (by rw [e2]; rfl)
  have qb' : q ∉ bla' := fun hm' => by rcases bl2 q hm' with h | h; exact n1 h; have := f1.size; omega
  have oa3 := oa'.fr f3 (fun b hb hb' => by simp at hb'; subst hb'; exact qb' hb)
  simp only [st3, bnd_some]
  generalize h2.setIfInBounds q (.cells #[v, .bool tail, av', gv] 31 (0, 0)) = h3 at *
  have F3 : Fr h h3 (q :: bla) := F2.trans f3 (fun _ _ h => h) (fun c _ hc => by simp at hc; simp [hc])
  have B3 : Fr h0 h3 [] := H.base.news F3 fun c hc => (hlt c (by simp at hc ⊢; rcases hc with h | h <;> simp [h])).1
  have l3 : ldA 2 h3 (.pointer (some ⟨q, 0, none⟩)) = some (.agg #[v, .bool tail]) := by rw [ldA_at e3]; simp
  simp only [l3, bnd_some]
  refine of_spec (net.fr B3) nd fun h4 v4 r4 f4 => ?_
  have F4 : Fr h h4 (q :: bla) := F3.trans f4 (fun _ _ h => h) (by simp)
  have r4' := r4
  obtain ⟨a4, c4, rfl, x4⟩ := r4'
  have w4 : IntKind.i64.wrap ((((ofL rows tail nd).1.map Arc.enc).length : Int) + 2) = (((ofL rows tail nd).1.length + 2 : Nat) : Int) := by rw [List.length_map, i64_id (by omega) (by omega)]; omega
  simp only [extE_tuple, List.getElem?_toArray, List.getElem?_cons_succ, List.getElem?_cons_zero, bnd_some, lenE_sl, bin_add, w4]
  refine make_room (z := .agg #[.int .i64 0, .int .i64 0, .int .i64 0]) elem59.slice info62 rfl (by omega) (by omega) fun h5 r5 f5 => ?_
  have F5 : Fr h h5 (q :: bla) := F4.trans f5 (fun _ _ h => h) (by simp)
  have r4s := RowV.fr r4 f5
  have hB5 : (([] : List (List Value)).length + ((ofL rows tail nd).1.map Arc.enc).length) * 24 ≤ 140737488355328 := by simp only [List.length_nil, List.length_map]; omega
  have hM5 : ([] : List (List Value)).length + ((ofL rows tail nd).1.map Arc.enc).length ≤ 4611686018427387904 := by simp only [List.length_nil, List.length_map]; omega
  refine append_v (ty := 59) elem59 r5 r4s enc_one hB5 hM5 ?_
  intro h6 b6 c6 r6 f6 hb6
  have F6 : Fr h h6 (q :: bla) := F5.trans f6 (fun _ _ h => h) (fun c hc hm' => by simp at hm'; have := F4.size; omega)
  have hb6' : h.size ≤ b6 := by rcases hb6 with h | h; (have := Option.some.inj h; have := F4.size; omega); (have := F5.size; omega)
  have B6 : Fr h0 h6 [] := H.base.news F6 fun c hc => (hlt c (by simp at hc ⊢; rcases hc with h | h <;> simp [h])).1
  have m6 := B6.get hm (by simp)
  have l6 : ldA 3 h6 (.pointer (some ⟨2, 0, none⟩)) = some (.agg #[.int .i64 (-71), .int .i64 (-72), .int .i64 (-73)]) := by rw [ldA_at m6]; simp
  simp only [l6, bnd_some, fill_marks, nw_eq]
  have f7 := Fr.push h6 (.cells #[.int .i64 (-71), .int .i64 (-72), .int .i64 (-73), .int .i64 (-71), .int .i64 (-72), .int .i64 (-73)] 62 (0, 0)) []
  have g7 := get_new h6 (.cells #[.int .i64 (-71), .int .i64 (-72), .int .i64 (-73), .int .i64 (-71), .int .i64 (-72), .int .i64 (-73)] 62 (0, 0))
  generalize h6.push (.cells #[.int .i64 (-71), .int .i64 (-72), .int .i64 (-73), .int .i64 (-71), .int .i64 (-72), .int .i64 (-73)] 62 (0, 0)) = h7 at *
  have F7 : Fr h h7 (q :: bla) := F6.trans f7 (fun _ _ h => h) (by simp)
  have s7 : Seg h7 3 h6.size 0 ([markA, markA].map Arc.enc) := seg_two g7
  have r7 := r6.fr f7 (by simp)
  refine append_row (ty := 59) elem59 r7 s7 enc_one (by simp; omega) (by simp; omega) fun h8 b8 c8 r8 f8 hb8 => ?_
  have F8 : Fr h h8 (q :: bla) := F7.trans f8 (fun _ _ h => h) (fun c hc hm' => by simp at hm'; omega)
  have hb8' : h.size ≤ b8 := by rcases hb8 with h | h; (have := Option.some.inj h; omega); (have := F7.size; omega)
  have FQ : Fr h3 h8 [] := by
    refine ((f4.trans f5 (S := []) (by simp) (by simp)).trans f6 (S := []) (by simp) (fun c hc hm' => by simp at hm'; have := f4.size; omega)).trans (f7.trans f8 (S := [b6]) (by simp) (by simp)) (by simp) (fun c hc hm' => ?_)
    simp at hm'
    have := f4.size; have := f5.size
    rcases hb6 with h | h
    · have := Option.some.inj h; omega
    · omega
  have e8 := FQ.get e3 (by simp)
  have oa8 := oa3.fr FQ (by simp)
  have og8 := og.fr F8 (fun b hb hb' => by simp at hb'; rcases hb' with rfl | hb'; exact n2 hb; exact n3 b hb' hb)
  have each8 : ∀ g ∈ gs, RowAt h8 62 3 g.b g.cap (ownL rows tail g.id) := fun g hg => (H.each g hg).fr F8 (by simp; exact ⟨(n4 g hg).1, (n4 g hg).2.1⟩)
  have er8 : List.map Arc.enc (ofL rows tail nd).1 ++ [markA, markA].map Arc.enc = ownL rows tail nd := by simp [ownL]
  simp only [List.nil_append, er8] at r8
  simp only [List.nil_append, er8, ldS_at e8, List.getElem?_toArray, List.getElem?_cons_succ, List.getElem?_cons_zero, bnd_some, fill_sl, nw_eq]
  have f9 := Fr.push h8 (.cells #[.slice (some ⟨b8, 0, none⟩) (ownL rows tail nd).length c8] 59 (0, 0)) []
  have g9 := get_new h8 (.cells #[.slice (some ⟨b8, 0, none⟩) (ownL rows tail nd).length c8] 59 (0, 0))
  generalize h8.push (.cells #[.slice (some ⟨b8, 0, none⟩) (ownL rows tail nd).length c8] 59 (0, 0)) = h9 at *
  refine own_app elem29 (og8.fr f9 (by simp)) (seg_one g9) (by simp) (by simp; omega) (by simp; omega) fun h10 gv' blg' og' f10 bl10 => ?_
  have F10' : Fr h8 h10 blg := f9.trans f10 (by simp) (fun c _ hc => hc)
  have e10 := F10'.get e8 n2
  have st11 : stE 1 h10 (.pointer (some ⟨q, 3, none⟩)) gv' = some (h10.setIfInBounds q (.cells #[v, .bool tail, av', gv'] 31 (0, 0))) := by
    rw [stE_at _ e10]; simp [splice, og'.cells, og'.one]
  have e11 := get_set (o' := .cells #[v, .bool tail, av', gv'] 31 (0, 0)) e10
  have f11 : Fr h10 (h10.setIfInBounds q (.cells #[v, .bool tail, av', gv'] 31 (0, 0))) [q] := Fr.set _ _ _ (fun _ => by simp) (by rw [e10]; rfl)
  have F8s := F8.size
  have F3s := F3.size
  have f9s := f9.size
  have f1s := f1.size
  have qg' : q ∉ blg' := fun hm' => by rcases bl10 q hm' with h | h; exact n2 h; omega
  have og11 := og'.fr f11 (fun b hb hb' => by simp at hb'; subst hb'; exact qg' hb)
  have la3 : ∀ b ∈ bla', b < h3.size := oa3.lt
  have b8ge : h3.size ≤ b8 := by
    have s4 := f4.size
    have s5 := f5.size
    have s6 := f6.size
    have s7 := f7.size
    rcases hb8 with h | h
    · have h := Option.some.inj h
      rcases hb6 with h' | h'
      · have h' := Option.some.inj h'; omega
      · omega
    · omega
  have hdis : ∀ b ∈ bla', b ∉ blg := fun b hb hb' => by
    rcases bl2 b hb with h | h
    · exact n3 b h hb'
    · have := og.lt b hb'; omega
  have lt8 : ∀ b ∈ bla', b < h8.size := oa8.lt
  have oa11 := (oa8.fr F10' hdis).fr f11 (fun b hb hb' => by simp at hb'; subst hb'; exact qb' hb)
  have lr8 := r8.lt
  have r11 := (r8.fr F10' (fun hb => by have := og.lt _ hb; omega)).fr f11 (by simp; omega)
  simp only [st11, bnd_some]
  generalize h10.setIfInBounds q (.cells #[v, .bool tail, av', gv'] 31 (0, 0)) = h11 at *
  have F11 : Fr h h11 (q :: bla ++ blg) := (F8.trans F10' (S := q :: bla ++ blg) (fun c _ hc => by simp at hc ⊢; rcases hc with h | h <;> simp [h]) (fun c _ hc => by simp [hc])).trans f11 (fun _ _ h => h) (fun c _ hc => by simp at hc; simp [hc])
  have each11 : ∀ g ∈ gs, RowAt h11 62 3 g.b g.cap (ownL rows tail g.id) := fun g hg => ((each8 g hg).fr F10' (n4 g hg).2.2).fr f11 (by simp; exact (n4 g hg).1)
  have new : ShownAt h0 rows tail v q (gs ++ [⟨b8, c8, nd⟩]) bla' blg' h11 := by
    have hs0 : h0.size ≤ h.size := hb0
    refine ⟨H.base.news F11 fun c hc => (hlt c (by simp at hc ⊢; rcases hc with h | h | h <;> simp [h])).1, ⟨H.new.1, fun b hb => ?_, fun b hb => ?_, fun g hg => ?_⟩, ⟨av', gv', e11, ?_, ?_⟩, fun g hg => ?_, ⟨qb', qg', fun b hb hb' => ?_, fun g hg => ?_⟩⟩
    · rcases bl2 b hb with h | h
      · exact H.new.2.1 b h
      · omega
    · rcases bl10 b hb with h | h
      · exact H.new.2.2.1 b h
      · omega
    · rcases List.mem_append.1 hg with hg | hg
      · exact H.new.2.2.2 g hg
      · simp at hg; subst hg; simp only; omega
    · simpa [ints] using oa11
    · simpa [GRow.val] using og11
    · rcases List.mem_append.1 hg with hg | hg
      · exact each11 g hg
      · simp at hg; subst hg; exact r11
    · rcases bl10 b hb' with h | h
      · exact hdis b hb h
      · have := lt8 b hb; omega
    · rcases List.mem_append.1 hg with hg | hg
      · have lg := (H.each g hg).lt
        refine ⟨(n4 g hg).1, fun hb => ?_, fun hb => ?_⟩
        · rcases bl2 _ hb with h | h
          · exact (n4 g hg).2.1 h
          · omega
        · rcases bl10 _ hb with h | h
          · exact (n4 g hg).2.2 h
          · omega
      · simp at hg; subst hg
        refine ⟨by simp only; omega, fun hb => ?_, fun hb => ?_⟩
        · have := la3 b8 hb; omega
        · rcases bl10 _ hb with h | h
          · have := og.lt _ h; simp only at *; omega
          · simp only at *; omega
  have bla'' : ∀ b ∈ bla', b ∈ bla ∨ h.size ≤ b := fun b hb => (bl2 b hb).imp_right fun h => by omega
  have blg'' : ∀ b ∈ blg', b ∈ blg ∨ h.size ≤ b := fun b hb => (bl10 b hb).imp_right fun h => by omega
  have fin := fun u hu => hR h11 ⟨b8, c8, nd⟩ bla' blg' u rfl new F11 hb8' bla'' blg'' hu
  by_cases hc : (ofL rows tail nd).2 = 0
  · have lc := r11.len
    have hl2 : (ownL rows tail nd).length = (ofL rows tail nd).1.length + 2 := by simp [ownL]
    have sl := slice_to 3 b8 0 (ownL rows tail nd).length c8 .i64 ((ofL rows tail nd).1.map Arc.enc).length (by rw [List.length_map]; omega)
    have hd : decide (¬ (ofL rows tail nd).2 = 0) = false := by simp [hc]
    simp only [bin_neq, ne_eq, hd, bnd_some, condT_bool, Bool.false_eq_true, if_false, sl]
    refine fin _ ⟨_, c8, by simp, fun _ => ⟨b8, 0, rfl, by simp, ?_⟩⟩
    have := r11.seg.sub (l := 0) (m := (ofL rows tail nd).1.length) (by omega)
    simpa [ownL] using this
  · have hd : decide (¬ (ofL rows tail nd).2 = 0) = true := by simp [hc]
    have hnil : (ofL rows tail nd).1 = [] := by
      revert hc; unfold ofL; split
      · split
        · intro h; exact absurd rfl h
        · intro _; rfl
      · split <;> (intro h; exact absurd rfl h)
    simp only [bin_neq, ne_eq, hd, bnd_some, condT_bool, if_true]
    exact fin _ ⟨none, 0, by simp [hnil], fun h => absurd (by simp [hnil]) h⟩
end Go.Proofs.YtkiakofohkecaaaDoor

/- The rows as they are shown answer as the search needs it; the search as it lies in memory; one arc is looked at. No condition but that the memory is as told. -/
namespace Go.Proofs.YtkiakofohkecaaaDoor
open Go Go.Fw

set_option maxRecDepth 100000 in
theorem shown_ok {h0 : Hp} {rows : List NRow} {tail : Bool} {v : Value} {q : Nat} {Em : Nat} {fm : Nat × Nat} (net : NetOk h0 v rows) (hm : h0[2]? = some (.cells #[.int .i64 (-71), .int .i64 (-72), .int .i64 (-73)] Em fm)) :
    ArcsOk h0 (.func (.func 19) #[.pointer (some ⟨q, 0, none⟩)] #[]) (ofL rows tail) (ShownS h0 rows tail v q) where
  one := rfl
  cells := rfl
  nil := rfl
  fr := fun ⟨gs, bla, blg, e1, e2, H⟩ f hS => ⟨gs, bla, blg, e1, e2, H.fr f fun b hb => by have := hS b hb; rwa [e2] at this⟩
  lt := fun ⟨gs, bla, blg, e1, e2, H⟩ => ⟨H.base.size, fun b hb => H.lt b (by rwa [e2] at hb)⟩
  len := fun id => ofL_len net tail id
  call := fun {h a B} id {K} ⟨gs, bla, blg, e1, e2, H⟩ ha hK => by
    have e : okF Tryd.prog 19 = true := by kernel_rfl
    simp only [callV, e]
    refine arcs_spec net hm H (by rw [e1] at ha; simpa using ha) id fun h' g bla' blg' u hg H' f hb1 hb2 hb3 hu => ?_
    refine hK h' u (q :: bla' ++ blg' ++ (gs ++ [g]).map (·.b)) ⟨gs ++ [g], bla', blg', by rw [e1, ← hg]; simp, rfl, H'⟩ (f.mono fun c _ hc => by rw [e2]; simp only [List.mem_append] at hc ⊢; exact .inl hc) (fun b hb => ?_) ?_
    · rw [e2]
      simp only [List.cons_append, List.mem_cons, List.mem_append, List.map_append, List.map_cons, List.map_nil, List.not_mem_nil, or_false] at hb ⊢
      rcases hb with hb | (hb | hb) | hb | hb
      · exact .inl (.inl hb)
      · exact (hb2 b hb).imp_left fun h => .inr (.inl (.inl h))
      · exact (hb3 b hb).imp_left fun h => .inr (.inl (.inr h))
      · exact .inl (.inr (.inr hb))
      · exact .inr (by rw [hb]; exact hb1)
    · obtain ⟨a', c, e, hx⟩ := hu
      refine ⟨a', c, e, fun hne => ?_⟩
      obtain ⟨b, o, e, hb, s⟩ := hx hne
      exact ⟨b, o, e, by simp at hb; simp [hb], s⟩

def less68 : Value := .func (.func 68) #[] #[]
/-- The search's struct at p, its marks at pm, its heap's struct at pn. -/
structure SrAt (h : Hp) (p pm pn : Nat) (fv : Value) (hops : Bool) (M : List (Int × Mark)) (its : List Item) (ck : Int) (bl : List Nat) (order : List Int) (bo : List Nat) : Prop where
  top : ∃ ov, h[p]? = some (.cells #[fv, .bool hops, .map (some pm), .pointer (some ⟨pn, 0, none⟩), ov] 97 (0, 0)) ∧ OwnS h 2 1 ov (ints order) bo
  map : MapAt h pm .i64 (M.map fun x => (x.1, x.2.val))
  heap : HeapE h pn less68 its ck bl
  ne : p ≠ pm ∧ p ≠ pn ∧ pm ≠ pn ∧ (∀ b ∈ bl, b ≠ p ∧ b ≠ pm ∧ b ∉ bo) ∧ ∀ b ∈ bo, b ≠ p ∧ b ≠ pm ∧ b ≠ pn
def SB (p pm pn : Nat) (bl bo : List Nat) : List Nat := p :: pm :: pn :: (bl ++ bo)

section
variable {h h' : Hp} {p pm pn : Nat} {fv : Value} {hops : Bool} {M : List (Int × Mark)} {its : List Item} {ck : Int} {bl : List Nat} {order : List Int} {bo S : List Nat}
theorem SrAt.fr (H : SrAt h p pm pn fv hops M its ck bl order bo) (f : Fr h h' S) (hS : ∀ b ∈ SB p pm pn bl bo, b ∉ S) : SrAt h' p pm pn fv hops M its ck bl order bo := by
  obtain ⟨ov, e, o⟩ := H.top
  exact ⟨⟨ov, f.get e (hS p (by simp [SB])), o.fr f fun b hb => hS b (by simp [SB, hb])⟩, H.map.fr f (hS pm (by simp [SB])), H.heap.fr f (hS pn (by simp [SB])) fun b hb => hS b (by simp [SB, hb]), H.ne⟩
theorem SrAt.lt (H : SrAt h p pm pn fv hops M its ck bl order bo) : ∀ b ∈ SB p pm pn bl bo, b < h.size := by
  obtain ⟨ov, e, o⟩ := H.top
  intro b hb
  simp only [SB, List.mem_cons, List.mem_append] at hb
  rcases hb with rfl | rfl | rfl | hb | hb
  · exact lt_of_get e
  · exact H.map.lt
  · exact H.heap.lt.1
  · exact (H.heap.lt.2 b hb).1
  · exact o.lt b hb

/-- A mark is written. -/
theorem SrAt.mark (H : SrAt h p pm pn fv hops M its ck bl order bo) {k : Int} {m : Mark} {K : Unit → Hp → Prop}
    (hK : ∀ h', SrAt h' p pm pn fv hops (gset M k m) its ck bl order bo → Fr h h' [pm] → K () h') : efS Tryd.prog (Instr.mapUpdate 94 (.map (some pm)) (.int .i64 k) m.val) h K := by
  refine upd_rule (kt := 2) (et := 93) (by kernel_rfl) (by kernel_rfl) H.map fun h' m' f => hK h' ?_ f
  obtain ⟨ov, e, o⟩ := H.top
  obtain ⟨n1, n2, n3, n4, n5⟩ := H.ne
  rw [mset_map] at m'
  exact ⟨⟨ov, f.get e (by simpa using n1), o.fr f fun b hb => by simpa using (n5 b hb).2.1⟩, m', H.heap.fr f (by simpa using n3.symm) fun b hb => by simpa using (n4 b hb).2.1, H.ne⟩
/-- A mark is read. -/
theorem SrAt.look (H : SrAt h p pm pn fv hops M its ck bl order bo) {k : Int} {ok : Bool} {K : Value → Prop}
    (hK : K (if ok then .tuple #[((gget M k).map Mark.val).getD (.agg #[.int .i64 0, .int .i64 0, .int .i64 0, .bool false]), .bool (gget M k).isSome] else ((gget M k).map Mark.val).getD (.agg #[.int .i64 0, .int .i64 0, .int .i64 0, .bool false]))) : rdS Tryd.prog (Instr.lookup 94 (.map (some pm)) (.int .i64 k) ok) h K := by
  refine look_rule (kt := 2) (et := 93) (by kernel_rfl) (by kernel_rfl) (z := .agg #[.int .i64 0, .int .i64 0, .int .i64 0, .bool false]) (by kernel_rfl) H.map ok ?_
  rw [mget_map]
  simpa using hK
/-- A thing is pushed. -/
theorem SrAt.push (H : SrAt h p pm pn fv hops M its ck bl order bo) (hlen : its.length < 1099511627776) (hck : 0 ≤ ck ∧ ck < 1099511627776) {k t : Int} {R : Value → Hp → Prop}
    (hR : ∀ h' bl', SrAt h' p pm pn fv hops M (siftUp ltOffer (its ++ [⟨k, t, ck⟩]) its.length) (ck + 1) bl' order bo → Fr h h' (pn :: bl) → (∀ b ∈ bl', b ∈ bl ∨ h.size ≤ b) → R (.tuple #[]) h') :
    CallsH Tryd.prog 69 #[.pointer (some ⟨pn, 0, none⟩), .agg #[.int .i64 k, .int .i64 t]] h R := by
  refine push_spec lessOk68 (L := []) (by simp [Has]) (by simp) (by simp) H.heap hlen hck k t fun h' b cap H' f hb => ?_
  obtain ⟨ov, e, o⟩ := H.top
  obtain ⟨n1, n2, n3, n4, n5⟩ := H.ne
  have hb' : ∀ c ∈ [b], c ∈ bl ∨ h.size ≤ c := fun c hc => by
    obtain rfl : c = b := by simpa using hc
    rcases hb with rfl | hb
    · exact .inl (by simp)
    · exact .inr hb
  refine hR h' [b] ⟨⟨ov, f.get e ?_, o.fr f fun c hc => ?_⟩, H.map.fr f ?_, .inr ⟨b, cap, rfl, H'⟩, n1, n2, n3, fun c hc => ?_, n5⟩ f hb'
  · simp; exact ⟨n2, fun hp => (n4 p hp).1 rfl⟩
  · simp; exact ⟨(n5 c hc).2.2, fun hp => (n4 c hp).2.2 hc⟩
  · simp; exact ⟨n3, fun hp => (n4 pm hp).2.1 rfl⟩
  · have lp := lt_of_get e
    have lm := H.map.lt
    rcases hb' c hc with h | h
    · exact n4 c h
    · exact ⟨by omega, by omega, fun hb => by have := o.lt c hb; omega⟩
end
theorem fill_mark (a b c : Int) : (fillS [(0, 1), (1, 1), (2, 1), (3, 1)] #[(.int .i64 0), (.int .i64 0), (.int .i64 0), (.bool false)] [(0, .int .i64 a), (1, .int .i64 b), (2, .int .i64 c)]).map Value.agg = some (Mark.val ⟨a, b, c, false⟩) := by kernel_rfl
theorem fill_offer (a b : Int) : (fillS [(0, 1), (1, 1)] #[(.int .i64 0), (.int .i64 0)] [(0, .int .i64 a), (1, .int .i64 b)]).map Value.agg = some (.agg #[.int .i64 a, .int .i64 b]) := by kernel_rfl

theorem look_J2 {h : Hp} {p pm pn q3 q8 q10 : Nat} {fv : Value} {hops : Bool} {M : List (Int × Mark)} {its : List Item} {ck : Int} {bl : List Nat} {order : List Int} {bo : List Nat} (H : SrAt h p pm pn fv hops M its ck bl order bo)
    {sum id w edge to wg : Int} {z : Mark} (g3 : h[q3]? = some (.cells #[.int .i64 sum, .int .i64 id] 134 (0, 0))) (g8 : h[q8]? = some (.cells #[.int .i64 edge, .int .i64 to, .int .i64 wg] 62 (0, 0))) (g10 : h[q10]? = some (.cells #[.int .i64 z.sum, .int .i64 z.from_, .int .i64 z.edge, .bool z.done] 93 (0, 0)))
    (hz : ∀ k, gget M to = some k → z = k) (hlen : its.length < 1099511627776) (hck : 0 ≤ ck ∧ ck < 1099511627776) (h0 : 0 ≤ sum) (hw : 0 ≤ w) (hf : sum + w ≤ 1099511627776)
    (n3 : q3 ∉ SB p pm pn bl bo) (n8 : q8 ∉ SB p pm pn bl bo) {t27 : Value} {I1 : List Value → Hp → Prop} {μ1 : List Value → Hp → Nat} {h_3 : Hp}
    (skip : ∀ k, gget M to = some k → k.sum ≤ sum + w → f71.J1 t27 I1 h μ1 h_3)
    (take : (∀ k, gget M to = some k → sum + w < k.sum) → ∀ h' bl', SrAt h' p pm pn fv hops (gset M to ⟨sum + w, id, edge, false⟩) (siftUp ltOffer (its ++ [⟨sum + w, to, ck⟩]) its.length) (ck + 1) bl' order bo → Fr h h' (pm :: pn :: bl) → (∀ b ∈ bl', b ∈ bl ∨ h.size ≤ b) → f71.J1 t27 I1 h' μ1 h_3) :
    f71.J2 (.bool (gget M to).isSome) (.pointer (some ⟨q10, 0, none⟩)) h (.pointer (some ⟨q3, 0, none⟩)) (.int .i64 w) t27 I1 μ1 h_3 (.pointer (some ⟨p, 0, none⟩)) (.pointer (some ⟨q8, 0, none⟩)) := by
  obtain ⟨ov, e, o⟩ := H.top
  have w1 : IntKind.i64.wrap (sum + w) = sum + w := i64_id (by omega) (by omega)
  unfold f71.J2
  have rest : (∀ k, gget M to = some k → sum + w < k.sum) → efS Tryd.prog (Instr.mapUpdate 94 (.map (some pm)) (.int .i64 to) (Mark.val ⟨sum + w, id, edge, false⟩)) h fun _ h_6 =>
      bnd (nilE (.pointer (some ⟨p, 0, none⟩))) fun t83_1 =>
      bnd (fldE 3 t83_1) fun t84_1 =>
      bnd (ldS h_6 t84_1) fun t85_1 =>
      bnd (fldE 0 (.pointer (some ⟨q3, 0, none⟩))) fun t86_1 =>
      bnd (ldS h_6 t86_1) fun t87_1 =>
      bnd (binE .add t87_1 (.int .i64 w)) fun t89_1 =>
      bnd (fldE 1 (.pointer (some ⟨q8, 0, none⟩))) fun t90_1 =>
      bnd (ldS h_6 t90_1) fun t91_1 =>
      bnd ((fillS [(0, 1), (1, 1)] #[(.int .i64 0), (.int .i64 0)] [(0, t89_1), (1, t91_1)]).map .agg) fun t92_1 =>
      CallsH Tryd.prog 69 #[t85_1, t92_1] h_6 fun t93_1 h_7 =>
      (f71.J1 t27 I1 h_7 μ1 h_3) := fun hk => by
    refine H.mark fun h' H' f => ?_
    obtain ⟨ov', e', o'⟩ := H'.top
    have g3' := f.get g3 (by simp [SB] at n3 ⊢; omega)
    have g8' := f.get g8 (by simp [SB] at n8 ⊢; omega)
    simp only [nilE_ptr, bnd_some, fldE_ptr, Nat.zero_add, ldS_at e', ldS_at g3', ldS_at g8', List.getElem?_toArray, List.getElem?_cons_succ, List.getElem?_cons_zero, bin_add, w1, fill_offer]
    refine H'.push hlen hck fun h'' bl' H'' f' hb => ?_
    have fs := f.size
    refine take hk h'' bl' H'' (f.trans f' (fun c _ hc => by simp at hc; simp [hc]) (fun c _ hc => by simp at hc ⊢; rcases hc with h | h <;> simp [h])) fun b hb' => (hb b hb').imp_right fun h => by omega
  cases hg : gget M to with
  | none =>
    have := rest (fun k hk => by rw [hg] at hk; cases hk)
    simp only [Option.isSome_none, isB_bool, asB_bool, Option.map_some, bnd_some, condT_bool, cond_false, Bool.false_eq_true, if_false, isB_undef, show (false == true) = false from rfl]
    simpa only [nilE_ptr, bnd_some, fldE_ptr, Nat.zero_add, ldS_at e, ldS_at g3, ldS_at g8, List.getElem?_toArray, List.getElem?_cons_succ, List.getElem?_cons_zero, bin_add, w1, fill_mark] using this
  | some k =>
    obtain rfl := hz k hg
    simp only [Option.isSome_some, isB_bool, beq_self_eq_true, asB_bool, Option.map_some, cond_true, bnd_some, fldE_ptr, Nat.zero_add, ldS_at g10, ldS_at g3, List.getElem?_toArray, List.getElem?_cons_succ, List.getElem?_cons_zero, bin_add, w1, bin_leq, condT_bool]
    by_cases hle : z.sum ≤ sum + w
    · simp only [hle, decide_true, if_true]
      exact skip z hg hle
    · have := rest (fun k hk => by rw [hg] at hk; obtain rfl := Option.some.inj hk; omega)
      simp only [hle, decide_false, Bool.false_eq_true, if_false]
      simpa only [nilE_ptr, bnd_some, fldE_ptr, Nat.zero_add, ldS_at e, ldS_at g3, ldS_at g8, List.getElem?_toArray, List.getElem?_cons_succ, List.getElem?_cons_zero, bin_add, w1, fill_mark] using this
end Go.Proofs.YtkiakofohkecaaaDoor

/- The program's look: the arcs of a node that was settled. No condition but that the memory is as told. -/
namespace Go.Proofs.YtkiakofohkecaaaDoor
open Go Go.Fw

theorem zcells (m : Mark) : m.val.cells = #[.int .i64 m.sum, .int .i64 m.from_, .int .i64 m.edge, .bool m.done] := rfl
theorem new_box4 (h : Hp) (a b c : Int) (d : Bool) : stE 4 (h.push (.cells #[.int .i64 0, .int .i64 0, .int .i64 0, .bool false] 93 (0, 0))) (.pointer (some ⟨h.size, 0, none⟩)) (.agg #[.int .i64 a, .int .i64 b, .int .i64 c, .bool d]) =
    some ((h.push (.cells #[.int .i64 0, .int .i64 0, .int .i64 0, .bool false] 93 (0, 0))).setIfInBounds h.size (.cells #[.int .i64 a, .int .i64 b, .int .i64 c, .bool d] 93 (0, 0))) := by
  rw [stE_at _ (get_new h _)]; simp [splice]
theorem new_box3 (h : Hp) (a b c : Int) : stE 3 (h.push (.cells #[.int .i64 0, .int .i64 0, .int .i64 0] 62 (0, 0))) (.pointer (some ⟨h.size, 0, none⟩)) (.agg #[.int .i64 a, .int .i64 b, .int .i64 c]) =
    some ((h.push (.cells #[.int .i64 0, .int .i64 0, .int .i64 0] 62 (0, 0))).setIfInBounds h.size (.cells #[.int .i64 a, .int .i64 b, .int .i64 c] 62 (0, 0))) := by
  rw [stE_at _ (get_new h _)]; simp [splice]
theorem box_fr (h : Hp) (o o' : Obj) (ho : frz (some o) = (0, 0)) (ho' : frz (some o') = (0, 0)) : Fr h ((h.push o).setIfInBounds h.size o') [] ∧ ((h.push o).setIfInBounds h.size o')[h.size]? = some o' :=
  ⟨(Fr.push h o [] ho).set_new (Nat.le_refl _) o' ho', get_set (get_new h o)⟩

theorem look_J3 {h : Hp} {p pm pn q3 q8 : Nat} {fv : Value} {hops : Bool} {M : List (Int × Mark)} {its : List Item} {ck : Int} {bl : List Nat} {order : List Int} {bo : List Nat} (H : SrAt h p pm pn fv hops M its ck bl order bo)
    {sum id w edge to wg : Int} (g3 : h[q3]? = some (.cells #[.int .i64 sum, .int .i64 id] 134 (0, 0))) (g8 : h[q8]? = some (.cells #[.int .i64 edge, .int .i64 to, .int .i64 wg] 62 (0, 0)))
    (hlen : its.length < 1099511627776) (hck : 0 ≤ ck ∧ ck < 1099511627776) (h0 : 0 ≤ sum) (hw : 0 ≤ w) (hf : sum + w ≤ 1099511627776)
    (n3 : q3 ∉ SB p pm pn bl bo) (n8 : q8 ∉ SB p pm pn bl bo) {t27 : Value} {I1 : List Value → Hp → Prop} {μ1 : List Value → Hp → Nat} {h_3 : Hp}
    (skip : ∀ k, gget M to = some k → k.sum ≤ sum + w → ∀ h', SrAt h' p pm pn fv hops M its ck bl order bo → Fr h h' [] → f71.J1 t27 I1 h' μ1 h_3)
    (take : (∀ k, gget M to = some k → sum + w < k.sum) → ∀ h' bl', SrAt h' p pm pn fv hops (gset M to ⟨sum + w, id, edge, false⟩) (siftUp ltOffer (its ++ [⟨sum + w, to, ck⟩]) its.length) (ck + 1) bl' order bo → Fr h h' (pm :: pn :: bl) → (∀ b ∈ bl', b ∈ bl ∨ h.size ≤ b) → f71.J1 t27 I1 h' μ1 h_3) :
    f71.J3 (.pointer (some ⟨p, 0, none⟩)) h (.pointer (some ⟨q8, 0, none⟩)) (.pointer (some ⟨q3, 0, none⟩)) (.int .i64 w) t27 I1 μ1 h_3 := by
  obtain ⟨ov, e, o⟩ := H.top
  have key : ∀ z : Mark, (∀ k, gget M to = some k → z = k) → f71.J2 (.bool (gget M to).isSome) (.pointer (some ⟨h.size, 0, none⟩)) ((h.push (.cells #[.int .i64 0, .int .i64 0, .int .i64 0, .bool false] 93 (0, 0))).setIfInBounds h.size (.cells #[.int .i64 z.sum, .int .i64 z.from_, .int .i64 z.edge, .bool z.done] 93 (0, 0))) (.pointer (some ⟨q3, 0, none⟩)) (.int .i64 w) t27 I1 μ1 h_3 (.pointer (some ⟨p, 0, none⟩)) (.pointer (some ⟨q8, 0, none⟩)) := fun z hz => by
    obtain ⟨f, g⟩ := box_fr h (.cells #[.int .i64 0, .int .i64 0, .int .i64 0, .bool false] 93 (0, 0)) (.cells #[.int .i64 z.sum, .int .i64 z.from_, .int .i64 z.edge, .bool z.done] 93 (0, 0)) rfl rfl
    generalize (h.push (.cells #[.int .i64 0, .int .i64 0, .int .i64 0, .bool false] 93 (0, 0))).setIfInBounds h.size (.cells #[.int .i64 z.sum, .int .i64 z.from_, .int .i64 z.edge, .bool z.done] 93 (0, 0)) = h9 at *
    have H9 := H.fr f (by simp)
    have fs := f.size
    refine look_J2 H9 (f.get g3 (by simp)) (f.get g8 (by simp)) g hz hlen hck h0 hw hf n3 n8 (fun k hk hle => skip k hk hle h9 H9 f) fun hk h' bl' H' f' hb => take hk h' bl' H' (f.trans f' (by simp) (fun c _ hc => hc)) fun b hb' => (hb b hb').imp_right fun h => by omega
  have hval : ∃ z : Mark, (∀ k, gget M to = some k → z = k) ∧ ((gget M to).map Mark.val).getD (.agg #[.int .i64 0, .int .i64 0, .int .i64 0, .bool false]) = z.val := by
    cases hg : gget M to with
    | none => exact ⟨⟨0, 0, 0, false⟩, ⟨fun k hk => by simp at hk, rfl⟩⟩
    | some k => exact ⟨k, ⟨fun k' hk => Option.some.inj hk, rfl⟩⟩
  obtain ⟨z, hz, hv⟩ := hval
  have kz := key z hz
  unfold f71.J3
  constructor
  · simp only [nilE_ptr, bnd_some, fldE_ptr, Nat.zero_add, ldS_at e, ldS_at g8, List.getElem?_toArray, List.getElem?_cons_succ, List.getElem?_cons_zero]
    refine H.look (ok := true) ?_
    simp only [if_true, hv, extE_tuple, List.getElem?_toArray, List.getElem?_cons_succ, List.getElem?_cons_zero, bnd_some, nw_eq, ptr0_eq, Mark.val, new_box4]
    exact kz
  · have f := Fr.push h (.cells #[.int .i64 0, .int .i64 0, .int .i64 0, .bool false] 93 (0, 0)) []
    simp only [nilE_ptr, bnd_some, fldE_ptr, Nat.zero_add, ldS_at e, ldS_at g8, List.getElem?_toArray, List.getElem?_cons_succ, List.getElem?_cons_zero, nw_eq, ptr0_eq]
    refine (H.fr f (by simp)).look (ok := true) ?_
    simp only [if_true, hv, extE_tuple, List.getElem?_toArray, List.getElem?_cons_succ, List.getElem?_cons_zero, bnd_some, Mark.val, new_box4]
    exact kz

def LInv (l : List Arc) (st : List Seen) (at_ : Seen) (start : Int) (hops : Bool) (nr0 : List Seen) (log0 : List (Seen × Arc)) (p pm pn : Nat) (fv : Value) (order : List Int) (bo : List Nat) (n0 : Nat) (ck0 : Int) (bl0 : List Nat) (h2 : Hp) (vs : List Value) (h : Hp) : Prop :=
  ∃ (j : Nat) (M : List (Int × Mark)) (its : List Item) (ck : Int) (bl : List Nat) (nr : List Seen), vs = [.int .i64 j] ∧ j ≤ l.length ∧ SrAt h p pm pn fv hops M its ck bl order bo ∧ Sim start hops st nr its M (log0 ++ (l.take j).map fun a => (at_, a)) ∧ (∀ t ∈ nr, at_.sum ≤ t.sum) ∧
    arcsL hops st at_.sum (l.drop j) nr = arcsL hops st at_.sum l nr0 ∧ its.length ≤ n0 + j ∧ 0 ≤ ck ∧ ck ≤ ck0 + j ∧ Fr h2 h (pm :: pn :: bl0) ∧ ∀ b ∈ bl, b ∈ bl0 ∨ h2.size ≤ b
/-- What a look tells. -/
def lookC (S : Sr) (st : List Seen) (at_ : Seen) (nr : List Seen) : Int := if (S.of at_.id).2 ≠ 0 then (S.of at_.id).2 else (arcsL S.hops st at_.sum (S.of at_.id).1 nr).1

set_option maxHeartbeats 2000000 in
theorem look_spec {h0 h : Hp} {fv : Value} {S : Sr} {Sh : List Int → List Nat → Hp → Prop} (A : ArcsOk h0 fv S.of Sh) {a : List Int} {B : List Nat} (hs : Sh a B h) (ha : a.length ≤ 68719476736)
    {p pm pn : Nat} {M : List (Int × Mark)} {its : List Item} {ck : Int} {bl : List Nat} {order : List Int} {bo : List Nat} (H : SrAt h p pm pn fv S.hops M its ck bl order bo) (hd : ∀ b ∈ SB p pm pn bl bo, h0.size ≤ b ∧ b ∉ B)
    {start : Int} {st nr : List Seen} {log : List (Seen × Arc)} (sim : Sim start S.hops st nr its M log) {at_ : Seen} (hm : at_ ∈ st) (hat : ∀ s ∈ st, s.sum ≤ at_.sum) (hnr : ∀ t ∈ nr, at_.sum ≤ t.sum) (hh : S.hops = true → at_.sum + 1 ≤ st.length) (hst : st.length ≤ 4096)
    (hlen : its.length ≤ 8589934592) (hck : 0 ≤ ck ∧ ck ≤ 8589934592) {R : Value → Hp → Prop}
    (hR : ∀ h' B' M' its' ck' bl', Sh (a ++ [at_.id]) B' h' → SrAt h' p pm pn fv S.hops M' its' ck' bl' order bo → Fr h h' (pm :: pn :: (bl ++ B)) → (∀ b ∈ B', b ∈ B ∨ h.size ≤ b) → (∀ b ∈ SB p pm pn bl' bo, h0.size ≤ b ∧ b ∉ B') → (∀ b ∈ bl', b ∈ bl ∨ h.size ≤ b) →
      (lookC S st at_ nr = 0 → Sim start S.hops st (arcsL S.hops st at_.sum (S.of at_.id).1 nr).2 its' M' (log ++ (S.of at_.id).1.map fun a => (at_, a)) ∧ (S.of at_.id).2 = 0 ∧ its'.length ≤ its.length + 1048576 ∧ 0 ≤ ck' ∧ ck' ≤ ck + 1048576) → R (.int .i64 (lookC S st at_ nr)) h') :
    CallsH Tryd.prog 71 #[.pointer (some ⟨p, 0, none⟩), .agg #[.int .i64 at_.sum, .int .i64 at_.id]] h R := by
  obtain ⟨ov, e, o⟩ := H.top
  have hlt := H.lt
  have ltB := A.lt hs
  refine f71.ok ?_
  unfold f71.T
  simp only [nw_eq, cells_agg, ptr0_eq]
  have f1 := Fr.push h (.cells #[.int .i64 at_.sum, .int .i64 at_.id] 134 (0, 0)) []
  have g3 := get_new h (.cells #[.int .i64 at_.sum, .int .i64 at_.id] 134 (0, 0))
  generalize h.push (.cells #[.int .i64 at_.sum, .int .i64 at_.id] 134 (0, 0)) = h1 at *
  have e1 := f1.get e (by simp)
  simp only [nilE_ptr, bnd_some, fldE_ptr, Nat.zero_add, ldS_at e1, ldS_at g3, List.getElem?_toArray, List.getElem?_cons_succ, List.getElem?_cons_zero]
  have hs1 := A.fr hs f1 (by simp)
  refine A.call at_.id hs1 ha fun h2 v B' hs2 f2 hB' rv => ?_
  have s1 := f1.size
  have s2 := f2.size
  have q3B : h.size ∉ B := fun hb => by have := (ltB.2 _ hb).2; omega
  have g3' := f2.get g3 q3B
  have F2 : Fr h h2 B := f1.trans f2 (by simp) (fun c _ hc => hc)
  have H2 := H.fr F2 fun b hb => (hd b hb).2
  have lt2 := H2.lt
  have ltB' := A.lt hs2
  have hB'' : ∀ b ∈ B', b ∈ B ∨ h.size ≤ b := fun b hb => (hB' b hb).imp_right fun h => by omega
  have dis : ∀ (bl' : List Nat), (∀ b ∈ bl', b ∈ bl ∨ h2.size ≤ b) → ∀ b ∈ SB p pm pn bl' bo, h0.size ≤ b ∧ b ∉ B' := fun bl' hb' b hb => by
    have : b ∈ SB p pm pn bl bo ∨ h2.size ≤ b := by
      simp only [SB, List.mem_cons, List.mem_append] at hb ⊢
      rcases hb with h | h | h | h | h
      · exact .inl (.inl h)
      · exact .inl (.inr (.inl h))
      · exact .inl (.inr (.inr (.inl h)))
      · exact (hb' b h).imp_left fun h => .inr (.inr (.inr (.inl h)))
      · exact .inl (.inr (.inr (.inr (.inr h))))
    rcases this with h | h
    · refine ⟨(hd b h).1, fun hb' => ?_⟩
      rcases hB'' b hb' with h' | h'
      · exact (hd b h).2 h'
      · have := hlt b h; omega
    · exact ⟨by have := ltB.1; omega, fun hb' => by have := (ltB'.2 b hb').2; omega⟩
  simp only [extE_tuple, List.getElem?_toArray, List.getElem?_cons_succ, List.getElem?_cons_zero, bnd_some, bin_neq, condT_bool]
  by_cases hc : (S.of at_.id).2 = 0
  · have hd0 : decide ((S.of at_.id).2 ≠ 0) = false := by simp [hc]
    simp only [hd0, Bool.false_eq_true, if_false]
    have hlk : lookC S st at_ nr = (arcsL S.hops st at_.sum (S.of at_.id).1 nr).1 := by simp [lookC, hc]
    have hal := A.len at_.id
    generalize hl : (S.of at_.id).1 = l at *
    obtain ⟨av, cv, rfl, xv⟩ := id rv
    simp only [lenE_sl, bnd_some, List.length_map]
    have fin : ∀ h' M' its' ck' bl' nr' (j : Nat), SrAt h' p pm pn fv S.hops M' its' ck' bl' order bo → Fr h2 h' (pm :: pn :: bl) → (∀ b ∈ bl', b ∈ bl ∨ h2.size ≤ b) → j ≤ l.length → Sim start S.hops st nr' its' M' (log ++ (l.take j).map fun a => (at_, a)) → (lookC S st at_ nr = 0 → j = l.length ∧ (arcsL S.hops st at_.sum l nr).2 = nr') → its'.length ≤ its.length + j → 0 ≤ ck' → ck' ≤ ck + j → R (.int .i64 (lookC S st at_ nr)) h' :=
      fun h' M' its' ck' bl' nr' j H' f' hb' hj sim' hz hi hc0 hc1 => by
        refine hR h' B' M' its' ck' bl' (A.fr hs2 f' fun b hb => ?_) H' (F2.trans f' (fun c _ hc => by simp [hc]) (fun c _ hc => by simp only [List.mem_cons] at hc; rcases hc with h | h | h <;> simp [h])) hB'' (dis bl' hb') (fun b hb => (hb' b hb).imp_right fun h => by omega) fun h0' => ?_
        · exact dis bl (fun b hb => .inl hb) b (by simp only [SB, List.mem_cons, List.mem_append] at hb ⊢; rcases hb with h | h | h <;> simp [h])
        · obtain ⟨rfl, e2⟩ := hz h0'
          rw [List.take_length] at sim'
          rw [e2]
          exact ⟨sim', hc, by omega, hc0, by omega⟩
    unfold f71.L1
    refine ⟨LInv l st at_ start S.hops nr log p pm pn fv order bo its.length ck bl h2, muI l.length, ⟨0, M, its, ck, bl, nr, rfl, by omega, H2, by simpa using sim, hnr, rfl, by omega, hck.1, by omega, Fr.refl _ _, fun b hb => .inl hb⟩, ?_⟩
    intro t28 t29 t30 t8 t31 t32 t34 t35 t36 t37 t33 t9 t39 t40 t38 t42 t43 t44 t45 t46 t41 t4 t48 t49 t50 t51 t52 t53 t54 t47 t55 t56 t10 t11 t57 t58 t59 t60 t61 t62 t63 t64 t65 t66 t67 t68 t69 t70 t71 t72 t73 t74 t75 t76 t77 t78 t79 t80 t81 t82 t83 t84 t85 t86 t87 t88 t89 t90 t91 t92 t93 t94 t27 h3
    rintro ⟨j, M3, its3, ck3, bl3, nr3, hv, hj, H3, sim3, hnr3, har, hi3, hc30, hc31, f3, hb3⟩
    obtain rfl : t27 = .int .i64 j := by simpa using hv
    simp only [bin_lss, bnd_some, condT_bool]
    have s3 := f3.size
    have hx0 : ∀ b ∈ pm :: pn :: bl, b ∈ SB p pm pn bl bo := fun b hb => by simp only [SB, List.mem_cons, List.mem_append] at hb ⊢; rcases hb with h | h | h <;> simp [h]
    have q3S : h.size ∉ pm :: pn :: bl := fun hb => by have := hlt _ (hx0 _ hb); omega
    have g3'' := f3.get g3' q3S
    by_cases hlt' : j < l.length
    · have hdec : decide ((j : Int) < (l.length : Int)) = true := by simp; omega
      have w1 : IntKind.i64.wrap ((j : Int) + 1) = ((j + 1 : Nat) : Int) := by rw [i64_id (by omega) (by omega)]; omega
      have rv3 := rv.fr f3 fun b hb hb' => (dis bl (fun b hb => .inl hb) b (hx0 b hb')).2 hb
      obtain ⟨bb, oo, ei, hbl, rd⟩ := rv3.rowv.get (i := j) (x := (l[j]).enc) (by simp [hlt']) .i64
      have rall := (rd h3 (Fr.refl _ _)).2
      simp only [Arc.enc, List.length_map] at ei rall
      simp only [hdec, if_true, ei, rall, bnd_some, nw_eq, ptr0_eq, new_box3]
      obtain ⟨f5, g8⟩ := box_fr h3 (.cells #[.int .i64 0, .int .i64 0, .int .i64 0] 62 (0, 0)) (.cells #[.int .i64 l[j].edge, .int .i64 l[j].to, .int .i64 l[j].weight] 62 (0, 0)) rfl rfl
      generalize (h3.push (.cells #[.int .i64 0, .int .i64 0, .int .i64 0] 62 (0, 0))).setIfInBounds h3.size (.cells #[.int .i64 l[j].edge, .int .i64 l[j].to, .int .i64 l[j].weight] 62 (0, 0)) = h5 at *
      have H5 := H3.fr f5 (by simp)
      obtain ⟨ov5, e5, o5⟩ := H5.top
      have lt3 := H3.lt
      have lg3 := lt_of_get g3
      have s5 := f5.size
      have g35 := f5.get g3'' (by simp)
      have n8 : h3.size ∉ SB p pm pn bl3 bo := fun hb => by have := lt3 _ hb; omega
      have n3 : h.size ∉ SB p pm pn bl3 bo := fun hb => by
        simp only [SB, List.mem_cons, List.mem_append] at hb
        have hx : ∀ b ∈ SB p pm pn bl bo, b ≠ h.size := fun b hb => by have := hlt b hb; omega
        simp only [SB, List.mem_cons, List.mem_append] at hx
        rcases hb with h | h | h | h | h
        · exact hx _ (.inl h) rfl
        · exact hx _ (.inr (.inl h)) rfl
        · exact hx _ (.inr (.inr (.inl h))) rfl
        · rcases hb3 _ h with h | h
          · exact hx _ (.inr (.inr (.inr (.inl h)))) rfl
          · omega
        · exact hx _ (.inr (.inr (.inr (.inr h)))) rfl
      have hdr : l.drop j = l[j] :: l.drop (j + 1) := List.drop_eq_getElem_cons hlt'
      have hlog : (log ++ (l.take j).map fun a => (at_, a)) ++ [(at_, l[j])] = log ++ (l.take (j + 1)).map fun a => (at_, a) := by
        rw [List.take_add_one, List.getElem?_eq_getElem hlt', Option.toList_some, List.map_append, List.append_assoc]; rfl
      have hat0 := (sim3.top at_ (by simp [hm])).1
      have mu := fun h' => muI_lt h3 h' hlt'
      have step : 0 ≤ wt S.hops l[j] → wt S.hops l[j] ≤ 1099511627776 - at_.sum → f71.J3 (.pointer (some ⟨p, 0, none⟩)) h5 (.pointer (some ⟨h3.size, 0, none⟩)) (.pointer (some ⟨h.size, 0, none⟩)) (.int .i64 (wt S.hops l[j])) (.int .i64 (j : Int)) (LInv l st at_ start S.hops nr log p pm pn fv order bo its.length ck bl h2) (muI l.length) h3 := fun hw0 hwf => by
        have hne0 : ¬ wt S.hops l[j] < 0 := by omega
        have hnef : ¬ 1099511627776 - at_.sum < wt S.hops l[j] := by omega
        rw [hdr] at har
        simp only [arcsL, if_neg hne0, if_neg hnef] at har
        refine look_J3 H5 g35 g8 (by omega) ⟨hc30, by omega⟩ hat0 hw0 (by omega) n3 n8 (fun k hk hle h' H' f' => ?_) fun hk h' bl' H' f' hb' => ?_
        · obtain ⟨sim', en⟩ := sim3.skip hm hk hle
          rw [hlog] at sim'
          rw [en] at har
          unfold f71.J1
          simp only [bin_add, bnd_some, w1]
          exact ⟨⟨j + 1, M3, its3, ck3, bl3, nr3, rfl, by omega, H', sim', hnr3, har, by omega, hc30, by omega, f3.trans (f5.then f') (fun _ _ h => h) (by simp), hb3⟩, mu h'⟩
        · obtain ⟨sim', hlow⟩ := sim3.take hm hat hnr3 hh hw0 hwf hk ck3
          rw [hlog] at sim'
          unfold f71.J1
          simp only [bin_add, bnd_some, w1]
          refine ⟨⟨j + 1, _, _, ck3 + 1, bl', _, rfl, by omega, H', sim', hlow, har, ?_, by omega, by omega, f3.trans (f5.trans f' (by simp) (fun c _ hc => hc)) (fun _ _ h => h) (fun c hc hm' => ?_), fun b hb => ?_⟩, mu h'⟩
          · rw [siftUp_len _ (by simp)]; simp; omega
          · simp only [List.mem_cons] at hm' ⊢
            rcases hm' with h | h | h
            · exact .inl h
            · exact .inr (.inl h)
            · rcases hb3 _ h with h | h
              · exact .inr (.inr h)
              · omega
          · rcases hb' b hb with h | h
            · exact hb3 b h
            · exact .inr (by omega)
      simp only [fldE_ptr, bnd_some, Nat.zero_add, ldS_at g8, ldS_at e5, nilE_ptr, List.getElem?_toArray, List.getElem?_cons_succ, List.getElem?_cons_zero, condT_bool]
      cases hop : S.hops
      · simp only [Bool.false_eq_true, if_false, bin_lss, bnd_some, condT_bool]
        have hwe : wt S.hops l[j] = l[j].weight := by simp [wt, hop]
        by_cases hneg : l[j].weight < 0
        · simp only [hneg, decide_true, if_true]
          have har' : (arcsL S.hops st at_.sum l nr).1 = 90 := by rw [← har, hdr]; simp [arcsL, hwe, hneg]
          have := fin h5 M3 its3 ck3 bl3 nr3 j H5 (f3.trans f5 (fun _ _ h => h) (by simp)) hb3 hj sim3 (fun h0' => by rw [hlk, har'] at h0'; cases h0') hi3 hc30 hc31
          rwa [hlk, har'] at this
        · simp only [hneg, decide_false, Bool.false_eq_true, if_false, ldS_at g35, List.getElem?_toArray, List.getElem?_cons_zero, bnd_some, bin_sub, bin_gtr, condT_bool]
          have hatt := (sim3.top at_ (by simp [hm])).2.1
          have w2 : IntKind.i64.wrap (1099511627776 - at_.sum) = 1099511627776 - at_.sum := i64_id (by omega) (by omega)
          rw [w2]
          by_cases hfar : 1099511627776 - at_.sum < l[j].weight
          · have hfar' : decide (l[j].weight > 1099511627776 - at_.sum) = true := decide_eq_true hfar
            simp only [hfar', if_true]
            have har' : (arcsL S.hops st at_.sum l nr).1 = 91 := by rw [← har, hdr]; simp [arcsL, hwe, hneg, hfar]
            have := fin h5 M3 its3 ck3 bl3 nr3 j H5 (f3.trans f5 (fun _ _ h => h) (by simp)) hb3 hj sim3 (fun h0' => by rw [hlk, har'] at h0'; cases h0') hi3 hc30 hc31
            rwa [hlk, har'] at this
          · have hfar' : decide (l[j].weight > 1099511627776 - at_.sum) = false := decide_eq_false hfar
            simp only [hfar', Bool.false_eq_true, if_false]
            have := step (by omega) (by omega)
            rw [hwe, hop] at this
            exact this
      · have hwe : wt S.hops l[j] = 1 := by simp [wt, hop]
        have := hh hop
        have := step (by omega) (by omega)
        rw [hwe, hop] at this
        simpa only [if_true] using this
    · have hdec : decide ((j : Int) < (l.length : Int)) = false := by simp; omega
      obtain rfl : j = l.length := by omega
      simp only [hdec, Bool.false_eq_true, if_false]
      have har' : arcsL S.hops st at_.sum l nr = (0, nr3) := by rw [← har]; simp [arcsL]
      have := fin h3 M3 its3 ck3 bl3 nr3 l.length H3 f3 hb3 (by omega) sim3 (fun _ => ⟨rfl, by rw [har']⟩) hi3 hc30 hc31
      rwa [hlk, har'] at this
  · have hd0 : decide ((S.of at_.id).2 ≠ 0) = true := by simp [hc]
    simp only [hd0, if_true]
    have hlk : lookC S st at_ nr = (S.of at_.id).2 := by simp [lookC, hc]
    have := hR h2 B' M its ck bl hs2 H2 (F2.mono fun c _ hc => by simp [hc]) hB'' (dis bl fun b hb => .inl hb) (fun b hb => .inl hb) (fun h0' => absurd (hlk ▸ h0') hc)
    rwa [hlk] at this
end Go.Proofs.YtkiakofohkecaaaDoor

/- The program's run, its parts: a thing is taken from the search's heap, a node is settled. No condition but that the memory is as told. -/
namespace Go.Proofs.YtkiakofohkecaaaDoor
open Go Go.Fw

section
variable {h h' : Hp} {p pm pn : Nat} {fv : Value} {hops : Bool} {M : List (Int × Mark)} {its : List Item} {ck : Int} {bl : List Nat} {order : List Int} {bo S : List Nat}
theorem SrAt.pop (H : SrAt h p pm pn fv hops M its ck bl order bo) (hlen : its.length < 1099511627776) {R : Value → Hp → Prop}
    (h0 : ∀ h', its = [] → SrAt h' p pm pn fv hops M [] ck bl order bo → Fr h h' [] → R (.tuple #[.agg #[.int .i64 0, .int .i64 0], .bool false]) h')
    (hR : ∀ h' x rest, its = x :: rest → SrAt h' p pm pn fv hops M (popped ltOffer its) ck bl order bo → Fr h h' (pn :: bl) → R (.tuple #[.agg #[.int .i64 x.key, .int .i64 x.tag], .bool true]) h') :
    CallsH Tryd.prog 70 #[.pointer (some ⟨pn, 0, none⟩)] h R := by
  refine pop_spec lessOk68 (L := []) (by simp [Has]) (by simp) (by simp) H.heap hlen (fun h' hi f => h0 h' hi (hi ▸ H.fr f (by simp)) f) fun h' b cap x rest hi hb H' f => ?_
  subst hb
  obtain ⟨ov, e, o⟩ := H.top
  obtain ⟨n1, n2, n3, n4, n5⟩ := H.ne
  refine hR h' x rest hi ⟨⟨ov, f.get e ?_, o.fr f fun c hc => ?_⟩, H.map.fr f ?_, .inr ⟨b, cap, rfl, H'⟩, H.ne⟩ f
  · simp; exact ⟨n2, fun hp => (n4 b (by simp)).1 hp.symm⟩
  · simp; exact ⟨(n5 c hc).2.2, fun hp => (n4 b (by simp)).2.2 (hp ▸ hc)⟩
  · simp; exact ⟨n3, fun hp => (n4 b (by simp)).2.1 hp.symm⟩

/-- The order grows. -/
theorem SrAt.ord (H : SrAt h p pm pn fv hops M its ck bl order bo) (hlen : order.length ≤ 1048576) {k : Int} {K : Hp → Prop}
    (hK : ∀ h' bo', SrAt h' p pm pn fv hops M its ck bl (order ++ [k]) bo' → Fr h h' (p :: bo) → (∀ b ∈ bo', b ∈ bo ∨ h.size ≤ b) → K h') :
    (bnd (nilE (.pointer (some ⟨p, 0, none⟩))) fun t69_1 =>
     bnd (fldE 4 t69_1) fun t70_1 =>
     bnd (ldS h t70_1) fun t71_1 =>
     bnd (fillR 1 #[(.int .i64 0)] [(0, .int .i64 k)]) fun c =>
     nw h c 2 (fun b => .slice (some ⟨b, 0, none⟩) 1 1) fun t74_1 h_9 =>
     efS Tryd.prog (Go.Builtin.append_ #[28, 28] 28 #[t71_1, t74_1]) h_9 fun t75_1 h_10 =>
     bnd (nilE (.pointer (some ⟨p, 0, none⟩))) fun t76_1 =>
     bnd (fldE 4 t76_1) fun t77_1 =>
     bnd (stE 1 h_10 t77_1 t75_1) fun h_11 => K h_11) := by
  obtain ⟨ov, e, o⟩ := H.top
  obtain ⟨n1, n2, n3, n4, n5⟩ := H.ne
  have hlt := H.lt
  simp only [nilE_ptr, bnd_some, fldE_ptr, Nat.zero_add, ldS_at e, List.getElem?_toArray, List.getElem?_cons_succ, List.getElem?_cons_zero, fill_int, nw_eq]
  have f1 := Fr.push h (.cells #[.int .i64 k] 2 (0, 0)) []
  have g1 := get_new h (.cells #[.int .i64 k] 2 (0, 0))
  generalize h.push (.cells #[.int .i64 k] 2 (0, 0)) = h1 at *
  refine own_app elem28 (o.fr f1 (by simp)) (seg_one g1) (by simp) (by simp [ints]; omega) (by simp [ints]; omega) fun h2 ov' bo' o' f2 hb => ?_
  have f1s := f1.size
  have F2 : Fr h h2 bo := f1.trans f2 (by simp) (fun c _ hc => hc)
  have np : p ∉ bo := fun hp => (n5 p hp).1 rfl
  have e2 := F2.get e np
  have st3 : stE 1 h2 (.pointer (some ⟨p, 4, none⟩)) ov' = some (h2.setIfInBounds p (.cells #[fv, .bool hops, .map (some pm), .pointer (some ⟨pn, 0, none⟩), ov'] 97 (0, 0))) := by
    rw [stE_at _ e2]; simp [splice, o'.cells, o'.one]
  have e3 := get_set (o' := .cells #[fv, .bool hops, .map (some pm), .pointer (some ⟨pn, 0, none⟩), ov'] 97 (0, 0)) e2
  have f3 : Fr h2 (h2.setIfInBounds p (.cells #[fv, .bool hops, .map (some pm), .pointer (some ⟨pn, 0, none⟩), ov'] 97 (0, 0))) [p] := Fr.set _ _ _ (fun _ => by simp) (by rw [e2]; rfl)
  simp only [st3, bnd_some]
  generalize h2.setIfInBounds p (.cells #[fv, .bool hops, .map (some pm), .pointer (some ⟨pn, 0, none⟩), ov'] 97 (0, 0)) = h3 at *
  have F3 : Fr h h3 (p :: bo) := F2.trans f3 (fun c _ hc => by simp [hc]) (fun c _ hc => by simp at hc; simp [hc])
  have hb' : ∀ b ∈ bo', b ∈ bo ∨ h.size ≤ b := fun b hb' => (hb b hb').imp_right fun h => by omega
  have lp := lt_of_get e
  have np' : p ∉ bo' := fun hp => by rcases hb' p hp with h | h; exact np h; omega
  refine hK h3 bo' ⟨⟨ov', e3, by simpa [ints] using o'.fr f3 fun b hb hb2 => by simp at hb2; subst hb2; exact np' hb⟩, H.map.fr F3 ?_, H.heap.fr F3 ?_ ?_, n1, n2, n3, fun b hb => ⟨(n4 b hb).1, (n4 b hb).2.1, fun hbo => ?_⟩, fun b hb => ?_⟩ F3 hb'
  · simp; exact ⟨n1.symm, fun hp => (n5 pm hp).2.1 rfl⟩
  · simp; exact ⟨n2.symm, fun hp => (n5 pn hp).2.2 rfl⟩
  · intro b hb; simp; exact ⟨(n4 b hb).1, (n4 b hb).2.2⟩
  · rcases hb' b hbo with h | h
    · exact (n4 b hb).2.2 h
    · have := hlt b (by simp [SB, hb]); omega
  · rcases hb' b hb with h | h
    · exact n5 b h
    · have := hlt p (by simp [SB]); have := hlt pm (by simp [SB]); have := hlt pn (by simp [SB]); exact ⟨by omega, by omega, by omega⟩

def olen (h : Hp) (p : Nat) : Nat :=
  match h[p]? with
  | some (.cells c _ _) => (match (c[4]? : Option Value) with
    | some (.slice _ n _) => n
    | _ => 0)
  | _ => 0
def ilen (h : Hp) (p : Nat) : Nat :=
  match h[p]? with
  | some (.cells c _ _) => (match (c[1]? : Option Value) with
    | some (.slice _ n _) => n
    | _ => 0)
  | _ => 0
theorem SrAt.olen (H : SrAt h p pm pn fv hops M its ck bl order bo) : olen h p = order.length := by
  obtain ⟨ov, e, o⟩ := H.top
  rcases o with ⟨rfl, hx, _⟩ | ⟨b, cap, rfl, _, _⟩
  · simp [ints] at hx; subst hx; simp [Proofs.YtkiakofohkecaaaDoor.olen, e]
  · simp [Proofs.YtkiakofohkecaaaDoor.olen, e, ints]
theorem SrAt.ilen (H : SrAt h p pm pn fv hops M its ck bl order bo) : ilen h pn = its.length := by
  rcases H.heap with ⟨rfl, _, e⟩ | ⟨b, cap, _, H⟩
  · simp [Proofs.YtkiakofohkecaaaDoor.ilen, e]
  · simp [Proofs.YtkiakofohkecaaaDoor.ilen, H.top]
def muR (p pn : Nat) (_ : List Value) (h : Hp) : Nat := (4097 - olen h p) * 1048578 + ilen h pn
end

/-- A function value that tells f of a number, where the blocks L are there. -/
structure FnOk (L : List (Nat × Obj)) (g : Value) (f : Int → Bool) : Prop where
  call : ∀ (h : Hp) (k : Int) (K : Value → Hp → Prop), Has h L → K (.bool (f k)) h → callV Tryd.prog g #[.int .i64 k] h K

theorem run_J1 {h : Hp} {p pm pn q10 q12 : Nat} {fv t2 t3 : Value} {hops : Bool} {M : List (Int × Mark)} {its : List Item} {ck : Int} {bl : List Nat} {order : List Int} {bo : List Nat} (H : SrAt h p pm pn fv hops M its ck bl order bo)
    {key tag : Int} {k : Mark} (g10 : h[q10]? = some (.cells #[.int .i64 key, .int .i64 tag] 134 (0, 0))) (g12 : h[q12]? = some (.cells #[.int .i64 k.sum, .int .i64 k.from_, .int .i64 k.edge, .bool k.done] 93 (0, 0)))
    (n10 : q10 ∉ SB p pm pn bl bo) (n12 : q12 ∉ SB p pm pn bl bo) (nq : q10 ≠ q12) (ho : order.length ≤ 4096) {L : List (Nat × Obj)} {over asks : Int → Bool} (ov : FnOk L t2 over) (asx : FnOk L t3 asks) (hL : Has h L) (hLd : ∀ x ∈ L, x.1 ≠ q12 ∧ x.1 ∉ SB p pm pn bl bo)
    {I1 : List Value → Hp → Prop} {μ1 : List Value → Hp → Nat} {h_3 : Hp} {R : Value → Hp → Prop}
    (stale : k.done = true ∨ k.sum ≠ key → I1 [] h ∧ μ1 [] h < μ1 [] h_3)
    (full : k.done = false → k.sum = key → order.length = 4096 → R (.tuple #[.bool false, .int .i64 92]) h)
    (settle : k.done = false → k.sum = key → order.length < 4096 → ∀ h' bo', SrAt h' p pm pn fv hops (gset M tag { k with done := true }) its ck bl (order ++ [tag]) bo' → Fr h h' (q12 :: pm :: p :: bo) → (∀ b ∈ bo', b ∈ bo ∨ h.size ≤ b) →
      (over tag = true → R (.tuple #[.bool true, .int .i64 0]) h') ∧
      (over tag = false → asks key = false → I1 [] h' ∧ μ1 [] h' < μ1 [] h_3) ∧
      (over tag = false → asks key = true → ∀ K : Value → Hp → Prop, (∀ (c : Int) h'', (c ≠ 0 → R (.tuple #[.bool false, .int .i64 c]) h'' → K (.int .i64 c) h'') ∧ (c = 0 → (I1 [] h'' ∧ μ1 [] h'' < μ1 [] h_3) → K (.int .i64 c) h'')) → CallsH Tryd.prog 71 #[.pointer (some ⟨p, 0, none⟩), .agg #[.int .i64 key, .int .i64 tag]] h' K)) :
    f49.J1 (.pointer (some ⟨q12, 0, none⟩)) h (.pointer (some ⟨q10, 0, none⟩)) I1 μ1 h_3 (.pointer (some ⟨p, 0, none⟩)) R t2 t3 := by
  obtain ⟨ovv, e, o⟩ := H.top
  unfold f49.J1
  simp only [fldE_ptr, Nat.zero_add, bnd_some, ldS_at g12, ldS_at g10, List.getElem?_toArray, List.getElem?_cons_succ, List.getElem?_cons_zero, isB_bool, asB_bool, Option.map_some]
  cases hk : k.done
  · simp only [beq_self_eq_true, cond_true, cond_false, bnd_some, ldS_at g12, ldS_at g10, List.getElem?_toArray, List.getElem?_cons_succ, List.getElem?_cons_zero, bin_neq, condT_bool]
    by_cases hs : k.sum = key
    · have hne : decide (k.sum ≠ key) = false := by simp [hs]
      simp only [ne_eq, hs, not_true_eq_false, decide_false, Bool.false_eq_true, if_false, nilE_ptr, bnd_some, fldE_ptr, Nat.zero_add, ldS_at e, List.getElem?_toArray, List.getElem?_cons_succ, List.getElem?_cons_zero, o.lenE, bin_eql, condT_bool]
      have hol : (ints order).length = order.length := by simp [ints]
      rw [hol]
      by_cases hf : order.length = 4096
      · have hd : decide ((order.length : Int) = 4096) = true := by simp; omega
        simp only [hd, if_true]
        exact full hk hs hf
      · have hd : decide ((order.length : Int) = 4096) = false := by simp; omega
        have st7 : stE 1 h (.pointer (some ⟨q12, 3, none⟩)) (.bool true) = some (h.setIfInBounds q12 (.cells #[.int .i64 k.sum, .int .i64 k.from_, .int .i64 k.edge, .bool true] 93 (0, 0))) := by
          rw [stE_at _ g12]; simp [splice, hk]
        have e7 := get_set (o' := .cells #[.int .i64 k.sum, .int .i64 k.from_, .int .i64 k.edge, .bool true] 93 (0, 0)) g12
        have f7 : Fr h (h.setIfInBounds q12 (.cells #[.int .i64 k.sum, .int .i64 k.from_, .int .i64 k.edge, .bool true] 93 (0, 0))) [q12] := Fr.set _ _ _ (fun _ => by simp) (by rw [g12]; rfl)
        simp only [hd, Bool.false_eq_true, if_false, st7, bnd_some]
        generalize h.setIfInBounds q12 (.cells #[.int .i64 k.sum, .int .i64 k.from_, .int .i64 k.edge, .bool true] 93 (0, 0)) = h7 at *
        have H7 := H.fr f7 (fun b hb hb' => by simp at hb'; subst hb'; exact n12 hb)
        obtain ⟨ov7, e7', o7⟩ := H7.top
        have g107 := f7.get g10 (by simpa using nq)
        have l7 : ldA 4 h7 (.pointer (some ⟨q12, 0, none⟩)) = some (Mark.val { k with done := true }) := by rw [ldA_at e7]; simp [Mark.val]
        simp only [nilE_ptr, bnd_some, fldE_ptr, Nat.zero_add, ldS_at e7', ldS_at g107, List.getElem?_toArray, List.getElem?_cons_succ, List.getElem?_cons_zero, l7]
        refine H7.mark fun h8 H8 f8 => ?_
        have hx : ∀ b, b ∉ SB p pm pn bl bo → b ∉ [pm] := fun b hb => by simp [SB] at hb ⊢; exact hb.2.1
        have g108 := f8.get g107 (hx _ n10)
        have F8 : Fr h h8 (q12 :: pm :: p :: bo) := f7.trans f8 (fun c _ hc => by simp at hc; simp [hc]) (fun c _ hc => by simp at hc; simp [hc])
        have ord := H8.ord (k := tag) (by omega) (K := fun h_11 =>
          bnd (fldE 1 (.pointer (some ⟨q10, 0, none⟩))) fun t79_1 =>
          bnd (ldS h_11 t79_1) fun t80_1 =>
          callV Tryd.prog t2 #[t80_1] h_11 fun t81_1 h_12 =>
          condT t81_1 (
          R (.tuple #[(.bool true), (.int .i64 0)]) h_12) (
          bnd (fldE 0 (.pointer (some ⟨q10, 0, none⟩))) fun t83_1 =>
          bnd (ldS h_12 t83_1) fun t84_1 =>
          callV Tryd.prog t3 #[t84_1] h_12 fun t85_1 h_13 =>
          condT t85_1 (
          bnd (ldA 2 h_13 (.pointer (some ⟨q10, 0, none⟩))) fun t87_1 =>
          CallsH Tryd.prog 71 #[(.pointer (some ⟨p, 0, none⟩)), t87_1] h_13 fun t88_1 h_14 =>
          bnd (binE .neq t88_1 (.int .i64 0)) fun t90_1 =>
          condT t90_1 (
          R (.tuple #[(.bool false), t88_1]) h_14) (
          (I1 [] h_14 ∧ μ1 [] h_14 < μ1 [] h_3))) (
          (I1 [] h_13 ∧ μ1 [] h_13 < μ1 [] h_3)))) fun h11 bo' H11 f11 hb11 => ?_
        · simp only [nilE_ptr, bnd_some, fldE_ptr, Nat.zero_add, ldS_at g108, List.getElem?_toArray, List.getElem?_cons_succ, List.getElem?_cons_zero] at ord ⊢
          exact ord
        · have g11 := f11.get g108 (fun hb => n10 (by simp only [SB, List.mem_cons, List.mem_append] at hb ⊢; rcases hb with h | h <;> simp [h]))
          have F11 : Fr h h11 (q12 :: pm :: p :: bo) := F8.trans f11 (fun _ _ h => h) (fun c _ hc => by simp only [List.mem_cons] at hc ⊢; rcases hc with h | h <;> simp [h])
          have fs8 := F8.size
          obtain ⟨s1, s2, s3⟩ := settle hk hs (by omega) h11 bo' H11 F11 (fun b hb => (hb11 b hb).imp_right fun h => by omega)
          have hL11 : Has h11 L := hL.fr F11 fun x hx hb => by
            simp only [List.mem_cons] at hb
            have := (hLd x hx).2
            simp only [SB, List.mem_cons, List.mem_append, not_or] at this
            rcases hb with h | h | h | h
            · exact (hLd x hx).1 h
            · exact this.2.1 h
            · exact this.1 h
            · exact this.2.2.2.2 h
          simp only [fldE_ptr, bnd_some, Nat.zero_add, ldS_at g11, List.getElem?_toArray, List.getElem?_cons_succ, List.getElem?_cons_zero]
          refine ov.call h11 tag _ hL11 ?_
          cases hov : over tag
          · simp only [condT_bool, Bool.false_eq_true, if_false, bnd_some, ldS_at g11, List.getElem?_toArray, List.getElem?_cons_zero]
            refine asx.call h11 key _ hL11 ?_
            have l11 : ldA 2 h11 (.pointer (some ⟨q10, 0, none⟩)) = some (.agg #[.int .i64 key, .int .i64 tag]) := by rw [ldA_at g11]; simp
            cases has : asks key
            · simp only [condT_bool, Bool.false_eq_true, if_false]
              exact s2 hov has
            · simp only [condT_bool, if_true, l11, bnd_some]
              refine s3 hov has _ fun c h'' => ⟨fun hc hR => ?_, fun hc hI => ?_⟩
              · simpa [hc] using hR
              · simpa [hc] using hI
          · simp only [condT_bool, if_true]
            exact s1 hov
    · have hne : decide (¬ k.sum = key) = true := by simp [hs]
      simp only [ne_eq, hne, if_true]
      exact stale (.inr hs)
  · simp only [isB_undef, show (true == false) = false from rfl, cond_false, cond_true, bnd_some, condT_bool, if_true]
    exact stale (.inl hk)
end Go.Proofs.YtkiakofohkecaaaDoor

/- The program's run goes as the document's search. No condition but that the memory is as told. -/
namespace Go.Proofs.YtkiakofohkecaaaDoor
open Go Go.Fw

/-- The arcs that were looked at, in order. -/
def logF (S : Sr) (st : List Seen) : List (Seen × Arc) := st.flatMap fun s => if S.asks s.sum then (S.of s.id).1.map fun a => (s, a) else []
theorem logF_app (S : Sr) (st : List Seen) (s : Seen) : logF S (st ++ [s]) = logF S st ++ if S.asks s.sum then (S.of s.id).1.map fun a => (s, a) else [] := by simp [logF]
theorem popped_len (x : Item) (rest : List Item) : (popped ltOffer (x :: rest)).length = rest.length := by
  have := (pop_perm ltOffer x rest).length_eq
  simpa using this
theorem search_start (S : Sr) (start : Int) : restF S 4096 [] [⟨start, 0⟩] [] = searchF S start := by
  have hL : LeastTo [(⟨start, 0⟩ : Seen)] [(⟨start, 0⟩ : Seen)].length 0 := ⟨by simp, fun j hj => by
    obtain rfl : j = 0 := by simpa using hj
    simp [lessS]⟩
  have := leastI_eq (l := [(⟨start, 0⟩ : Seen)]) (by simp [ids]) hL
  have gen : ∀ n, restF S (n + 1) [] [⟨start, 0⟩] [] = settleF S (restF S n) ⟨start, 0⟩ [] [] [] := fun n => by
    simp only [restF, this]; rfl
  exact gen 4095

/-- The loop's state. -/
structure RunI (h0 hs : Hp) (S : Sr) (Sh : List Int → List Nat → Hp → Prop) (a0 : List Int) (B0 : List Nat) (p pm pn : Nat) (fv : Value) (start : Int) (h : Hp) (st nr : List Seen) (its : List Item) (M : List (Int × Mark)) (ck : Int) (bl bo : List Nat) (a : List Int) (B : List Nat) : Prop where
  sh : Sh (a0 ++ a) B h
  sr : SrAt h p pm pn fv S.hops M its ck bl (ids st) bo
  sim : Sim start S.hops st nr its M (logF S st)
  rest : restF S (4096 - st.length) st nr a = searchF S start
  n1 : st.length ≤ 4096
  n2 : a.length ≤ st.length
  n3 : its.length ≤ 1 + st.length * 1048577
  n4 : 0 ≤ ck ∧ ck ≤ 1 + st.length * 1048577
  dis : ∀ b ∈ SB p pm pn bl bo, h0.size ≤ b ∧ b ∉ B
  fr : Fr hs h (p :: pm :: pn :: B0)
  new : ∀ b ∈ bl ++ bo, hs.size ≤ b
  newB : ∀ b ∈ B, b ∈ B0 ∨ hs.size ≤ b
def RunInv (h0 hs : Hp) (S : Sr) (Sh : List Int → List Nat → Hp → Prop) (a0 : List Int) (B0 : List Nat) (p pm pn : Nat) (fv : Value) (start : Int) (_ : List Value) (h : Hp) : Prop :=
  ∃ st nr its M ck bl bo a B, RunI h0 hs S Sh a0 B0 p pm pn fv start h st nr its M ck bl bo a B
/-- What the run leaves. -/
structure RunEnd (h0 hs : Hp) (S : Sr) (Sh : List Int → List Nat → Hp → Prop) (a0 : List Int) (B0 : List Nat) (p pm pn : Nat) (fv : Value) (start : Int) (h : Hp) (B : List Nat) : Prop where
  sh : Sh (a0 ++ (searchF S start).asked) B h
  fr : Fr hs h (p :: pm :: pn :: B0)
  newB : ∀ b ∈ B, b ∈ B0 ∨ hs.size ≤ b
  good : (searchF S start).code = 0 → ∃ nr its M ck bl bo log, SrAt h p pm pn fv S.hops M its ck bl (ids (searchF S start).settled) bo ∧ Sim start S.hops (searchF S start).settled nr its M log ∧ (∀ b ∈ SB p pm pn bl bo, h0.size ≤ b ∧ b ∉ B) ∧ (∀ b ∈ bl ++ bo, hs.size ≤ b) ∧
    log = logF S (if (searchF S start).hit then (searchF S start).settled.dropLast else (searchF S start).settled) ∧ ((searchF S start).hit = false → nr = [])

theorem new_box2 (h : Hp) (a b : Int) : stE 2 (h.push (.cells #[.int .i64 0, .int .i64 0] 134 (0, 0))) (.pointer (some ⟨h.size, 0, none⟩)) (.agg #[.int .i64 a, .int .i64 b]) =
    some ((h.push (.cells #[.int .i64 0, .int .i64 0] 134 (0, 0))).setIfInBounds h.size (.cells #[.int .i64 a, .int .i64 b] 134 (0, 0))) := by
  rw [stE_at _ (get_new h _)]; simp [splice]

set_option maxHeartbeats 2000000 in
theorem run_round {h0 hs h3 : Hp} {S : Sr} {Sh : List Int → List Nat → Hp → Prop} {a0 : List Int} {B0 : List Nat} {p pm pn : Nat} {fv t2 t3 : Value} {start : Int} {st nr : List Seen} {its : List Item} {M : List (Int × Mark)} {ck : Int} {bl bo : List Nat} {a : List Int} {B : List Nat}
    (A : ArcsOk h0 fv S.of Sh) (I : RunI h0 hs S Sh a0 B0 p pm pn fv start h3 st nr its M ck bl bo a B) (ha : a0.length ≤ 34359738368) {L : List (Nat × Obj)} (ov : FnOk L t2 S.over) (asx : FnOk L t3 S.asks) (hL : Has h3 L) (hLd : ∀ x ∈ L, x.1 ∉ SB p pm pn bl bo)
    {R : Value → Hp → Prop} (hR : ∀ h' B', RunEnd h0 hs S Sh a0 B0 p pm pn fv start h' B' → R (.tuple #[.bool (searchF S start).hit, .int .i64 (searchF S start).code]) h')
    {hj : Hp} {q10 q12 : Nat} {x : Item} {rest : List Item} {k : Mark} (hi : its = x :: rest) (hk : gget M x.tag = some k) (H : SrAt hj p pm pn fv S.hops M (popped ltOffer its) ck bl (ids st) bo) (f : Fr h3 hj (pn :: bl))
    (g10 : hj[q10]? = some (.cells #[.int .i64 x.key, .int .i64 x.tag] 134 (0, 0))) (g12 : hj[q12]? = some (.cells #[.int .i64 k.sum, .int .i64 k.from_, .int .i64 k.edge, .bool k.done] 93 (0, 0))) (h10 : h3.size ≤ q10) (h12 : h3.size ≤ q12) (hne : q10 ≠ q12) :
    f49.J1 (.pointer (some ⟨q12, 0, none⟩)) hj (.pointer (some ⟨q10, 0, none⟩)) (RunInv h0 hs S Sh a0 B0 p pm pn fv start) (muR p pn) h3 (.pointer (some ⟨p, 0, none⟩)) R t2 t3 := by
  have lt3 := I.sr.lt
  have ltB := A.lt I.sh
  have hpl : (popped ltOffer its).length + 1 = its.length := by rw [hi, popped_len]; rfl
  have mu3 : muR p pn [] h3 = (4097 - st.length) * 1048578 + its.length := by simp only [muR, I.sr.olen, I.sr.ilen, ids, List.length_map]
  have hSB : ∀ b ∈ pn :: bl, b ∈ SB p pm pn bl bo := fun b hb => by simp only [SB, List.mem_cons, List.mem_append] at hb ⊢; rcases hb with h | h <;> simp [h]
  have nq : ∀ q, h3.size ≤ q → q ∉ SB p pm pn bl bo := fun q hq hb => by have := lt3 q hb; omega
  -- what is so of all heaps that differ from h3 by the search's blocks alone
  have shk : ∀ h', Fr h3 h' (SB p pm pn bl bo) → Sh (a0 ++ a) B h' ∧ Fr hs h' (p :: pm :: pn :: B0) := fun h' f' => ⟨A.fr I.sh f' I.dis, I.fr.trans f' (fun _ _ h => h) fun c hc hm => by
    simp only [SB, List.mem_cons] at hm ⊢
    rcases hm with h | h | h | h
    · simp [h]
    · simp [h]
    · simp [h]
    · have := I.new c h; omega⟩
  have fj : Fr h3 hj (SB p pm pn bl bo) := f.mono fun c _ hc => hSB c hc
  have hn1 := I.n1
  have hn2 := I.n2
  have hn3 := I.n3
  have hn4 := I.n4
  have hst := I.rest
  refine run_J1 H g10 g12 (nq _ h10) (nq _ h12) hne (by simp [ids]; exact hn1) ov asx (hL.fr f fun y hy hb => hLd y hy (hSB _ hb)) (fun y hy => ⟨fun e => by have := lt_of_get (hL y hy); omega, hLd y hy⟩) ?_ ?_ ?_
  · -- a thing that is no longer so
    intro hs'
    have sim' := I.sim
    rw [hi] at sim'
    have sim' := sim'.stale hk hs'
    rw [← hi] at sim'
    obtain ⟨e1, e2⟩ := shk hj fj
    refine ⟨⟨st, nr, popped ltOffer its, M, ck, bl, bo, a, B, e1, H, sim', hst, hn1, hn2, by omega, hn4, I.dis, e2, I.new, I.newB⟩, ?_⟩
    rw [mu3]
    simp only [muR, H.olen, H.ilen, ids, List.length_map]
    omega
  · -- too many
    intro hd' hsum ho
    have sim' := I.sim
    rw [hi] at sim'
    obtain ⟨hnr, _⟩ := sim'.fresh hk hd' hsum
    have ho' : st.length = 4096 := by simpa [ids] using ho
    rw [ho'] at hst
    simp only [Nat.sub_self, restF, if_neg hnr] at hst
    obtain ⟨e1, e2⟩ := shk hj fj
    have := hR hj B ⟨by rw [← hst]; exact e1, e2, I.newB, fun hc => by rw [← hst] at hc; cases hc⟩
    rwa [← hst] at this
  · -- the node is settled
    intro hd' hsum ho h' bo' H' f' hbo'
    have sim' := I.sim
    rw [hi] at sim'
    obtain ⟨hnr, hsn, sim2, hat, hlow, hh⟩ := sim'.fresh hk hd' hsum
    rw [← hi] at sim2
    have ho' : st.length < 4096 := by simpa [ids] using ho
    obtain ⟨n, hn⟩ : ∃ n, 4096 - st.length = n + 1 := ⟨4095 - st.length, by omega⟩
    rw [hn] at hst
    simp only [restF, if_neg hnr, hsn] at hst
    have fjs := f.size
    have f3' : Fr h3 h' (SB p pm pn bl bo) := fj.trans f' (fun _ _ h => h) fun c hc hm => by
      simp only [SB, List.mem_cons, List.mem_append] at hm ⊢
      rcases hm with h | h | h | h
      · omega
      · simp [h]
      · simp [h]
      · simp [h]
    obtain ⟨e1, e2⟩ := shk h' f3'
    have hb2 : ∀ b ∈ bo', b ∈ bo ∨ h3.size ≤ b := fun b hb => (hbo' b hb).imp_right fun h => by omega
    have hs3 := I.fr.size
    have new' : ∀ b ∈ bl ++ bo', hs.size ≤ b := fun b hb => by
      rcases List.mem_append.1 hb with hb | hb
      · exact I.new b (by simp [hb])
      · rcases hb2 b hb with h | h
        · exact I.new b (by simp [h])
        · omega
    have dis' : ∀ b ∈ SB p pm pn bl bo', h0.size ≤ b ∧ b ∉ B := fun b hb => by
      have : b ∈ SB p pm pn bl bo ∨ h3.size ≤ b := by
        simp only [SB, List.mem_cons, List.mem_append] at hb ⊢
        rcases hb with h | h | h | h | h
        · simp [h]
        · simp [h]
        · simp [h]
        · simp [h]
        · rcases hb2 b h with h | h
          · simp [h]
          · exact .inr h
      rcases this with h | h
      · exact I.dis b h
      · exact ⟨by have := ltB.1; omega, fun hb => by have := (ltB.2 b hb).2; omega⟩
    have hids : ids (st ++ [⟨x.tag, x.key⟩]) = ids st ++ [x.tag] := by simp [ids]
    rw [← hids] at H'
    have hl1 : (st ++ [(⟨x.tag, x.key⟩ : Seen)]).length = st.length + 1 := by simp
    refine ⟨fun hov => ?_, fun hov has => ?_, fun hov has K hK => ?_⟩
    · have hfd : searchF S start = ⟨st ++ [⟨x.tag, x.key⟩], a, 0, true⟩ := by rw [← hst]; simp only [settleF, hov, if_true]
      have := hR h' B ⟨by rw [hfd]; exact e1, e2, I.newB, fun _ => ⟨_, _, _, ck, bl, bo', logF S st, by rw [hfd]; exact H', by rw [hfd]; exact sim2, dis', new', by rw [hfd]; simp, fun hf => by rw [hfd] at hf; cases hf⟩⟩
      rwa [hfd] at this
    · have hrest : restF S n (st ++ [⟨x.tag, x.key⟩]) (nr.eraseIdx (leastI nr)) a = searchF S start := by
        rw [← hst]; simp only [settleF, hov, has, Bool.false_eq_true, if_false]
      refine ⟨⟨st ++ [⟨x.tag, x.key⟩], nr.eraseIdx (leastI nr), popped ltOffer its, _, ck, bl, bo', a, B, e1, H', ?_, ?_, by omega, by omega, by omega, by omega, dis', e2, new', I.newB⟩, ?_⟩
      · rw [logF_app]; simpa [has] using sim2
      · rw [hl1, show 4096 - (st.length + 1) = n by omega]; exact hrest
      · rw [mu3]
        simp only [muR, H'.olen, H'.ilen, ids, List.length_map, hl1]
        omega
    · have hlt' := H'.lt
      refine look_spec A e1 (by simp; omega) H' dis' sim2 (at_ := ⟨x.tag, x.key⟩) (by simp) hat hlow (fun hop => hh hop) (by omega) (by omega) ⟨by omega, by omega⟩ ?_
      intro h'' B'' M'' its'' ck'' bl'' sh'' H'' f'' hB'' dis'' hbl'' hgood
      have f's := f3'.size
      have e2'' : Fr hs h'' (p :: pm :: pn :: B0) := e2.trans f'' (fun _ _ h => h) fun c hc hm => by
        simp only [List.mem_cons, List.mem_append] at hm ⊢
        rcases hm with h | h | h | h
        · simp [h]
        · simp [h]
        · have := I.new c (by simp [h]); omega
        · rcases I.newB c h with h | h
          · simp [h]
          · omega
      have newB'' : ∀ b ∈ B'', b ∈ B0 ∨ hs.size ≤ b := fun b hb => by
        rcases hB'' b hb with h | h
        · exact I.newB b h
        · exact .inr (by omega)
      obtain ⟨k1, k2⟩ := hK (lookC S (st ++ [⟨x.tag, x.key⟩]) ⟨x.tag, x.key⟩ (nr.eraseIdx (leastI nr))) h''
      by_cases hc : lookC S (st ++ [⟨x.tag, x.key⟩]) ⟨x.tag, x.key⟩ (nr.eraseIdx (leastI nr)) = 0
      · obtain ⟨sim3, hof, hl3, hc0, hc1⟩ := hgood hc
        have har : (arcsL S.hops (st ++ [⟨x.tag, x.key⟩]) x.key (S.of x.tag).1 (nr.eraseIdx (leastI nr))).1 = 0 := by simpa [lookC, hof] using hc
        have hrest : restF S n (st ++ [⟨x.tag, x.key⟩]) (arcsL S.hops (st ++ [⟨x.tag, x.key⟩]) x.key (S.of x.tag).1 (nr.eraseIdx (leastI nr))).2 (a ++ [x.tag]) = searchF S start := by
          rw [← hst]; simp only [settleF, hov, has, Bool.false_eq_true, if_false, if_true, hof, har, ne_eq, not_true_eq_false]
        refine k2 hc ⟨⟨st ++ [⟨x.tag, x.key⟩], (arcsL S.hops (st ++ [⟨x.tag, x.key⟩]) x.key (S.of x.tag).1 (nr.eraseIdx (leastI nr))).2, its'', M'', ck'', bl'', bo', a ++ [x.tag], B'', by rw [← List.append_assoc]; exact sh'', H'', ?_, ?_, by omega, by simp; omega, by omega, by omega, dis'', e2'', fun b hb => ?_, newB''⟩, ?_⟩
        · rw [logF_app]; simpa [has] using sim3
        · rw [hl1, show 4096 - (st.length + 1) = n by omega]; exact hrest
        · rcases List.mem_append.1 hb with hb | hb
          · rcases hbl'' b hb with h | h
            · exact new' b (by simp [h])
            · omega
          · exact new' b (by simp [hb])
        · rw [mu3]
          simp only [muR, H''.olen, H''.ilen, ids, List.length_map, hl1]
          omega
      · have hfd : searchF S start = ⟨st ++ [⟨x.tag, x.key⟩], a ++ [x.tag], lookC S (st ++ [⟨x.tag, x.key⟩]) ⟨x.tag, x.key⟩ (nr.eraseIdx (leastI nr)), false⟩ := by
          rw [← hst]
          simp only [settleF, hov, has, Bool.false_eq_true, if_false, if_true]
          by_cases hof : (S.of x.tag).2 = 0
          · have har : ¬ (arcsL S.hops (st ++ [⟨x.tag, x.key⟩]) x.key (S.of x.tag).1 (nr.eraseIdx (leastI nr))).1 = 0 := by simpa [lookC, hof] using hc
            simp [hof, har, lookC]
          · simp [hof, lookC]
        refine k1 hc ?_
        have := hR h'' B'' ⟨by rw [hfd, ← List.append_assoc]; exact sh'', e2'', newB'', fun h0' => by rw [hfd] at h0'; exact absurd h0' hc⟩
        rwa [hfd] at this
end Go.Proofs.YtkiakofohkecaaaDoor

/- The program's run, whole; a new search; the program's Hops and Reach. No condition but that the memory is as told. -/
namespace Go.Proofs.YtkiakofohkecaaaDoor
open Go Go.Fw

theorem fill_zmark : (fillS [(0, 1), (1, 1), (2, 1), (3, 1)] #[(.int .i64 0), (.int .i64 0), (.int .i64 0), (.bool false)] []).map Value.agg = some (Mark.val ⟨0, 0, 0, false⟩) := by kernel_rfl

set_option maxHeartbeats 1000000 in
theorem run_spec {h0 hs : Hp} {S : Sr} {Sh : List Int → List Nat → Hp → Prop} {a0 : List Int} {B0 : List Nat} {p pm pn : Nat} {fv t2 t3 : Value} {start : Int}
    (A : ArcsOk h0 fv S.of Sh) (hsh : Sh a0 B0 hs) (H : SrAt hs p pm pn fv S.hops [] [] 0 [] [] []) (hd : ∀ b ∈ SB p pm pn [] [], h0.size ≤ b ∧ b ∉ B0) (ha : a0.length ≤ 34359738368) {L : List (Nat × Obj)} (ov : FnOk L t2 S.over) (asx : FnOk L t3 S.asks) (hL : Has hs L) (hLd : ∀ x ∈ L, x.1 ∉ p :: pm :: pn :: B0)
    {R : Value → Hp → Prop} (hR : ∀ h' B', RunEnd h0 hs S Sh a0 B0 p pm pn fv start h' B' → R (.tuple #[.bool (searchF S start).hit, .int .i64 (searchF S start).code]) h') :
    CallsH Tryd.prog 49 #[.pointer (some ⟨p, 0, none⟩), .int .i64 start, t2, t3] hs R := by
  obtain ⟨ovv, e, o⟩ := H.top
  have hlt := H.lt
  have ltB := A.lt hsh
  refine f49.ok ?_
  unfold f49.T
  simp only [nilE_ptr, bnd_some, fldE_ptr, Nat.zero_add, ldS_at e, List.getElem?_toArray, List.getElem?_cons_succ, List.getElem?_cons_zero, fill_zmark]
  refine H.mark fun h1 H1 f1 => ?_
  obtain ⟨ov1, e1, o1⟩ := H1.top
  simp only [nilE_ptr, bnd_some, fldE_ptr, Nat.zero_add, ldS_at e1, List.getElem?_toArray, List.getElem?_cons_succ, List.getElem?_cons_zero, fill_offer]
  refine H1.push (by simp) (by simp) fun h2 bl2 H2 f2 hb2 => ?_
  have f1s := f1.size
  have F2 : Fr hs h2 [pm, pn] := f1.trans f2 (fun c _ hc => by simp at hc; simp [hc]) (fun c _ hc => by simp at hc; simp [hc])
  have hbl2 : ∀ b ∈ bl2, hs.size ≤ b := fun b hb => by rcases hb2 b hb with h | h; simp at h; omega
  have dis2 : ∀ b ∈ SB p pm pn bl2 [], h0.size ≤ b ∧ b ∉ B0 := fun b hb => by
    have : b ∈ SB p pm pn [] [] ∨ hs.size ≤ b := by
      simp only [SB, List.mem_cons, List.mem_append, List.not_mem_nil, or_false] at hb ⊢
      rcases hb with h | h | h | h
      · simp [h]
      · simp [h]
      · simp [h]
      · exact .inr (hbl2 b h)
    rcases this with h | h
    · exact hd b h
    · exact ⟨by have := ltB.1; omega, fun hb => by have := (ltB.2 b hb).2; omega⟩
  have I0 : RunInv h0 hs S Sh a0 B0 p pm pn fv start [] h2 := by
    refine ⟨[], [⟨start, 0⟩], _, _, 0 + 1, bl2, [], [], B0, by simpa using A.fr hsh F2 fun b hb => hd b (by simp [SB] at hb ⊢; rcases hb with h | h <;> simp [h]), H2, Sim.start start S.hops, search_start S start, by simp, by simp, ?_, by simp, dis2, F2.mono fun c _ hc => by simp at hc; rcases hc with h | h <;> simp [h], fun b hb => hbl2 b (by simpa using hb), fun b hb => .inl hb⟩
    rw [siftUp_len _ (by simp)]; simp
  generalize hit0 : siftUp ltOffer ([] ++ [(⟨0, start, 0⟩ : Item)]) ([] : List Item).length = its0 at *
  unfold f49.L1
  refine ⟨RunInv h0 hs S Sh a0 B0 p pm pn fv start, muR p pn, I0, ?_⟩
  intro t28 t29 t30 t31 t32 t27 t33 t34 t10 t11 t35 t36 t37 t38 t39 t40 t41 t42 t43 t12 t44 t45 t46 t47 t48 t49 t50 t51 t52 t53 t54 t55 t56 t57 t58 t59 t60 t61 t62 t63 t64 t65 t66 t67 t68 t69 t70 t71 t72 t73 t74 t75 t76 t77 t78 t79 t80 t81 t82 t83 t84 t85 t86 t87 t88 t13 t89 t90 t91 t8 t9 h3
  rintro ⟨st, nr, its, M, ck, bl, bo, a, B, I⟩
  obtain ⟨ov3, e3, o3⟩ := I.sr.top
  have lt3 := I.sr.lt
  have hLd' : ∀ x ∈ L, x.1 < hs.size := fun x hx => lt_of_get (hL x hx)
  have hL3 : Has h3 L := hL.fr I.fr hLd
  have hLd3 : ∀ x ∈ L, x.1 ∉ SB p pm pn bl bo := fun x hx hb => by
    have h1 := hLd x hx
    have h2 := hLd' x hx
    simp only [SB, List.mem_cons] at hb
    simp only [List.mem_cons, not_or] at h1
    rcases hb with h | h | h | h
    · exact h1.1 h
    · exact h1.2.1 h
    · exact h1.2.2.1 h
    · have := I.new _ h; omega
  have hn1 := I.n1
  have hn3 := I.n3
  simp only [nilE_ptr, bnd_some, fldE_ptr, Nat.zero_add, ldS_at e3, List.getElem?_toArray, List.getElem?_cons_succ, List.getElem?_cons_zero]
  refine I.sr.pop (by omega) (fun h4 hi H4 f4 => ?_) fun h4 x rest hi H4 f4 => ?_
  · simp only [extE_tuple, List.getElem?_toArray, List.getElem?_cons_succ, List.getElem?_cons_zero, bnd_some, nw_eq, ptr0_eq, new_box2, unE_not, Bool.not_false, condT_bool, if_true]
    obtain ⟨f6, _⟩ := box_fr h4 (.cells #[.int .i64 0, .int .i64 0] 134 (0, 0)) (.cells #[.int .i64 0, .int .i64 0] 134 (0, 0)) rfl rfl
    generalize (h4.push (.cells #[.int .i64 0, .int .i64 0] 134 (0, 0))).setIfInBounds h4.size (.cells #[.int .i64 0, .int .i64 0] 134 (0, 0)) = h6 at *
    have sim := I.sim
    rw [hi] at sim
    have hnr := sim.empty
    have F6 : Fr h3 h6 [] := f4.then f6
    have hfd : searchF S start = ⟨st, a, 0, false⟩ := by
      rw [← I.rest, hnr]
      cases 4096 - st.length <;> simp [restF]
    have := hR h6 B ⟨by rw [hfd]; exact A.fr I.sh F6 (by simp), I.fr.trans F6 (fun _ _ h => h) (by simp), I.newB, fun _ => ⟨nr, [], M, ck, bl, bo, logF S st, by rw [hfd]; exact H4.fr f6 (by simp), by rw [hfd]; exact sim, I.dis, I.new, by rw [hfd]; rfl, fun _ => hnr⟩⟩
    rwa [hfd] at this
  · have sim := I.sim
    rw [hi] at sim
    obtain ⟨k, hk⟩ := sim.mark x (by simp)
    simp only [extE_tuple, List.getElem?_toArray, List.getElem?_cons_succ, List.getElem?_cons_zero, bnd_some, nw_eq, ptr0_eq, new_box2, unE_not, Bool.not_true, condT_bool, Bool.false_eq_true, if_false]
    obtain ⟨f6, g6⟩ := box_fr h4 (.cells #[.int .i64 0, .int .i64 0] 134 (0, 0)) (.cells #[.int .i64 x.key, .int .i64 x.tag] 134 (0, 0)) rfl rfl
    generalize (h4.push (.cells #[.int .i64 0, .int .i64 0] 134 (0, 0))).setIfInBounds h4.size (.cells #[.int .i64 x.key, .int .i64 x.tag] 134 (0, 0)) = h6 at *
    have H6 := H4.fr f6 (by simp)
    obtain ⟨ov6, e6, o6⟩ := H6.top
    have f4s := f4.size
    have lg6 := lt_of_get g6
    have f6s := f6.size
    obtain ⟨fb, gb⟩ := box_fr h6 (.cells #[.int .i64 0, .int .i64 0, .int .i64 0, .bool false] 93 (0, 0)) (.cells #[.int .i64 k.sum, .int .i64 k.from_, .int .i64 k.edge, .bool k.done] 93 (0, 0)) rfl rfl
    have key : f49.J1 (.pointer (some ⟨h6.size, 0, none⟩)) ((h6.push (.cells #[.int .i64 0, .int .i64 0, .int .i64 0, .bool false] 93 (0, 0))).setIfInBounds h6.size (.cells #[.int .i64 k.sum, .int .i64 k.from_, .int .i64 k.edge, .bool k.done] 93 (0, 0))) (.pointer (some ⟨h4.size, 0, none⟩)) (RunInv h0 hs S Sh a0 B0 p pm pn fv start) (muR p pn) h3 (.pointer (some ⟨p, 0, none⟩)) R t2 t3 :=
      run_round A I ha ov asx hL3 hLd3 hR hi hk (H6.fr fb (by simp)) ((f4.trans f6 (fun _ _ h => h) (by simp)).trans fb (fun _ _ h => h) (by simp)) (fb.get g6 (by simp)) gb (by omega) (by omega) (by omega)
    constructor
    · simp only [nilE_ptr, bnd_some, fldE_ptr, Nat.zero_add, ldS_at e6, ldS_at g6, List.getElem?_toArray, List.getElem?_cons_succ, List.getElem?_cons_zero]
      refine H6.look (ok := false) ?_
      simp only [Bool.false_eq_true, if_false, hk, Option.map_some, Option.getD_some, Mark.val, new_box4, bnd_some, nw_eq, ptr0_eq]
      exact key
    · have f := Fr.push h6 (.cells #[.int .i64 0, .int .i64 0, .int .i64 0, .bool false] 93 (0, 0)) []
      simp only [nilE_ptr, bnd_some, fldE_ptr, Nat.zero_add, ldS_at e6, ldS_at g6, List.getElem?_toArray, List.getElem?_cons_succ, List.getElem?_cons_zero, nw_eq, ptr0_eq]
      refine (H6.fr f (by simp)).look (ok := false) ?_
      simp only [Bool.false_eq_true, if_false, hk, Option.map_some, Option.getD_some, Mark.val, new_box4, bnd_some]
      exact key

theorem fill_sr {f : Value} (hf : f.cells = #[f]) (b : Bool) (m : Nat) : (fillS [(0, 1), (1, 1), (2, 1), (3, 1), (4, 1)] #[.nilFunc, (.bool false), (.map none), (.pointer none), (.slice none 0 0)] [(0, f), (1, .bool b), (2, .map (some m))]).map Value.agg = some (.agg #[f, .bool b, .map (some m), .pointer none, .slice none 0 0]) := by
  simp [fillS, Instr.fill, hf]
theorem news_spec {h : Hp} {fv : Value} (hf : fv.cells = #[fv]) (hops : Bool) {R : Value → Hp → Prop} (hR : ∀ h' p pm pn, SrAt h' p pm pn fv hops [] [] 0 [] [] [] → Fr h h' [] → (∀ b ∈ SB p pm pn [] [], h.size ≤ b) → R (.pointer (some ⟨p, 0, none⟩)) h') :
    CallsH Tryd.prog 48 #[fv, .bool hops] h R := by
  refine f48.ok ?_
  unfold f48.T
  simp only [nwM_eq, fill_sr hf, bnd_some, nw_eq, cells_agg, ptr0_eq, Array.size_push]
  have f1 := Fr.push h (.map #[] 0) []
  have m1 := MapAt.new h .i64
  have z1 : (h.push (.map #[] 0)).size = h.size + 1 := by simp
  generalize h.push (.map #[] 0) = h1 at *
  have f2 := Fr.push h1 (.cells #[fv, .bool hops, .map (some h.size), .pointer none, .slice none 0 0] 97 (0, 0)) []
  have g2 := get_new h1 (.cells #[fv, .bool hops, .map (some h.size), .pointer none, .slice none 0 0] 97 (0, 0))
  have z2 : (h1.push (.cells #[fv, .bool hops, .map (some h.size), .pointer none, .slice none 0 0] 97 (0, 0))).size = h.size + 2 := by simp [z1]
  rw [z1] at g2
  generalize h1.push (.cells #[fv, .bool hops, .map (some h.size), .pointer none, .slice none 0 0] 97 (0, 0)) = h2 at *
  refine new_spec fun H => ?_
  have f3 := Fr.push h2 (.cells #[.func (.func 68) #[] #[], .slice none 0 0, .int .i64 0] 152 (0, 0)) []
  generalize h2.push (.cells #[.func (.func 68) #[] #[], .slice none 0 0, .int .i64 0] 152 (0, 0)) = h3 at *
  have g3 := f3.get g2 (by simp)
  have st4 : stE 1 h3 (.pointer (some ⟨h.size + 1, 3, none⟩)) (.pointer (some ⟨h2.size, 0, none⟩)) = some (h3.setIfInBounds (h.size + 1) (.cells #[fv, .bool hops, .map (some h.size), .pointer (some ⟨h2.size, 0, none⟩), .slice none 0 0] 97 (0, 0))) := by
    rw [stE_at _ g3]; simp [splice]
  simp only [nilE_ptr, bnd_some, fldE_ptr, Nat.zero_add, st4]
  have g4 := get_set (o' := .cells #[fv, .bool hops, .map (some h.size), .pointer (some ⟨h2.size, 0, none⟩), .slice none 0 0] 97 (0, 0)) g3
  have f4 : Fr h3 (h3.setIfInBounds (h.size + 1) (.cells #[fv, .bool hops, .map (some h.size), .pointer (some ⟨h2.size, 0, none⟩), .slice none 0 0] 97 (0, 0))) [h.size + 1] := Fr.set _ _ _ (fun _ => by simp) (by rw [g3]; rfl)
  generalize h3.setIfInBounds (h.size + 1) (.cells #[fv, .bool hops, .map (some h.size), .pointer (some ⟨h2.size, 0, none⟩), .slice none 0 0] 97 (0, 0)) = h4 at *
  have F3 : Fr h h3 [] := (f1.then f2).then f3
  have F : Fr h h4 [] := F3.trans f4 (fun _ _ h => h) (fun c hc hm => by simp at hm; omega)
  refine hR h4 (h.size + 1) h.size h2.size ⟨⟨_, g4, .nil _ _ _⟩, ((m1.fr f2 (by simp)).fr f3 (by simp)).fr f4 (by simp), H.fr f4 (by simp; omega) (by simp), ⟨by omega, by omega, by omega, by simp, by simp⟩⟩ F fun b hb => ?_
  simp [SB] at hb; omega

/-! ## the functions that are handed in -/
set_option maxRecDepth 100000 in
theorem over_to {q E : Nat} {fz : Nat × Nat} {to : Int} : FnOk [(q, .cells #[.int .i64 to] E fz)] (.func (.func 50) #[] #[.pointer (some ⟨q, 0, none⟩)]) (fun id => decide (id = to)) := ⟨fun h k K hL hK => by
  have e : okF Tryd.prog 50 = true := by kernel_rfl
  have g := hL _ (List.mem_singleton.2 rfl)
  simp only [callV, e]
  refine f50.ok (t0 := .int .i64 k) (t1 := .pointer (some ⟨q, 0, none⟩)) ?_
  unfold f50.T
  simpa [ldS_at g] using hK⟩
set_option maxRecDepth 100000 in
theorem asks_most {q E : Nat} {fz : Nat × Nat} {most : Int} : FnOk [(q, .cells #[.int .i64 most] E fz)] (.func (.func 54) #[] #[.pointer (some ⟨q, 0, none⟩)]) (fun s => decide (s < most)) := ⟨fun h k K hL hK => by
  have e : okF Tryd.prog 54 = true := by kernel_rfl
  have g := hL _ (List.mem_singleton.2 rfl)
  simp only [callV, e]
  refine f54.ok (t0 := .int .i64 k) (t1 := .pointer (some ⟨q, 0, none⟩)) ?_
  unfold f54.T
  simpa [ldS_at g] using hK⟩
set_option maxRecDepth 100000 in
theorem always_ok {L : List (Nat × Obj)} : FnOk L (.func (.func 51) #[] #[]) (fun _ => true) := ⟨fun h k K _ hK => by
  have e : okF Tryd.prog 51 = true := by kernel_rfl
  simp only [callV, e]
  refine f51.ok (t0 := .int .i64 k) ?_
  unfold f51.T
  simpa using hK⟩
set_option maxRecDepth 100000 in
theorem never_ok {L : List (Nat × Obj)} : FnOk L (.func (.func 53) #[] #[]) (fun _ => false) := ⟨fun h k K _ hK => by
  have e : okF Tryd.prog 53 = true := by kernel_rfl
  simp only [callV, e]
  refine f53.ok (t0 := .int .i64 k) ?_
  unfold f53.T
  simpa using hK⟩
end Go.Proofs.YtkiakofohkecaaaDoor

/- The program's Hops and Reach, against the document's search as a function. No condition but that the memory is as told. -/
namespace Go.Proofs.YtkiakofohkecaaaDoor
open Go Go.Fw

theorem settle_hit (S : Sr) (k : List Seen → List Seen → List Int → Fd) (hk : ∀ st nr a, (k st nr a).hit = true → (k st nr a).code = 0 ∧ ∃ st' s, (k st nr a).settled = st' ++ [s] ∧ S.over s.id = true) (at_ : Seen) (st nr : List Seen) (a : List Int) :
    (settleF S k at_ st nr a).hit = true → (settleF S k at_ st nr a).code = 0 ∧ ∃ st' s, (settleF S k at_ st nr a).settled = st' ++ [s] ∧ S.over s.id = true := by
  unfold settleF
  split
  · rename_i h
    exact fun _ => ⟨rfl, st, at_, rfl, h⟩
  · split
    · split
      · intro h; simp at h
      · split
        · intro h; simp at h
        · exact hk _ _ _
    · exact hk _ _ _
theorem rest_hit (S : Sr) : ∀ n st nr a, (restF S n st nr a).hit = true → (restF S n st nr a).code = 0 ∧ ∃ st' s, (restF S n st nr a).settled = st' ++ [s] ∧ S.over s.id = true
  | 0, st, nr, a => by
    unfold restF
    split <;> (intro h; simp at h)
  | n + 1, st, nr, a => by
    unfold restF
    split
    · intro h; simp at h
    · exact settle_hit S _ (rest_hit S n) _ _ _ _
theorem search_hit (S : Sr) (start : Int) (h : (searchF S start).hit = true) : (searchF S start).code = 0 ∧ ∃ st s, (searchF S start).settled = st ++ [s] ∧ S.over s.id = true := settle_hit S _ (rest_hit S 4095) _ _ _ _ h

def lastSum (f : Fd) : Int := ((f.settled.getLast?).map (·.sum)).getD 0
def srHops (of : Int → List Arc × Int) (to : Int) : Sr := ⟨of, fun id => decide (id = to), fun _ => true, true⟩
def srLeast (of : Int → List Arc × Int) (to : Int) : Sr := ⟨of, fun id => decide (id = to), fun _ => true, false⟩
def srReach (of : Int → List Arc × Int) (most : Int) : Sr := ⟨of, fun _ => false, fun s => decide (s < most), true⟩
/-- What Hops tells. -/
noncomputable def hopsV (f : Fd) : Value := .tuple #[.int .i64 (if f.hit then lastSum f else 0), .bool f.hit, .int .i64 f.code]

section
variable {h0 h : Hp} {of : Int → List Arc × Int} {Sh : List Int → List Nat → Hp → Prop} {a0 : List Int} {B0 : List Nat} {fv : Value}
theorem hops_spec (A : ArcsOk h0 fv of Sh) (hs : Sh a0 B0 h) (ha : a0.length ≤ 34359738368) (start to : Int) {R : Value → Hp → Prop}
    (hR : ∀ h' B', Sh (a0 ++ (searchF (srHops of to) start).asked) B' h' → Fr h h' B0 → (∀ b ∈ B', b ∈ B0 ∨ h.size ≤ b) → R (hopsV (searchF (srHops of to) start)) h') : CallsH Tryd.prog 18 #[fv, .int .i64 start, .int .i64 to] h R := by
  have ltB := A.lt hs
  refine f18.ok ?_
  unfold f18.T
  simp only [nw_eq, cells_int, ptr0_eq, A.nil, bnd_some, condT_bool, Bool.false_eq_true, if_false]
  have f1 := Fr.push h (.cells #[.int .i64 to] 2 (0, 0)) []
  have g1 := get_new h (.cells #[.int .i64 to] 2 (0, 0))
  have z1 : (h.push (.cells #[.int .i64 to] 2 (0, 0))).size = h.size + 1 := by simp
  generalize h.push (.cells #[.int .i64 to] 2 (0, 0)) = h1 at *
  refine news_spec A.cells true fun h2 p pm pn H2 f2 hn => ?_
  have F2 : Fr h h2 [] := f1.then f2
  have hs2 := A.fr hs F2 (by simp)
  have g2 := f2.get g1 (by simp)
  have f2s := f2.size
  refine run_spec (S := srHops of to) (L := [(h.size, .cells #[.int .i64 to] 2 (0, 0))]) A hs2 H2 (fun b hb => ?_) ha over_to always_ok (by simpa [Has] using g2) ?_ fun h3 B' RE => ?_
  · have := hn b hb
    exact ⟨by have := ltB.1; omega, fun hb' => by have := (ltB.2 b hb').2; omega⟩
  · intro x hx hb
    obtain rfl := List.mem_singleton.1 hx
    have h1 := hn p (by simp [SB])
    have h2 := hn pm (by simp [SB])
    have h3 := hn pn (by simp [SB])
    simp only [List.mem_cons] at hb
    rcases hb with h | h | h | h
    · omega
    · omega
    · omega
    · have := (ltB.2 _ h).2; omega
  · have F3 : Fr h h3 B0 := F2.trans RE.fr (by simp) fun c hc hm => by
      have h1 := hn p (by simp [SB])
      have h2 := hn pm (by simp [SB])
      have h3 := hn pn (by simp [SB])
      simp only [List.mem_cons] at hm
      rcases hm with h | h | h | h
      · omega
      · omega
      · omega
      · exact h
    have hB' : ∀ b ∈ B', b ∈ B0 ∨ h.size ≤ b := fun b hb => (RE.newB b hb).imp_right fun h => by omega
    have fin := hR h3 B' RE.sh F3 hB'
    have F23 := RE.fr
    generalize hfd : searchF (srHops of to) start = fd at *
    simp only [extE_tuple, List.getElem?_toArray, List.getElem?_cons_succ, List.getElem?_cons_zero, bnd_some, bin_neq]
    cases hh : fd.hit
    · have hv : hopsV fd = .tuple #[.int .i64 0, .bool false, .int .i64 fd.code] := by simp [hopsV, hh]
      rw [hv] at fin
      by_cases hc : fd.code = 0
      · simpa [hc] using fin
      · simpa [hc, isB_undef] using fin
    · obtain ⟨hc, st, s, hst, hov⟩ := search_hit (srHops of to) start (by rw [hfd]; exact hh)
      rw [hfd] at hc hst
      have good := RE.good
      rw [hfd] at good
      obtain ⟨nr, its, M, ck, bl, bo, log, SR, sim, _, _, _⟩ := good hc
      obtain ⟨ov, e, o⟩ := SR.top
      have hid : s.id = to := by simpa [srHops] using hov
      obtain ⟨fr, ed, hg⟩ := sim.fin s (by rw [hst]; simp)
      rw [hid] at hg
      have g3 : h3[h.size]? = some (.cells #[.int .i64 to] 2 (0, 0)) := F23.get g2 (by
        have h1 := hn p (by simp [SB])
        have h2 := hn pm (by simp [SB])
        have h3 := hn pn (by simp [SB])
        simp only [List.mem_cons, not_or]
        exact ⟨by omega, by omega, by omega, fun hb => by have := (ltB.2 _ hb).2; omega⟩)
      have hv : hopsV fd = .tuple #[.int .i64 s.sum, .bool true, .int .i64 0] := by simp [hopsV, hh, hc, lastSum, hst]
      rw [hv] at fin
      have hd : decide (fd.code ≠ 0) = false := by simp [hc]
      simp only [hd, isB_bool, beq_self_eq_true, cond_true, unE_not, Bool.not_true, asB_bool, Option.map_some, cond_false, bnd_some, condT_bool, Bool.false_eq_true, if_false, nilE_ptr, fldE_ptr, Nat.zero_add, ldS_at e, ldS_at g3, List.getElem?_toArray, List.getElem?_cons_succ, List.getElem?_cons_zero]
      refine SR.look (ok := false) ?_
      simpa [hg, Mark.val] using fin

theorem reach_none (A : ArcsOk h0 fv of Sh) (start : Int) {most : Int} (hm : most < 0) {R : Value → Hp → Prop} (hR : ∀ h', Fr h h' [] → R (.tuple #[.slice none 0 0, .int .i64 1]) h') : CallsH Tryd.prog 22 #[fv, .int .i64 start, .int .i64 most] h R := by
  refine f22.ok ?_
  unfold f22.T
  have f1 := Fr.push h (.cells #[.int .i64 most] 3 (0, 0)) []
  have g1 := get_new h (.cells #[.int .i64 most] 3 (0, 0))
  simp only [nw_eq, cells_int, ptr0_eq, A.nil, bnd_some]
  generalize h.push (.cells #[.int .i64 most] 3 (0, 0)) = h1 at *
  simpa [ldS_at g1, hm] using hR h1 f1

/-- Reach: the order is the search's own list. -/
theorem reach_spec (A : ArcsOk h0 fv of Sh) (hs : Sh a0 B0 h) (ha : a0.length ≤ 34359738368) (start : Int) {most : Int} (hm : 0 ≤ most) {R : Value → Hp → Prop}
    (hR : ∀ h' B' v bv, Sh (a0 ++ (searchF (srReach of most) start).asked) B' h' → Fr h h' B0 → (∀ b ∈ B', b ∈ B0 ∨ h.size ≤ b) → OwnS h' 2 1 v (if (searchF (srReach of most) start).code = 0 then ints (ids (searchF (srReach of most) start).settled) else []) bv → (∀ b ∈ bv, h.size ≤ b ∧ b ∉ B') →
      R (.tuple #[v, .int .i64 (searchF (srReach of most) start).code]) h') : CallsH Tryd.prog 22 #[fv, .int .i64 start, .int .i64 most] h R := by
  have ltB := A.lt hs
  refine f22.ok ?_
  unfold f22.T
  have f1 := Fr.push h (.cells #[.int .i64 most] 3 (0, 0)) []
  have g1 := get_new h (.cells #[.int .i64 most] 3 (0, 0))
  have z1 : (h.push (.cells #[.int .i64 most] 3 (0, 0))).size = h.size + 1 := by simp
  simp only [nw_eq, cells_int, ptr0_eq, A.nil, bnd_some]
  generalize h.push (.cells #[.int .i64 most] 3 (0, 0)) = h1 at *
  have hm' : decide (most < 0) = false := by simp; omega
  simp only [isB_bool, beq_self_eq_true, cond_true, ldS_at g1, List.getElem?_toArray, List.getElem?_cons_zero, bnd_some, bin_lss, hm', asB_bool, Option.map_some, cond_false, condT_bool, Bool.false_eq_true, if_false]
  refine news_spec A.cells true fun h2 p pm pn H2 f2 hn => ?_
  have F2 : Fr h h2 [] := f1.then f2
  have hs2 := A.fr hs F2 (by simp)
  have g2 := f2.get g1 (by simp)
  have f2s := f2.size
  refine run_spec (S := srReach of most) (L := [(h.size, .cells #[.int .i64 most] 3 (0, 0))]) A hs2 H2 (fun b hb => ?_) ha never_ok asks_most (by simpa [Has] using g2) ?_ fun h3 B' RE => ?_
  · have := hn b hb
    exact ⟨by have := ltB.1; omega, fun hb' => by have := (ltB.2 b hb').2; omega⟩
  · intro x hx hb
    obtain rfl := List.mem_singleton.1 hx
    have h1 := hn p (by simp [SB])
    have h2 := hn pm (by simp [SB])
    have h3 := hn pn (by simp [SB])
    simp only [List.mem_cons] at hb
    rcases hb with h | h | h | h
    · omega
    · omega
    · omega
    · have := (ltB.2 _ h).2; omega
  · have F3 : Fr h h3 B0 := F2.trans RE.fr (by simp) fun c hc hm => by
      have h1 := hn p (by simp [SB])
      have h2 := hn pm (by simp [SB])
      have h3 := hn pn (by simp [SB])
      simp only [List.mem_cons] at hm
      rcases hm with h | h | h | h
      · omega
      · omega
      · omega
      · exact h
    have hB' : ∀ b ∈ B', b ∈ B0 ∨ h.size ≤ b := fun b hb => (RE.newB b hb).imp_right fun h => by omega
    have fin := fun v bv => hR h3 B' v bv RE.sh F3 hB'
    have good := RE.good
    generalize hfd : searchF (srReach of most) start = fd at *
    simp only [extE_tuple, List.getElem?_toArray, List.getElem?_cons_succ, List.getElem?_cons_zero, bnd_some, bin_neq, condT_bool]
    by_cases hc : fd.code = 0
    · have hd : decide (fd.code ≠ 0) = false := by simp [hc]
      obtain ⟨nr, its, M, ck, bl, bo, log, SR, sim, dis, new, _⟩ := good hc
      obtain ⟨ov, e, o⟩ := SR.top
      simp only [hd, Bool.false_eq_true, if_false, nilE_ptr, bnd_some, fldE_ptr, Nat.zero_add, ldS_at e, List.getElem?_toArray, List.getElem?_cons_succ, List.getElem?_cons_zero]
      have := fin ov bo (by simpa [hc] using o) fun b hb => ⟨by have := new b (by simp [hb]); omega, (dis b (by simp [SB, hb])).2⟩
      rwa [hc] at this
    · have hd : decide (fd.code ≠ 0) = true := by simp [hc]
      simp only [hd, if_true]
      exact fin _ [] (by simpa [hc] using OwnS.nil h3 2 1) (by simp)
end
end Go.Proofs.YtkiakofohkecaaaDoor
