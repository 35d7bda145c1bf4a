/- The plain law of the search: what the document's search gives, as one function; the state of the program's search, and that it goes the same way, step by step. No program is in sight. No condition but those each theorem states. -/
import Derived.Test.YtkiakofohkecaaaDoorE12
import Derived.Test.YtkiakofohkecaaaDoorFw17
namespace Go.Proofs.YtkiakofohkecaaaDoor
open Go Go.Fw

/-! ## lists of keys and things -/
def gget {α : Type} (m : List (Int × α)) (k : Int) : Option α := (m.find? fun x => x.1 == k).map (·.2)
def gset {α : Type} (m : List (Int × α)) (k : Int) (v : α) : List (Int × α) :=
  match m.findIdx? fun x => x.1 == k with
  | some i => m.modify i fun _ => (k, v)
  | none => m ++ [(k, v)]
theorem find_map {α β : Type} (f : α → β) (m : List (Int × α)) (k : Int) : (m.map fun x => (x.1, f x.2)).find? (fun x => x.1 == k) = (m.find? fun x => x.1 == k).map fun x => (x.1, f x.2) := by
  induction m with
  | nil => rfl
  | cons x m ih => by_cases h : (x.1 == k) = true <;> simp [h, ih]
theorem findIdx_map {α β : Type} (f : α → β) (m : List (Int × α)) (k : Int) : (m.map fun x => (x.1, f x.2)).findIdx? (fun x => x.1 == k) = m.findIdx? fun x => x.1 == k := by
  induction m with
  | nil => rfl
  | cons x m ih => by_cases h : (x.1 == k) = true <;> simp [List.findIdx?_cons, h, ih]
theorem mget_map {α : Type} (f : α → Value) (m : List (Int × α)) (k : Int) : mget (m.map fun x => (x.1, f x.2)) k = (gget m k).map f := by
  simp only [mget, gget, find_map, Option.map_map]; rfl
theorem mset_map {α : Type} (f : α → Value) (m : List (Int × α)) (k : Int) (v : α) : mset (m.map fun x => (x.1, f x.2)) k (f v) = (gset m k v).map fun x => (x.1, f x.2) := by
  simp only [mset, gset, findIdx_map]
  cases h : m.findIdx? fun x => x.1 == k with
  | none => simp
  | some i =>
    apply List.ext_getElem?
    intro j
    simp only [List.getElem?_map, List.getElem?_modify]
    by_cases hij : i = j
    · subst hij; cases m[i]? <;> simp
    · simp [hij]
theorem gget_set {α : Type} (k : Int) (v : α) : ∀ (m : List (Int × α)) (j : Int), gget (gset m k v) j = if j = k then some v else gget m j
  | [], j => by
    by_cases h : j = k
    · subst h; simp [gget, gset]
    · have : (k == j) = false := by simpa using fun e => h e.symm
      simp [gget, gset, h, this]
  | x :: m, j => by
    have ih := gget_set k v m j
    by_cases hx : x.1 = k
    · have e : gset (x :: m) k v = (k, v) :: m := by simp [gset, List.findIdx?_cons, hx]
      rw [e]
      by_cases h : j = k
      · subst h; simp [gget]
      · have h1 : (k == j) = false := by simpa using fun e => h e.symm
        have h2 : (x.1 == j) = false := by rw [hx]; exact h1
        simp [gget, h, h1, h2]
    · have hx' : (x.1 == k) = false := by simpa using hx
      have e : gset (x :: m) k v = x :: gset m k v := by
        simp only [gset, List.findIdx?_cons, hx', Bool.false_eq_true, if_false]
        cases h : m.findIdx? fun x => x.1 == k <;> simp
      rw [e]
      by_cases hj : x.1 = j
      · have : ¬ j = k := fun e => hx (by rw [hj, e])
        simp [gget, hj, this]
      · have hj' : (x.1 == j) = false := by simpa using hj
        have e2 : ∀ l : List (Int × α), gget (x :: l) j = gget l j := fun l => by simp [gget, hj']
        rw [e2, e2, ih]

/-! ## the document's search -/
structure Sr where
  of : Int → List Arc × Int
  over : Int → Bool
  asks : Int → Bool
  hops : Bool
structure Fd where
  settled : List Seen
  asked : List Int
  code : Int
  hit : Bool
def wt (hops : Bool) (a : Arc) : Int := if hops then 1 else a.weight
def arcsL (hops : Bool) (st : List Seen) (sum : Int) : List Arc → List Seen → Int × List Seen
  | [], nr => (0, nr)
  | a :: l, nr =>
    if wt hops a < 0 then (90, nr) else if 1099511627776 - sum < wt hops a then (91, nr)
    else arcsL hops st sum l (if ∃ s ∈ st, s.id = a.to then nr else sightL nr a.to (sum + wt hops a))
noncomputable def leastI (l : List Seen) : Nat := open Classical in if h : ∃ k, LeastTo l l.length k then h.choose else 0
def settleF (S : Sr) (k : List Seen → List Seen → List Int → Fd) (at_ : Seen) (st nr : List Seen) (asked : List Int) : Fd :=
  if S.over at_.id then ⟨st ++ [at_], asked, 0, true⟩
  else if S.asks at_.sum then
    if (S.of at_.id).2 ≠ 0 then ⟨st ++ [at_], asked ++ [at_.id], (S.of at_.id).2, false⟩
    else if (arcsL S.hops (st ++ [at_]) at_.sum (S.of at_.id).1 nr).1 ≠ 0 then ⟨st ++ [at_], asked ++ [at_.id], (arcsL S.hops (st ++ [at_]) at_.sum (S.of at_.id).1 nr).1, false⟩
    else k (st ++ [at_]) (arcsL S.hops (st ++ [at_]) at_.sum (S.of at_.id).1 nr).2 (asked ++ [at_.id])
  else k (st ++ [at_]) nr asked
noncomputable def restF (S : Sr) : Nat → List Seen → List Seen → List Int → Fd
  | 0, st, nr, asked => if nr = [] then ⟨st, asked, 0, false⟩ else ⟨st, asked, 92, false⟩
  | n + 1, st, nr, asked => if nr = [] then ⟨st, asked, 0, false⟩ else settleF S (restF S n) (snth nr (leastI nr)) st (nr.eraseIdx (leastI nr)) asked
/-- What the search from a node comes to. -/
noncomputable def searchF (S : Sr) (start : Int) : Fd := settleF S (restF S 4095) ⟨start, 0⟩ [] [] []

/-! ## nodes in sight, each once -/
def ids (l : List Seen) : List Int := l.map (·.id)
theorem snth_mem {l : List Seen} {k : Nat} (h : k < l.length) : snth l k ∈ l := by rw [snth_get h]; exact List.getElem_mem h
theorem ids_at {l : List Seen} (hd : (ids l).Nodup) {i j : Nat} (hi : i < l.length) (hj : j < l.length) (e : l[i].id = l[j].id) : i = j := by
  have h := List.pairwise_iff_getElem.1 hd
  rcases Nat.lt_trichotomy i j with h1 | h1 | h1
  · exact absurd (by simpa [ids] using e) (h i j (by simpa [ids] using hi) (by simpa [ids] using hj) h1)
  · exact h1
  · exact absurd (by simpa [ids] using e.symm) (h j i (by simpa [ids] using hj) (by simpa [ids] using hi) h1)
theorem ids_inj {l : List Seen} (hd : (ids l).Nodup) {a b : Seen} (ha : a ∈ l) (hb : b ∈ l) (e : a.id = b.id) : a = b := by
  obtain ⟨i, hi, rfl⟩ := List.mem_iff_getElem.1 ha
  obtain ⟨j, hj, rfl⟩ := List.mem_iff_getElem.1 hb
  have := ids_at hd hi hj e
  subst this; rfl
theorem least_one {l : List Seen} (hd : (ids l).Nodup) {i j : Nat} (hi : LeastTo l l.length i) (hj : LeastTo l l.length j) : i = j := by
  have h1 := hi.2 j hj.1
  have h2 := hj.2 i hi.1
  have e : (snth l i).id = (snth l j).id := by simp [lessS] at h1 h2; omega
  rw [snth_get hi.1, snth_get hj.1] at e
  exact ids_at hd hi.1 hj.1 e
theorem leastI_eq {l : List Seen} (hd : (ids l).Nodup) {i : Nat} (hi : LeastTo l l.length i) : leastI l = i := by
  have h : ∃ k, LeastTo l l.length k := ⟨i, hi⟩
  unfold leastI
  rw [dif_pos h]
  exact least_one hd h.choose_spec hi
theorem sight_mem {l : List Seen} {id sum : Int} {s : Seen} (h : s ∈ sightL l id sum) : s ∈ l ∨ s = ⟨id, sum⟩ := by
  unfold sightL at h
  split at h
  · split at h
    · exact (List.mem_or_eq_of_mem_set h)
    · exact .inl h
  · simpa using h
theorem sight_cases {l : List Seen} (hd : (ids l).Nodup) (id sum : Int) :
    ((∃ s ∈ l, s.id = id ∧ s.sum ≤ sum) ∧ sightL l id sum = l) ∨
    ((∀ s ∈ l, s.id = id → sum < s.sum) ∧ (ids (sightL l id sum)).Nodup ∧ (∀ s, s ∈ sightL l id sum ↔ (s ∈ l ∧ s.id ≠ id) ∨ s = ⟨id, sum⟩)) := by
  cases hf : l.findIdx? (fun s => s.id == id) with
  | none =>
    have hno : ∀ s ∈ l, s.id ≠ id := by simpa [List.findIdx?_eq_none_iff] using hf
    refine .inr ⟨fun s hs e => absurd e (hno s hs), ?_, fun s => ?_⟩
    · simp only [sightL, hf, ids, List.map_append, List.map_cons, List.map_nil]
      refine List.nodup_append.2 ⟨hd, by simp, fun a ha b hb e => ?_⟩
      obtain ⟨s, hs, rfl⟩ := List.mem_map.1 ha
      simp at hb
      exact hno s hs (by rw [e, hb])
    · simp only [sightL, hf, List.mem_append, List.mem_singleton]
      exact ⟨fun h => h.imp (fun h => ⟨h, hno s h⟩) (fun h => h), fun h => h.imp And.left (fun h => h)⟩
  | some i =>
    obtain ⟨hi, hp, _⟩ := List.findIdx?_eq_some_iff_getElem.1 hf
    have hp : l[i].id = id := by simpa using hp
    have hs : ((l[i]?).map (·.sum)).getD 0 = l[i].sum := by simp [hi]
    by_cases hlt : sum < l[i].sum
    · refine .inr ⟨fun s hs' e => ?_, ?_, fun s => ?_⟩
      · rw [ids_inj hd hs' (List.getElem_mem hi) (by rw [e, hp])]; exact hlt
      · simp only [sightL, hf, hs, hlt, if_true, ids, List.map_set]
        have : (l.map (·.id)).set i id = l.map (·.id) := by
          apply List.ext_getElem?
          intro j
          rw [List.getElem?_set]
          by_cases hj : i = j
          · subst hj; simp [hi, hp]
          · simp [hj]
        rw [this]; exact hd
      · simp only [sightL, hf, hs, hlt, if_true]
        constructor
        · intro h
          obtain ⟨j, hj, e⟩ := List.mem_iff_getElem.1 h
          rw [List.getElem_set] at e
          by_cases hij : i = j
          · simp [hij] at e; exact .inr e.symm
          · rw [if_neg hij] at e
            subst e
            have hj' : j < l.length := by simpa using hj
            refine .inl ⟨List.getElem_mem hj', fun e => hij ?_⟩
            exact ids_at hd hi hj' (by rw [hp, e])
        · rintro (⟨h, hne⟩ | rfl)
          · obtain ⟨j, hj, rfl⟩ := List.mem_iff_getElem.1 h
            have hij : i ≠ j := fun e => hne (by subst e; exact hp)
            exact List.mem_iff_getElem.2 ⟨j, by simpa using hj, by rw [List.getElem_set_ne hij]⟩
          · exact List.mem_iff_getElem.2 ⟨i, by simpa using hi, by simp⟩
    · refine .inl ⟨⟨l[i], List.getElem_mem hi, hp, by omega⟩, ?_⟩
      simp only [sightL, hf, hs, hlt, if_false]

/-! ## the program's state -/
structure Mark where
  sum : Int
  from_ : Int
  edge : Int
  done : Bool
def Mark.val (m : Mark) : Value := .agg #[.int .i64 m.sum, .int .i64 m.from_, .int .i64 m.edge, .bool m.done]

structure Sim (start : Int) (hops : Bool) (st nr : List Seen) (its : List Item) (M : List (Int × Mark)) (log : List (Seen × Arc)) : Prop where
  dist : (ids (st ++ nr)).Nodup
  near : ∀ s ∈ nr, ∃ f e, gget M s.id = some ⟨s.sum, f, e, false⟩
  fin : ∀ s ∈ st, ∃ f e, gget M s.id = some ⟨s.sum, f, e, true⟩
  only : ∀ id k, gget M id = some k → ∃ s ∈ (if k.done then st else nr), s.id = id ∧ s.sum = k.sum
  item : ∀ s ∈ nr, ∃ x ∈ its, x.key = s.sum ∧ x.tag = s.id
  mark : ∀ x ∈ its, ∃ k, gget M x.tag = some k
  heap : HeapOk (aheadB ltOffer) its
  low : ∀ s ∈ st, ∀ t ∈ nr, s.sum ≤ t.sum
  top : ∀ s ∈ st ++ nr, 0 ≤ s.sum ∧ s.sum ≤ 1099511627776 ∧ (hops = true → s.sum ≤ st.length)
  logs : ∀ p ∈ log, ∃ k, gget M p.2.to = some k ∧ k.sum ≤ p.1.sum + wt hops p.2
  via : ∀ id k, gget M id = some k → id ≠ start → ∃ p, log.find? (fun p => p.2.to == id && p.1.sum + wt hops p.2 == k.sum) = some p ∧ k.from_ = p.1.id ∧ k.edge = p.2.edge
  zero : ∃ e, gget M start = some ⟨0, 0, 0, e⟩

/-- The start. -/
theorem Sim.start (start : Int) (hops : Bool) : Sim start hops [] [⟨start, 0⟩] (siftUp ltOffer [⟨0, start, 0⟩] 0) [(start, ⟨0, 0, 0, false⟩)] [] where
  dist := by simp [ids]
  near := by simp [gget]
  fin := (by simp)
  only := fun id k h => by
    by_cases e : start = id
    · subst e; simp [gget] at h; subst h; exact ⟨⟨start, 0⟩, by simp, rfl, rfl⟩
    · simp [gget, e] at h
  item := by simp [siftUp]
  mark := by simp [siftUp, gget]
  heap := fun j h0 hj => by simp [siftUp] at hj; omega
  low := by simp
  top := by simp
  logs := by simp
  via := fun id k h hne => by
    have : ¬ start = id := fun e => hne e.symm
    simp [gget, this] at h
  zero := ⟨false, by simp [gget]⟩
end Go.Proofs.YtkiakofohkecaaaDoor
