/- The plain law of the way: by which arcs the settled nodes were come to. No program is in sight. No condition but those each theorem states. -/
import Derived.Test.YtkiakofohkecaaaDoorMx2
import Derived.Test.YtkiakofohkecaaaDoorMx3
import Derived.Test.YtkiakofohkecaaaDoorMx4
namespace Go.Proofs.YtkiakofohkecaaaDoor
open Go Go.Fw

def predB (hops : Bool) (t s : Seen) (a : Arc) : Bool := a.to == t.id && s.sum + wt hops a == t.sum
/-- The arc by which the way comes to settled node k: the place of the node it leaves, and itself. -/
def pre (S : Sr) (st : List Seen) (k : Nat) : Option (Nat × Arc) :=
  (List.range k).findSome? fun i => ((S.of (snth st i).id).1.find? (predB S.hops (snth st k) (snth st i))).map fun a => (i, a)
theorem pre_lt {S : Sr} {st : List Seen} {k i : Nat} {a : Arc} (h : pre S st k = some (i, a)) : i < k ∧ a ∈ (S.of (snth st i).id).1 ∧ a.to = (snth st k).id ∧ (snth st i).sum + wt S.hops a = (snth st k).sum := by
  obtain ⟨j, hj, e⟩ := List.exists_of_findSome?_eq_some h
  obtain ⟨b, hb, e2⟩ := Option.map_eq_some_iff.1 e
  simp only [Prod.mk.injEq] at e2
  obtain ⟨rfl, rfl⟩ := e2
  have hp := List.find?_some hb
  simp only [predB, Bool.and_eq_true, beq_iff_eq] at hp
  exact ⟨by simpa using hj, List.mem_of_find?_eq_some hb, hp.1, hp.2⟩
theorem snth_app {st r : List Seen} {k : Nat} (h : k < st.length) : snth (st ++ r) k = snth st k := by
  rw [snth_get (by simp; omega), snth_get h, List.getElem_append_left h]
theorem pre_log {S : Sr} {st : List Seen} (hall : ∀ s, S.asks s = true) (t : Seen) : ∀ (k : Nat), k ≤ st.length →
    (logF S (st.take k)).find? (fun p => predB S.hops t p.1 p.2) = ((List.range k).findSome? fun i => ((S.of (snth st i).id).1.find? (predB S.hops t (snth st i))).map fun a => (i, a)).map fun x => (snth st x.1, x.2)
  | 0, _ => by simp [logF]
  | k + 1, h => by
    have ih := pre_log (st := st) hall t k (by omega)
    have e : st.take (k + 1) = st.take k ++ [snth st k] := by rw [List.take_add_one, List.getElem?_eq_getElem (by omega), snth_get (by omega)]; rfl
    rw [e, logF_app, if_pos (hall _), List.find?_append, ih, List.range_succ, List.findSome?_append]
    cases (List.range k).findSome? fun i => ((S.of (snth st i).id).1.find? (predB S.hops t (snth st i))).map fun a => (i, a) with
    | some x => simp
    | none =>
      simp only [Option.map_none, Option.none_or, List.findSome?_cons, List.findSome?_nil, List.find?_map]
      have : ((fun p : Seen × Arc => predB S.hops t p.1 p.2) ∘ fun a => (snth st k, a)) = predB S.hops t (snth st k) := rfl
      rw [this]
      cases (S.of (snth st k).id).1.find? (predB S.hops t (snth st k)) <;> simp

def Before (S : Sr) (start : Int) (st : List Seen) : Prop := ∀ k, k < st.length → (snth st k).id ≠ start → ((logF S (st.take k)).find? fun p => predB S.hops (snth st k) p.1 p.2).isSome = true
def Good (S : Sr) (st : List Seen) : Prop := ∀ p ∈ logF S st, 0 ≤ wt S.hops p.2 ∧ p.1.sum + wt S.hops p.2 ≤ 1099511627776
theorem arcs_good {hops : Bool} {st : List Seen} {sum : Int} : ∀ (l : List Arc) {nr : List Seen}, (arcsL hops st sum l nr).1 = 0 → ∀ a ∈ l, 0 ≤ wt hops a ∧ sum + wt hops a ≤ 1099511627776
  | [], _, _ => by simp
  | a :: l, nr, h => by
    unfold arcsL at h
    split at h
    · simp at h
    · split at h
      · simp at h
      · intro b hb
        rcases List.mem_cons.1 hb with rfl | hb
        · omega
        · exact arcs_good l h b hb

theorem rest_more (S : Sr) (hall : ∀ s, S.asks s = true) (start : Int) : ∀ (n : Nat) (st nr : List Seen) (its : List Item) (M : List (Int × Mark)) (a : List Int), Sim start S.hops st nr its M (logF S st) → Before S start st → Good S st → (restF S n st nr a).code = 0 →
    Before S start (restF S n st nr a).settled ∧ Good S (endL (restF S n st nr a))
  | 0, st, nr, its, M, a, H, hb, hg => by
    unfold restF
    split
    · exact fun _ => ⟨hb, by simpa [endL] using hg⟩
    · intro h; cases h
  | n + 1, st, nr, its, M, a, H, hb, hg => by
    unfold restF
    split
    · exact fun _ => ⟨hb, by simpa [endL] using hg⟩
    · rename_i hnr
      obtain ⟨its', M', H', hmem, hat, hlow, hh⟩ := Sim.next hnr _ rfl H
      generalize snth nr (leastI nr) = at_ at *
      have hb1 : Before S start (st ++ [at_]) := fun k hk hne => by
        by_cases hkl : k < st.length
        · have := hb k hkl (by rwa [snth_app hkl] at hne)
          rw [snth_app hkl, List.take_append_of_le_length (by omega)]
          exact this
        · obtain rfl : k = st.length := by simp at hk; omega
          have e : snth (st ++ [at_]) st.length = at_ := by rw [snth_get (by simp)]; simp
          rw [e] at hne ⊢
          rw [List.take_left' rfl]
          obtain ⟨f, ed, hgt⟩ := H.near at_ hmem
          obtain ⟨p, hp, _⟩ := H.via _ _ hgt hne
          have : (fun p : Seen × Arc => predB S.hops at_ p.1 p.2) = fun p => p.2.to == at_.id && p.1.sum + wt S.hops p.2 == at_.sum := rfl
          rw [this, hp]
          rfl
      unfold settleF
      split
      · exact fun _ => ⟨hb1, by simpa [endL] using hg⟩
      · split
        · rename_i has
          split
          · rename_i hc; intro h; exact absurd h hc
          · split
            · rename_i hc; intro h; exact absurd h hc
            · rename_i hc
              have hc : (arcsL S.hops (st ++ [at_]) at_.sum (S.of at_.id).1 (nr.eraseIdx (leastI nr))).1 = 0 := Classical.byContradiction fun h => hc h
              obtain ⟨its'', M'', H'', _⟩ := Sim.arcs (at_ := at_) (by simp) hat hh _ H' hlow hc
              refine rest_more S hall start n _ _ its'' M'' _ (by rw [logF_app]; simpa [has] using H'') hb1 fun p hp => ?_
              rw [logF_app, if_pos has] at hp
              rcases List.mem_append.1 hp with hp | hp
              · exact hg p hp
              · obtain ⟨b, hb, rfl⟩ := List.mem_map.1 hp
                exact arcs_good _ hc b hb
        · rename_i has
          exact absurd (hall at_.sum) (by simpa using has)
theorem search_more (S : Sr) (hall : ∀ s, S.asks s = true) (start : Int) (hc : (searchF S start).code = 0) : Before S start (searchF S start).settled ∧ Good S (endL (searchF S start)) := by
  rw [← search_start] at hc ⊢
  exact rest_more S hall start 4096 [] [⟨start, 0⟩] _ _ [] (Sim.start start S.hops) (fun k hk => by simp at hk) (fun p hp => by simp [logF] at hp) hc

theorem search_first (S : Sr) (start : Int) : ∃ l, (searchF S start).settled = ⟨start, 0⟩ :: l := by
  have h1 : ∀ (n : Nat) (st nr : List Seen) (a : List Int), ∃ l, (restF S n st nr a).settled = st ++ l := by
    intro n
    induction n with
    | zero => intro st nr a; unfold restF; split <;> exact ⟨[], by simp⟩
    | succ n ih =>
      intro st nr a
      unfold restF
      split
      · exact ⟨[], by simp⟩
      · unfold settleF
        split
        · exact ⟨_, rfl⟩
        · split
          · split
            · exact ⟨_, rfl⟩
            · split
              · exact ⟨_, rfl⟩
              · obtain ⟨l, e⟩ := ih (st ++ [snth nr (leastI nr)]) (arcsL S.hops (st ++ [snth nr (leastI nr)]) (snth nr (leastI nr)).sum (S.of (snth nr (leastI nr)).id).1 (nr.eraseIdx (leastI nr))).2 (a ++ [(snth nr (leastI nr)).id])
                exact ⟨_, by rw [e, List.append_assoc]⟩
          · obtain ⟨l, e⟩ := ih (st ++ [snth nr (leastI nr)]) (nr.eraseIdx (leastI nr)) a
            exact ⟨_, by rw [e, List.append_assoc]⟩
  unfold searchF settleF
  split
  · exact ⟨[], rfl⟩
  · split
    · split
      · exact ⟨[], rfl⟩
      · split
        · exact ⟨[], rfl⟩
        · exact h1 _ _ _ _
    · exact h1 _ _ _ _

/-- The way to settled node k: its nodes, its arcs' edges. -/
def wayF (S : Sr) (st : List Seen) (k : Nat) : List Int × List Int :=
  match pre S st k with
  | some (i, a) => if _h : i < k then ((wayF S st i).1 ++ [(snth st k).id], (wayF S st i).2 ++ [a.edge]) else ([(snth st k).id], [])
  | none => ([(snth st k).id], [])
termination_by k
theorem wayF_some {S : Sr} {st : List Seen} {k i : Nat} {a : Arc} (h : pre S st k = some (i, a)) : wayF S st k = ((wayF S st i).1 ++ [(snth st k).id], (wayF S st i).2 ++ [a.edge]) := by
  rw [wayF, h]
  simp [(pre_lt h).1]
theorem wayF_none {S : Sr} {st : List Seen} {k : Nat} (h : pre S st k = none) : wayF S st k = ([(snth st k).id], []) := by rw [wayF, h]
theorem wayF_zero (S : Sr) (st : List Seen) : wayF S st 0 = ([(snth st 0).id], []) := wayF_none (by simp [pre])
theorem wayF_len (S : Sr) (st : List Seen) : ∀ (n k : Nat), k ≤ n → (wayF S st k).1.length = (wayF S st k).2.length + 1 ∧ (wayF S st k).2.length ≤ k
  | n, k, hk => by
    cases h : pre S st k with
    | none => rw [wayF_none h]; simp
    | some x =>
      obtain ⟨i, a⟩ := x
      have hl := (pre_lt h).1
      match n, hk with
      | 0, hk => omega
      | n + 1, hk =>
        have := wayF_len S st n i (by omega)
        rw [wayF_some h]
        simp
        omega

/-- What holds of a search that came to its aim. -/
structure WayOk (S : Sr) (start : Int) (st : List Seen) (M : List (Int × Mark)) : Prop where
  first : 0 < st.length ∧ snth st 0 = ⟨start, 0⟩
  nodup : (ids st).Nodup
  step : ∀ k, 0 < k → k < st.length → (snth st k).id ≠ start ∧ ∃ i a, pre S st k = some (i, a) ∧ i < k ∧ ∃ d, gget M (snth st k).id = some ⟨(snth st k).sum, (snth st i).id, a.edge, d⟩
  good : ∀ i, i + 1 < st.length → ∀ a ∈ (S.of (snth st i).id).1, 0 ≤ wt S.hops a ∧ (snth st i).sum + wt S.hops a ≤ 1099511627776
  sums : ∀ s ∈ st, 0 ≤ s.sum ∧ s.sum ≤ 1099511627776

theorem way_ok (S : Sr) (hall : ∀ s, S.asks s = true) (start : Int) {nr : List Seen} {its : List Item} {M : List (Int × Mark)} {log : List (Seen × Arc)} (hh : (searchF S start).hit = true) (H : Sim start S.hops (searchF S start).settled nr its M log) (hlog : log = logF S (endL (searchF S start))) : WayOk S start (searchF S start).settled M := by
  obtain ⟨hc, st0, last, hst, hov⟩ := search_hit S start hh
  obtain ⟨hb, hg⟩ := search_more S hall start hc
  obtain ⟨l, hfirst⟩ := search_first S start
  have hend : endL (searchF S start) = st0 := by simp [endL, hh, hst]
  rw [hend] at hlog hg
  generalize (searchF S start).settled = st at *
  have hnd : (ids st).Nodup := by
    have := H.dist
    rw [ids, List.map_append, List.nodup_append] at this
    exact this.1
  have h0 : 0 < st.length ∧ snth st 0 = ⟨start, 0⟩ := by rw [hfirst]; simp [snth]
  have hlen : st.length = st0.length + 1 := by rw [hst]; simp
  refine ⟨h0, hnd, fun k hk hkl => ?_, fun i hi a ha => ?_, fun s hs => ?_⟩
  · have hne : (snth st k).id ≠ start := fun e => by
      have e' : st[k].id = st[0].id := by
        have h1 := h0.2
        rw [snth_get h0.1] at h1
        rw [snth_get hkl] at e
        rw [h1, e]
      have := ids_at hnd hkl h0.1 e'
      omega
    refine ⟨hne, ?_⟩
    have hb' := hb k hkl hne
    obtain ⟨p, hp⟩ := Option.isSome_iff_exists.1 hb'
    have hpl := pre_log (S := S) (st := st) hall (snth st k) k (by omega)
    rw [hp] at hpl
    obtain ⟨x, hx, hxp⟩ := Option.map_eq_some_iff.1 hpl.symm
    obtain ⟨i, a⟩ := x
    have hpre : pre S st k = some (i, a) := hx
    refine ⟨i, a, hpre, (pre_lt hpre).1, ?_⟩
    obtain ⟨f, ed, hgt⟩ := H.fin (snth st k) (snth_mem hkl)
    obtain ⟨p', hp', hf, he⟩ := H.via _ _ hgt hne
    have hfull : log.find? (fun p => predB S.hops (snth st k) p.1 p.2) = some p := by
      rw [hlog]
      have e : st0 = st.take k ++ st0.drop k := by
        have : st.take k = st0.take k := by rw [hst, List.take_append_of_le_length (by omega)]
        rw [this, List.take_append_drop]
      have e2 : logF S st0 = logF S (st.take k) ++ logF S (st0.drop k) := by
        conv => lhs; rw [e]
        simp [logF]
      rw [e2, List.find?_append, hp]
      rfl
    have e3 : log.find? (fun p => predB S.hops (snth st k) p.1 p.2) = some p' := hp'
    rw [hfull] at e3
    obtain rfl := Option.some.inj e3
    simp only at hf he
    rw [← hxp] at hf he
    exact ⟨true, by rw [hgt, hf, he]⟩
  · have hm : (snth st i) ∈ st0 := by
      have : snth st i = snth st0 i := by rw [hst]; exact snth_app (by omega)
      rw [this]; exact snth_mem (by omega)
    exact hg (snth st i, a) (mem_logF.2 ⟨hm, hall _, ha⟩)
  · have := H.top s (by simp [hs])
    exact ⟨this.1, this.2.1⟩
end Go.Proofs.YtkiakofohkecaaaDoor

/- Reverse; the arc by which a way comes; two ways compared. No condition but that the memory is as told. -/
namespace Go.Proofs.YtkiakofohkecaaaDoor
open Go Go.Fw

set_option maxRecDepth 100000 in
theorem over_to55 {q E : Nat} {fz : Nat × Nat} {to : Int} : FnOk [(q, .cells #[.int .i64 to] E fz)] (.func (.func 55) #[] #[.pointer (some ⟨q, 0, none⟩)]) (fun id => decide (id = to)) := ⟨fun h k K hL hK => by
  have e : okF Tryd.prog 55 = true := by kernel_rfl
  have g := hL _ (List.mem_singleton.2 rfl)
  simp only [callV, e]
  refine f55.ok (t0 := .int .i64 k) (t1 := .pointer (some ⟨q, 0, none⟩)) ?_
  unfold f55.T
  simpa [ldS_at g] using hK⟩

def VInv (hS : Hp) (v : Value) (l : List Int) (bl : List Nat) (vs : List Value) (h : Hp) : Prop :=
  ∃ (i : Nat) (c : List Int), vs = [.int .i64 i, .int .i64 ((l.length : Int) - 1 - i)] ∧ c.length = l.length ∧ 2 * i ≤ l.length + 1 ∧ OwnS h 2 1 v (ints c) bl ∧ Fr hS h bl ∧ ∀ p, p < l.length → c[p]? = if p < i ∨ l.length < p + i + 1 then l[l.length - 1 - p]? else l[p]?
def muV (vs : List Value) (_ : Hp) : Nat := match vs with | [.int _ i, .int _ j] => (j - i + 1).toNat | _ => 0

theorem reverse_spec {h : Hp} {v : Value} {l : List Int} {bl : List Nat} (o : OwnS h 2 1 v (ints l) bl) (hl : l.length ≤ 1048576) {R : Value → Hp → Prop} (hR : ∀ h', OwnS h' 2 1 v (ints l.reverse) bl → Fr h h' bl → R (.tuple #[]) h') : CallsH Tryd.prog 56 #[v] h R := by
  refine f56.ok ?_
  unfold f56.T
  have w0 : IntKind.i64.wrap ((l.length : Int) - 1) = (l.length : Int) - 1 := i64_id (by omega) (by omega)
  simp only [own_len o, bnd_some, bin_sub, w0]
  unfold f56.L1
  refine ⟨VInv h v l bl, muV, ⟨0, l, by simp, rfl, by omega, o, Fr.refl _ _, fun p hp => by rw [if_neg (by omega)]⟩, ?_⟩
  intro t7 t8 t9 t14 t15 t16 t17 t18 t19 t20 t21 t22 t23 t24 t25 t26 t27 t10 t11 t12 t13 t2 t3 h1
  rintro ⟨i, c, hv, hc, hi, oc, f, hp⟩
  obtain ⟨rfl, rfl⟩ : t2 = .int .i64 i ∧ t3 = .int .i64 ((l.length : Int) - 1 - i) := by simpa using hv
  simp only [bin_lss, bnd_some, condT_bool]
  by_cases hlt : 2 * i + 1 < l.length
  · have hdec : decide ((i : Int) < (l.length : Int) - 1 - i) = true := by simp; omega
    have ej : (l.length : Int) - 1 - i = ((l.length - 1 - i : Nat) : Int) := by omega
    obtain ⟨b1, o1, e1, r1⟩ := own_read oc (i := l.length - 1 - i) (by omega)
    obtain ⟨b2, o2, e2, r2⟩ := own_read oc (i := i) (by omega)
    obtain ⟨b3, o3, hb3, e3, h2, s3, oc2, f2⟩ := own_set oc (k := i) (by omega) (c[l.length - 1 - i]'(by omega))
    obtain ⟨b4, o4, hb4, e4, h3, s4, oc3, f3⟩ := own_set oc2 (k := l.length - 1 - i) (by simp; omega) (c[i]'(by omega))
    have e23 : (some (Value.pointer (some ⟨b2, o2, none⟩)) : Option Value) = some (.pointer (some ⟨b3, o3, none⟩)) := e2.symm.trans e3
    have e14 : (some (Value.pointer (some ⟨b1, o1, none⟩)) : Option Value) = some (.pointer (some ⟨b4, o4, none⟩)) := e1.symm.trans e4
    have w1 : IntKind.i64.wrap ((i : Int) + 1) = ((i + 1 : Nat) : Int) := by rw [i64_id (by omega) (by omega)]; omega
    have w2 : IntKind.i64.wrap (((l.length - 1 - i : Nat) : Int) - 1) = (l.length : Int) - 1 - ((i + 1 : Nat) : Int) := by rw [i64_id (by omega) (by omega)]; omega
    simp only [hdec, if_true]
    simp only [ej, e4, e3, bnd_some]
    rw [Option.some.inj e14] at r1
    rw [Option.some.inj e23] at r2
    simp only [r1, r2, s3, s4, bnd_some, bin_add, bin_sub, w1, w2]
    refine ⟨⟨i + 1, _, rfl, by simp [hc], by omega, oc3, (f.then f2).then f3, fun p hpl => ?_⟩, by simp only [muV]; omega⟩
    have hpi := hp i (by omega)
    have hpj := hp (l.length - 1 - i) (by omega)
    rw [if_neg (by omega)] at hpi hpj
    rw [List.getElem?_set, List.getElem?_set]
    by_cases h1 : l.length - 1 - i = p
    · subst h1
      rw [if_pos rfl, if_pos (by simp; omega), if_pos (by omega)]
      have : l.length - 1 - (l.length - 1 - i) = i := by omega
      rw [this, ← hpi, List.getElem?_eq_getElem (by omega)]
    · rw [if_neg h1]
      by_cases h2 : i = p
      · subst h2
        rw [if_pos rfl, if_pos (by omega), if_pos (by omega), ← hpj, List.getElem?_eq_getElem (by omega)]
      · rw [if_neg h2, hp p hpl]
        have : (p < i ∨ l.length < p + i + 1) ↔ (p < i + 1 ∨ l.length < p + (i + 1) + 1) := by omega
        simp only [this]
  · have hdec : decide ((i : Int) < (l.length : Int) - 1 - i) = false := by simp; omega
    simp only [hdec, Bool.false_eq_true, if_false]
    have e : c = l.reverse := by
      apply List.ext_getElem?
      intro p
      by_cases hpl : p < l.length
      · rw [hp p hpl, List.getElem?_reverse hpl]
        split
        · rfl
        · congr 1; omega
      · rw [List.getElem?_eq_none (by omega), List.getElem?_eq_none (by simp; omega)]
    subst e
    exact hR h1 oc f

/-! ## arcTo -/
theorem findSome_at {α β : Type} {f : Nat → Option β} {k i : Nat} (hi : i < k) (h : ∀ j, j < i → f j = none) {x : β} (e : f i = some x) : (List.range k).findSome? f = some x := by
  induction k with
  | zero => omega
  | succ k ih =>
    rw [List.range_succ, List.findSome?_append]
    by_cases hik : i < k
    · rw [ih hik]; rfl
    · obtain rfl : i = k := by omega
      have : (List.range i).findSome? f = none := by
        rw [List.findSome?_eq_none_iff]
        intro j hj
        exact h j (by simpa using hj)
      rw [this]
      simp [e]
def preV (x : Option (Nat × Arc)) : Value := match x with
  | some (i, a) => .tuple #[.int .i64 i, .agg #[.int .i64 a.edge, .int .i64 a.to, .int .i64 a.weight]]
  | none => .tuple #[.int .i64 (-1), .agg #[.int .i64 0, .int .i64 0, .int .i64 0]]
def TInv (hb : Hp) (S : Sr) (st : List Seen) (k : Nat) (vs : List Value) (h : Hp) : Prop := ∃ i : Nat, vs = [.int .i64 i] ∧ i ≤ k ∧ Fr hb h [] ∧ ∀ j, j < i → (S.of (snth st j).id).1.find? (predB S.hops (snth st k) (snth st j)) = none
def TInv2 (h3 : Hp) (S : Sr) (t s : Seen) (l : List Arc) (vs : List Value) (h : Hp) : Prop := ∃ j : Nat, vs = [.int .i64 j] ∧ j ≤ l.length ∧ h = h3 ∧ ∀ a ∈ l.take j, predB S.hops t s a = false
theorem fill_arc0 : (fillS [(0, 1), (1, 1), (2, 1)] #[(.int .i64 0), (.int .i64 0), (.int .i64 0)] []).map Value.agg = some (.agg #[.int .i64 0, .int .i64 0, .int .i64 0]) := by kernel_rfl

set_option maxHeartbeats 1000000 in
theorem arcTo_spec {h : Hp} {v : Value} {rows : List NRow} {tail : Bool} (net : NetOk h v rows) {S : Sr} (hof : S.of = ofL rows tail) (hop : S.hops = false) {st : List Seen} {sv av : Value} (hav : av.oneCell' = true) (os : RowV h 2 sv (st.map Seen.enc)) {code : Int} {hit : Bool} {k : Nat} (hk : k < st.length) (hst : st.length ≤ 4096)
    (hsum : ∀ s ∈ st, 0 ≤ s.sum ∧ s.sum ≤ 1099511627776) (good : ∀ i, i < k → ∀ a ∈ (S.of (snth st i).id).1, 0 ≤ wt S.hops a ∧ (snth st i).sum + wt S.hops a ≤ 1099511627776) {R : Value → Hp → Prop} (hR : ∀ h', Fr h h' [] → R (preV (pre S st k)) h') :
    CallsH Tryd.prog 57 #[.agg #[v, .bool tail], .agg #[sv, av, .int .i64 code, .bool hit], .int .i64 (k : Int)] h R := by
  refine f57.ok ?_
  unfold f57.T
  simp only [nw_eq, cells_agg, ptr0_eq]
  have f1 := Fr.push h (.cells #[v, .bool tail] 26 (0, 0)) []
  have g1 := get_new h (.cells #[v, .bool tail] 26 (0, 0))
  generalize h.push (.cells #[v, .bool tail] 26 (0, 0)) = h1 at *
  have f2 := Fr.push h1 (.cells #[sv, av, .int .i64 code, .bool hit] 100 (0, 0)) []
  have g2 := get_new h1 (.cells #[sv, av, .int .i64 code, .bool hit] 100 (0, 0))
  generalize h1.push (.cells #[sv, av, .int .i64 code, .bool hit] 100 (0, 0)) = h2 at *
  have f3 := Fr.push h2 (.cells #[.int .i64 0, .int .i64 0, .int .i64 0] 62 (0, 0)) []
  have g3 := get_new h2 (.cells #[.int .i64 0, .int .i64 0, .int .i64 0] 62 (0, 0))
  generalize h2.push (.cells #[.int .i64 0, .int .i64 0, .int .i64 0] 62 (0, 0)) = h3 at *
  have F3 : Fr h h3 [] := (f1.then f2).then f3
  have g13 := (f2.then f3).get g1 (by simp)
  have g23 := f3.get g2 (by simp)
  -- the answer is written
  have ret : ∀ (h' : Hp) (x y z : Int) (i : Int), Fr h3 h' [] → R (.tuple #[.int .i64 i, .agg #[.int .i64 x, .int .i64 y, .int .i64 z]]) (h'.setIfInBounds h2.size (.cells #[.int .i64 x, .int .i64 y, .int .i64 z] 62 (0, 0))) →
      bnd (stE 3 h' (.pointer (some ⟨h2.size, 0, none⟩)) (.agg #[.int .i64 x, .int .i64 y, .int .i64 z])) fun h_7 => bnd (ldA 3 h_7 (.pointer (some ⟨h2.size, 0, none⟩))) fun r7 => R (.tuple #[.int .i64 i, r7]) h_7 := by
    intro h' x y z i f hr
    have g := f.get g3 (by simp)
    have s : stE 3 h' (.pointer (some ⟨h2.size, 0, none⟩)) (.agg #[.int .i64 x, .int .i64 y, .int .i64 z]) = some (h'.setIfInBounds h2.size (.cells #[.int .i64 x, .int .i64 y, .int .i64 z] 62 (0, 0))) := by
      rw [stE_at _ g]; simp [splice]
    have g' := get_set (o' := .cells #[.int .i64 x, .int .i64 y, .int .i64 z] 62 (0, 0)) g
    have l : ldA 3 (h'.setIfInBounds h2.size (.cells #[.int .i64 x, .int .i64 y, .int .i64 z] 62 (0, 0))) (.pointer (some ⟨h2.size, 0, none⟩)) = some (.agg #[.int .i64 x, .int .i64 y, .int .i64 z]) := by rw [ldA_at g']; simp
    simp only [s, bnd_some, l]
    exact hr
  have f12s : h.size ≤ h2.size := (f1.then f2).size
  unfold f57.L1
  refine ⟨TInv h3 S st k, muI k, ⟨0, rfl, by omega, Fr.refl _ _, by simp⟩, ?_⟩
  intro t12 t13 t14 t18 t19 t20 t21 t22 t23 t24 t25 t17 t26 t27 t9 t10 t28 t29 t30 t31 t32 t33 t34 t35 t38 t39 t40 t41 t42 t43 t44 t45 t46 t47 t48 t49 t50 t51 t52 t53 t54 t55 t56 t57 t58 t59 t60 t61 t62 t63 t64 t65 t66 t67 t68 t69 t70 t71 t72 t73 t74 t75 t6 t36 t37 t11 t15 t16 t8 h4
  rintro ⟨i, hv, hi, f4, hno⟩
  obtain rfl : t8 = .int .i64 i := by simpa using hv
  have F4 := F3.then f4
  have g14 := f4.get g13 (by simp)
  have g24 := f4.get g23 (by simp)
  simp only [bin_lss, bnd_some, condT_bool]
  by_cases hlt : i < k
  · have hdec : decide ((i : Int) < (k : Int)) = true := by simp; omega
    have w0 : IntKind.i64.wrap ((i : Int) + 1) = ((i + 1 : Nat) : Int) := by rw [i64_id (by omega) (by omega)]; omega
    have l4 : ldA 2 h4 (.pointer (some ⟨h.size, 0, none⟩)) = some (.agg #[v, .bool tail]) := by rw [ldA_at g14]; simp
    obtain ⟨bi, oi, ei, ri0, ri1⟩ := seen_read (os.fr F4) (j := i) (by omega)
    rw [← snth_get (by omega)] at ri0 ri1
    simp only [hdec, if_true, l4, bnd_some, fldE_ptr, Nat.zero_add, Nat.add_zero, ldS_at g24, List.getElem?_toArray, List.getElem?_cons_zero, ei, ri0]
    refine of_spec (net.fr F4) (snth st i).id fun h5 v5 r5 f5 => ?_
    have hgood := good i hlt
    have hall := ofL_len net tail (snth st i).id
    rw [hof] at hgood
    have F5 := f4.then f5
    have g25 := f5.get g24 (by simp)
    have os5 := os.fr (F4.then f5)
    obtain ⟨bi, oi, ei, ri0, ri1⟩ := seen_read os5 (j := i) (by omega)
    obtain ⟨bk, ok, ek, rk0, rk1⟩ := seen_read os5 (j := k) hk
    rw [← snth_get (by omega)] at ri0 ri1 rk0 rk1
    have hnone : (ofL rows tail (snth st i).id).2 ≠ 0 → (ofL rows tail (snth st i).id).1 = [] := by
      unfold ofL
      split
      · split
        · intro h; exact absurd rfl h
        · intro _; rfl
      · split <;> (intro h; exact absurd rfl h)
    have hsi := hsum (snth st i) (snth_mem (by omega))
    have hfind : ∀ x, (ofL rows tail (snth st i).id).1.find? (predB S.hops (snth st k) (snth st i)) = some x → pre S st k = some (i, x) := fun x hx => by
      have : ((S.of (snth st i).id).1.find? (predB S.hops (snth st k) (snth st i))).map (fun a => (i, a)) = some (i, x) := by rw [hof, hx]; rfl
      exact findSome_at (α := Nat) hlt (fun j hj => by rw [hno j hj]; rfl) this
    have nexti : (ofL rows tail (snth st i).id).1.find? (predB S.hops (snth st k) (snth st i)) = none → TInv h3 S st k [.int .i64 ((i + 1 : Nat) : Int)] h5 ∧ muI k [.int .i64 ((i + 1 : Nat) : Int)] h5 < muI k [.int .i64 (i : Int)] h4 := fun hx =>
      ⟨⟨i + 1, rfl, by omega, F5, fun j hj => by
        by_cases e : j = i
        · subst e; rw [hof]; exact hx
        · exact hno j (by omega)⟩, muI_lt _ _ hlt⟩
    generalize hl : (ofL rows tail (snth st i).id).1 = l at *
    generalize hcd : (ofL rows tail (snth st i).id).2 = cd at *
    generalize hsi' : snth st i = si at *
    generalize hsk' : snth st k = sk at *
    have hlen5 : lenE v5 = some (.int .i64 l.length) := by obtain ⟨a, c, e, _⟩ := r5; rw [e]; simp
    simp only [extE_tuple, List.getElem?_toArray, List.getElem?_cons_succ, List.getElem?_cons_zero, bnd_some]
    unfold f57.L2
    refine ⟨TInv2 h5 S sk si l, muI l.length, ⟨0, rfl, by omega, rfl, by simp⟩, ?_⟩
    intro t28_1 t29_1 t30_1 t31_1 t32_1 t33_1 t34_1 t35_1 t38_1 t39_1 t40_1 t41_1 t42_1 t43_1 t44_1 t45_1 t46_1 t47_1 t48_1 t49_1 t50_1 t51_1 t52_1 t53_1 t54_1 t55_1 t56_1 t57_1 t58_1 t59_1 t60_1 t61_1 t62_1 t63_1 t64_1 t65_1 t66_1 t67_1 t68_1 t69_1 t70_1 t71_1 t72_1 t73_1 t74_1 t75_1 t6_1 t36_1 t37_1 t11_1 h6
    rintro ⟨j, hv, hj, rfl, hnj⟩
    obtain rfl : t11_1 = .int .i64 j := by simpa using hv
    have stop : l.find? (predB S.hops sk si) = none → (bnd (binE .add (.int .i64 (i : Int)) (.int .i64 1)) fun t16_1 => (TInv h3 S st k [t16_1] h6 ∧ muI k [t16_1] h6 < muI k [.int .i64 (i : Int)] h4)) := fun hx => by
      simp only [bin_add, bnd_some, w0]
      exact nexti hx
    by_cases hc : cd = 0
    · have hd0 : decide (cd = 0) = true := decide_eq_true hc
      simp only [bin_eql, hd0, bnd_some, isB_bool, beq_self_eq_true, cond_true, hlen5, bin_lss, asB_bool, Option.map_some, condT_bool]
      by_cases hjl : j < l.length
      · have hdec2 : decide ((j : Int) < (l.length : Int)) = true := by simp; omega
        have w1 : IntKind.i64.wrap ((j : Int) + 1) = ((j + 1 : Nat) : Int) := by rw [i64_id (by omega) (by omega)]; omega
        obtain ⟨b7, o7, e7, _, rd7⟩ := r5.get (i := j) (x := (l[j]).enc) (by simp [hjl]) .i64
        have r71 := (rd7 h6 (Fr.refl _ _)).1 1 (by omega)
        have r72 := (rd7 h6 (Fr.refl _ _)).1 2 (by omega)
        have r7a := (rd7 h6 (Fr.refl _ _)).2
        simp only [Arc.enc, List.getElem?_cons_succ, List.getElem?_cons_zero] at r71 r72 r7a
        have hga := hgood l[j] (by simp)
        have w2 : IntKind.i64.wrap (si.sum + l[j].weight) = si.sum + l[j].weight := by
          simp only [wt, hop, Bool.false_eq_true, if_false] at hga
          exact i64_id (by omega) (by omega)
        have more : predB S.hops sk si l[j] = false → (bnd (binE .add (.int .i64 (j : Int)) (.int .i64 1)) fun t37_2 => (TInv2 h6 S sk si l [t37_2] h6 ∧ muI l.length [t37_2] h6 < muI l.length [.int .i64 (j : Int)] h6)) := fun hx => by
          simp only [bin_add, bnd_some, w1]
          refine ⟨⟨j + 1, rfl, by omega, rfl, fun a ha => ?_⟩, muI_lt _ _ hjl⟩
          rw [List.take_add_one, List.getElem?_eq_getElem hjl] at ha
          rcases List.mem_append.1 ha with ha | ha
          · exact hnj a ha
          · simp at ha; subst ha; exact hx
        simp only [hdec2, if_true, e7, bnd_some, fldE_ptr, r71, Nat.zero_add, Nat.add_zero, ldS_at g25, List.getElem?_toArray, List.getElem?_cons_zero, ek, rk0, bin_eql]
        by_cases hto : l[j].to = sk.id
        · have hd1 : decide (l[j].to = sk.id) = true := decide_eq_true hto
          simp only [hd1, isB_bool, beq_self_eq_true, cond_true, fldE_ptr, bnd_some, Nat.zero_add, ldS_at g25, List.getElem?_toArray, List.getElem?_cons_zero, ei, ri1, e7, r72, bin_add, w2, ek, rk1, bin_eql, asB_bool, Option.map_some, condT_bool]
          by_cases hsm : si.sum + l[j].weight = sk.sum
          · have hd2 : decide (si.sum + l[j].weight = sk.sum) = true := decide_eq_true hsm
            have hpj : predB S.hops sk si l[j] = true := by simp [predB, hto, wt, hop, hsm]
            have hf : l.find? (predB S.hops sk si) = some l[j] := by
              have e : l.take j ++ (l[j] :: l.drop (j + 1)) = l := by rw [← List.drop_eq_getElem_cons hjl, List.take_append_drop]
              have e2 : (l.take j ++ (l[j] :: l.drop (j + 1))).find? (predB S.hops sk si) = some l[j] := by
                rw [List.find?_append, List.find?_eq_none.2 fun a ha => by rw [hnj a ha]; simp, List.find?_cons_of_pos hpj]
                rfl
              rwa [e] at e2
            simp only [hd2, if_true, r7a, bnd_some]
            refine ret h6 _ _ _ i F5 ?_
            rw [hfind _ hf] at hR
            exact hR _ ((F3.then F5).set_new (by omega) _)
          · have hd2 : decide (si.sum + l[j].weight = sk.sum) = false := decide_eq_false hsm
            simp only [hd2, Bool.false_eq_true, if_false]
            have := more (by simp [predB, wt, hop, hsm])
            simp only [bin_add, bnd_some] at this
            exact this
        · have hd1 : decide (l[j].to = sk.id) = false := decide_eq_false hto
          simp only [hd1, isB_bool, show (false == true) = false from rfl, cond_false, bnd_some, asB_bool, Option.map_some, condT_bool, Bool.false_eq_true, if_false]
          exact more (by simp [predB, hto])
      · have hdec2 : decide ((j : Int) < (l.length : Int)) = false := by simp; omega
        obtain rfl : j = l.length := by omega
        rw [List.take_length] at hnj
        simp only [hdec2, Bool.false_eq_true, if_false]
        exact stop (List.find?_eq_none.2 fun a ha => by rw [hnj a ha]; simp)
    · have hd0 : decide (cd = 0) = false := decide_eq_false hc
      have hl0 := hnone hc
      simp only [bin_eql, hd0, bnd_some, isB_bool, show (false == true) = false from rfl, cond_false, asB_bool, Option.map_some, condT_bool, Bool.false_eq_true, if_false]
      exact stop (by rw [hl0]; rfl)
  · have hdec : decide ((i : Int) < (k : Int)) = false := by simp; omega
    obtain rfl : i = k := by omega
    simp only [hdec, Bool.false_eq_true, if_false, fill_arc0, bnd_some]
    have hn : pre S st i = none := by
      unfold pre
      rw [List.findSome?_eq_none_iff]
      intro j hj
      rw [hno j (by simpa using hj)]
      rfl
    refine ret h4 0 0 0 (-1) f4 ?_
    rw [hn] at hR
    exact hR _ ((F3.then f4).set_new (by omega) _)

theorem way_spec {h : Hp} {s1 s2 : Int} {n1 n2 e1 e2 : Value} {N1 N2 E1 E2 : List Int} (r1 : RowV h 1 n1 (ints N1)) (r2 : RowV h 1 n2 (ints N2)) (r3 : RowV h 1 e1 (ints E1)) (r4 : RowV h 1 e2 (ints E2)) (hN : N1.length ≤ 1099511627776) (hE : E1.length ≤ 1099511627776) (hs : s1 = s2) (hn : N1 = N2) (he : E1 = E2) {R : Value → Hp → Prop} (hR : ∀ h', Fr h h' [] → R (.bool true) h') :
    CallsH Tryd.prog 30 #[.agg #[.int .i64 s1, n1, e1], .agg #[.int .i64 s2, n2, e2]] h R := by
  subst hs hn he
  refine f30.ok ?_
  unfold f30.T
  simp only [nw_eq, cells_agg, ptr0_eq]
  have f1 := Fr.push h (.cells #[.int .i64 s1, n1, e1] 52 (0, 0)) []
  have g1 := get_new h (.cells #[.int .i64 s1, n1, e1] 52 (0, 0))
  generalize h.push (.cells #[.int .i64 s1, n1, e1] 52 (0, 0)) = h1 at *
  have f2 := Fr.push h1 (.cells #[.int .i64 s1, n2, e2] 52 (0, 0)) []
  have g2 := get_new h1 (.cells #[.int .i64 s1, n2, e2] 52 (0, 0))
  generalize h1.push (.cells #[.int .i64 s1, n2, e2] 52 (0, 0)) = h2 at *
  have g12 := f2.get g1 (by simp)
  have F := f1.then f2
  simp only [fldE_ptr, Nat.zero_add, bnd_some, ldS_at g12, ldS_at g2, List.getElem?_toArray, List.getElem?_cons_succ, List.getElem?_cons_zero, bin_eql, decide_true, isB_bool, beq_self_eq_true, cond_true, guardT_true]
  refine ids_spec (r1.fr F) (r2.fr F) hN ?_
  simp only [decide_true, asB_bool, Option.map_some, cond_true, bnd_some, isB_bool, beq_self_eq_true, fldE_ptr, Nat.zero_add, ldS_at g12, ldS_at g2, List.getElem?_toArray, List.getElem?_cons_succ, List.getElem?_cons_zero, guardT_true]
  refine ids_spec (r3.fr F) (r4.fr F) hE ?_
  simp only [decide_true, asB_bool, Option.map_some, cond_true, bnd_some]
  exact hR h2 F
end Go.Proofs.YtkiakofohkecaaaDoor

/- The program's Least, against the document's search and way as functions. No condition but that the memory is as told. -/
namespace Go.Proofs.YtkiakofohkecaaaDoor
open Go Go.Fw

theorem fill_way0 : (fillS [(0, 1), (1, 1), (2, 1)] #[(.int .i64 0), (.slice none 0 0), (.slice none 0 0)] []).map Value.agg = some (.agg #[.int .i64 0, .slice none 0 0, .slice none 0 0]) := by kernel_rfl
theorem fill_way1 (s : Int) (b n c : Nat) : (fillS [(0, 1), (1, 1), (2, 1)] #[(.int .i64 0), (.slice none 0 0), (.slice none 0 0)] [(0, .int .i64 s), (1, .slice (some ⟨b, 0, none⟩) n c)]).map Value.agg = some (.agg #[.int .i64 s, .slice (some ⟨b, 0, none⟩) n c, .slice none 0 0]) := by kernel_rfl
theorem new_box52 (h : Hp) {a b : Value} {c : Int} (ha : a.oneCell' = true) (hb : b.oneCell' = true) : stE 3 (h.push (.cells #[.int .i64 0, .slice none 0 0, .slice none 0 0] 52 (0, 0))) (.pointer (some ⟨h.size, 0, none⟩)) (.agg #[.int .i64 c, a, b]) =
    some ((h.push (.cells #[.int .i64 0, .slice none 0 0, .slice none 0 0] 52 (0, 0))).setIfInBounds h.size (.cells #[.int .i64 c, a, b] 52 (0, 0))) := by
  rw [stE_at _ (get_new h _)]; simp [splice, ha, hb]
noncomputable def wayW (S : Sr) (start : Int) : List Int × List Int := if (searchF S start).hit then wayF S (searchF S start).settled ((searchF S start).settled.length - 1) else ([], [])
noncomputable def waySum (S : Sr) (start : Int) : Int := if (searchF S start).hit then lastSum (searchF S start) else 0
theorem wayW_len (S : Sr) (start : Int) : (wayW S start).1.length ≤ 4097 ∧ (wayW S start).2.length ≤ 4096 := by
  unfold wayW
  split
  · have h1 := search_len S start
    have h2 := wayF_len S (searchF S start).settled _ ((searchF S start).settled.length - 1) (Nat.le_refl _)
    omega
  · simp

/-- The program's walk back. -/
structure LstI (h5 : Hp) (S : Sr) (st : List Seen) (M : List (Int × Mark)) (p pm pn : Nat) (fv : Value) (its : List Item) (ck : Int) (bl bo : List Nat) (q12 : Nat) (sum : Int) (fin : List Int × List Int) (k : Nat) (X E : List Int) (nv ev : Value) (bn be : List Nat) (h : Hp) : Prop where
  fr : Fr h5 h []
  sr : SrAt h p pm pn fv S.hops M its ck bl (ids st) bo
  box : h[q12]? = some (.cells #[.int .i64 sum, nv, ev] 52 (0, 0))
  on : OwnS h 2 1 nv (ints (X.reverse ++ [(snth st k).id])) bn
  oe : OwnS h 2 1 ev (ints E) be
  new : h5.size ≤ q12 ∧ (∀ b ∈ bn, h5.size ≤ b ∧ b ≠ q12 ∧ b ∉ be) ∧ ∀ b ∈ be, h5.size ≤ b ∧ b ≠ q12
  n : (wayF S st k).1 ++ X = fin.1
  e : (wayF S st k).2 ++ E.reverse = fin.2
  k : k < st.length ∧ X.length + k ≤ st.length ∧ E.length = X.length
def LstInv (h5 : Hp) (S : Sr) (st : List Seen) (M : List (Int × Mark)) (p pm pn : Nat) (fv : Value) (its : List Item) (ck : Int) (bl bo : List Nat) (q12 : Nat) (sum : Int) (fin : List Int × List Int) (vs : List Value) (h : Hp) : Prop :=
  ∃ k X E nv ev bn be, vs = [.int .i64 (snth st k).id] ∧ LstI h5 S st M p pm pn fv its ck bl bo q12 sum fin k X E nv ev bn be h
def muL (q : Nat) (_ : List Value) (h : Hp) : Nat := 5000 - ilen h q

set_option maxHeartbeats 2000000 in
theorem least_L1 {h5 hj : Hp} {S : Sr} {start to : Int} {st : List Seen} {M : List (Int × Mark)} {p pm pn : Nat} {fv : Value} {its : List Item} {ck : Int} {bl bo : List Nat} {q6 q12 : Nat} {sum : Int} {k0 : Nat} {nv0 ev0 : Value} {bn0 be0 : List Nat} (W : WayOk S start st M) (hst : st.length ≤ 4096)
    (I0 : LstI h5 S st M p pm pn fv its ck bl bo q12 sum (wayF S st k0) k0 [] [] nv0 ev0 bn0 be0 hj) (hto : (snth st k0).id = to) (h6 : h5[q6]? = some (.cells #[.int .i64 0, .slice none 0 0, .slice none 0 0] 52 (0, 0))) (hSB : ∀ b ∈ SB p pm pn bl bo, b < h5.size) {R : Value → Hp → Prop}
    (hR : ∀ h' nv ev bn be, Fr h5 h' [q6] → OwnS h' 2 1 nv (ints (wayF S st k0).1) bn → OwnS h' 2 1 ev (ints (wayF S st k0).2) be → (∀ b ∈ bn, h5.size ≤ b ∧ b ∉ be) → (∀ b ∈ be, h5.size ≤ b) → R (.tuple #[.agg #[.int .i64 sum, nv, ev], .bool true, .int .i64 0]) h') :
    f28.L1 (.int .i64 to) hj (.int .i64 start) (.pointer (some ⟨p, 0, none⟩)) (.pointer (some ⟨q12, 0, none⟩)) (.pointer (some ⟨q6, 0, none⟩)) R := by
  have hq6l := lt_of_get h6
  unfold f28.L1
  refine ⟨LstInv h5 S st M p pm pn fv its ck bl bo q12 sum (wayF S st k0), muL q12, ⟨k0, [], [], nv0, ev0, bn0, be0, by rw [hto], I0⟩, ?_⟩
  intro t46 t47 t48 t49 t50 t51 t52 t53 t54 t14 t55 t56 t57 t58 t59 t60 t61 t62 t63 t64 t65 t66 t67 t68 t69 t70 t13 h7
  rintro ⟨k, X, E, nv, ev, bn, be, hv, I⟩
  obtain rfl : t13 = .int .i64 (snth st k).id := by simpa using hv
  have hkX := I.k
  have hs7 := I.fr.size
  simp only [bin_neq, bnd_some, condT_bool]
  by_cases hk0 : k = 0
  · subst hk0
    have hid : (snth st 0).id = start := by rw [W.first.2]
    have hd : decide ((snth st 0).id ≠ start) = false := by simp [hid]
    have hn := I.n
    have he := I.e
    rw [wayF_zero] at hn he
    simp only [List.nil_append] at he
    have hrev : (X.reverse ++ [(snth st 0).id]).reverse = (wayF S st k0).1 := by rw [← hn]; simp
    simp only [hd, Bool.false_eq_true, if_false, fldE_ptr, Nat.zero_add, bnd_some, ldS_at I.box, List.getElem?_toArray, List.getElem?_cons_succ, List.getElem?_cons_zero]
    refine reverse_spec I.on (by simp; omega) fun h8 o8 f8 => ?_
    have g8 := f8.get I.box fun hb => (I.new.2.1 _ hb).2.1 rfl
    have oe8 := I.oe.fr f8 fun b hb hb' => (I.new.2.1 b hb').2.2 hb
    simp only [fldE_ptr, Nat.zero_add, bnd_some, ldS_at g8, List.getElem?_toArray, List.getElem?_cons_succ, List.getElem?_cons_zero]
    refine reverse_spec oe8 (by omega) fun h9 o9 f9 => ?_
    have g9 := f9.get g8 fun hb => (I.new.2.2 _ hb).2 rfl
    have on9 := o8.fr f9 fun b hb hb' => (I.new.2.1 b hb).2.2 hb'
    have l9 : ldA 3 h9 (.pointer (some ⟨q12, 0, none⟩)) = some (.agg #[.int .i64 sum, nv, ev]) := by rw [ldA_at g9]; simp
    have F9 : Fr h5 h9 [] := (I.fr.news f8 fun c hc => (I.new.2.1 c hc).1).news f9 fun c hc => (I.new.2.2 c hc).1
    have g69 := F9.get h6 (by simp)
    have s10 : stE 3 h9 (.pointer (some ⟨q6, 0, none⟩)) (.agg #[.int .i64 sum, nv, ev]) = some (h9.setIfInBounds q6 (.cells #[.int .i64 sum, nv, ev] 52 (0, 0))) := by
      rw [stE_at _ g69]; simp [splice, on9.one, o9.one]
    have g10 := get_set (o' := .cells #[.int .i64 sum, nv, ev] 52 (0, 0)) g69
    have f10 : Fr h9 (h9.setIfInBounds q6 (.cells #[.int .i64 sum, nv, ev] 52 (0, 0))) [q6] := Fr.set _ _ _ (fun _ => by simp) (by rw [g69]; rfl)
    simp only [l9, bnd_some, s10]
    generalize h9.setIfInBounds q6 (.cells #[.int .i64 sum, nv, ev] 52 (0, 0)) = h10 at *
    have l10 : ldA 3 h10 (.pointer (some ⟨q6, 0, none⟩)) = some (.agg #[.int .i64 sum, nv, ev]) := by rw [ldA_at g10]; simp
    simp only [l10, bnd_some]
    rw [hrev] at on9
    rw [he] at o9
    exact hR h10 nv ev bn be (F9.trans f10 (by simp) (fun _ _ h => h)) (on9.fr f10 fun b hb hb' => by simp at hb'; have := (I.new.2.1 b hb).1; omega) (o9.fr f10 fun b hb hb' => by simp at hb'; have := (I.new.2.2 b hb).1; omega) (fun b hb => ⟨(I.new.2.1 b hb).1, (I.new.2.1 b hb).2.2⟩) fun b hb => (I.new.2.2 b hb).1
  · obtain ⟨hne, i, a, hpre, hik, dn, hg⟩ := W.step k (by omega) hkX.1
    have hd : decide ((snth st k).id ≠ start) = true := by simp [hne]
    obtain ⟨ov, e, o⟩ := I.sr.top
    simp only [hd, if_true, nilE_ptr, fldE_ptr, Nat.zero_add, bnd_some, ldS_at e, List.getElem?_toArray, List.getElem?_cons_succ, List.getElem?_cons_zero]
    refine I.sr.look (ok := false) ?_
    simp only [Bool.false_eq_true, if_false, hg, Option.map_some, Option.getD_some, Mark.val, nw_eq, ptr0_eq, new_box4, bnd_some]
    obtain ⟨f9, g9⟩ := box_fr h7 (.cells #[.int .i64 0, .int .i64 0, .int .i64 0, .bool false] 93 (0, 0)) (.cells #[.int .i64 (snth st k).sum, .int .i64 (snth st i).id, .int .i64 a.edge, .bool dn] 93 (0, 0)) rfl rfl
    generalize (h7.push (.cells #[.int .i64 0, .int .i64 0, .int .i64 0, .bool false] 93 (0, 0))).setIfInBounds h7.size (.cells #[.int .i64 (snth st k).sum, .int .i64 (snth st i).id, .int .i64 a.edge, .bool dn] 93 (0, 0)) = h9 at *
    have gb9 := f9.get I.box (by simp)
    have f9s := f9.size
    have lq := lt_of_get I.box
    have ln := I.on.lt
    have le := I.oe.lt
    simp only [fldE_ptr, Nat.zero_add, bnd_some, ldS_at gb9, ldS_at g9, List.getElem?_toArray, List.getElem?_cons_succ, List.getElem?_cons_zero, fill_int, nw_eq]
    have f10 := Fr.push h9 (.cells #[.int .i64 (snth st i).id] 2 (0, 0)) []
    have g10 := get_new h9 (.cells #[.int .i64 (snth st i).id] 2 (0, 0))
    generalize h9.push (.cells #[.int .i64 (snth st i).id] 2 (0, 0)) = h10 at *
    have F10 : Fr h7 h10 [] := f9.then f10
    refine own_app elem28 (I.on.fr F10 (by simp)) (seg_one g10) (by simp) (by simp [ints]; omega) (by simp [ints]; omega) fun h11 nv' bn' on' f11 nb11 => ?_
    have F11 : Fr h7 h11 bn := F10.trans f11 (by simp) (fun c _ hc => hc)
    have gb11 := F11.get I.box fun hb => (I.new.2.1 _ hb).2.1 rfl
    have s12 : stE 1 h11 (.pointer (some ⟨q12, 1, none⟩)) nv' = some (h11.setIfInBounds q12 (.cells #[.int .i64 sum, nv', ev] 52 (0, 0))) := by
      rw [stE_at _ gb11]; simp [splice, on'.cells, on'.one]
    have gb12 := get_set (o' := .cells #[.int .i64 sum, nv', ev] 52 (0, 0)) gb11
    have f12 : Fr h11 (h11.setIfInBounds q12 (.cells #[.int .i64 sum, nv', ev] 52 (0, 0))) [q12] := Fr.set _ _ _ (fun _ => by simp) (by rw [gb11]; rfl)
    simp only [s12, bnd_some]
    generalize h11.setIfInBounds q12 (.cells #[.int .i64 sum, nv', ev] 52 (0, 0)) = h12 at *
    have f10s := f10.size
    have nbn' : ∀ b ∈ bn', h5.size ≤ b ∧ b ≠ q12 ∧ b ∉ be := fun b hb => by
      rcases nb11 b hb with h | h
      · exact I.new.2.1 b h
      · exact ⟨by omega, by omega, fun hb => by have := le b hb; omega⟩
    have F12 : Fr h7 h12 (q12 :: bn) := F11.trans f12 (fun c _ hc => by simp [hc]) (fun c _ hc => by simp at hc; simp [hc])
    have on12 := on'.fr f12 fun b hb hb' => by simp at hb'; exact (nbn' b hb).2.1 hb'
    have oe12 := I.oe.fr F12 fun b hb hb' => by
      simp only [List.mem_cons] at hb'
      rcases hb' with h | h
      · exact (I.new.2.2 b hb).2 h
      · exact (I.new.2.1 b h).2.2 hb
    have lg9 := lt_of_get g9
    have g912 : h12[h7.size]? = some (.cells #[.int .i64 (snth st k).sum, .int .i64 (snth st i).id, .int .i64 a.edge, .bool dn] 93 (0, 0)) := f12.get (f11.get (f10.get g9 (by simp)) fun hb => by have := ln _ hb; omega) (by simp; omega)
    simp only [fldE_ptr, Nat.zero_add, bnd_some, ldS_at gb12, ldS_at g912, List.getElem?_toArray, List.getElem?_cons_succ, List.getElem?_cons_zero, fill_int, nw_eq]
    have f13 := Fr.push h12 (.cells #[.int .i64 a.edge] 2 (0, 0)) []
    have g13 := get_new h12 (.cells #[.int .i64 a.edge] 2 (0, 0))
    generalize h12.push (.cells #[.int .i64 a.edge] 2 (0, 0)) = h13 at *
    refine own_app elem28 (oe12.fr f13 (by simp)) (seg_one g13) (by simp) (by simp [ints]; omega) (by simp [ints]; omega) fun h14 ev' be' oe' f14 nb14 => ?_
    have F14 : Fr h12 h14 be := f13.trans f14 (by simp) (fun c _ hc => hc)
    have gb14 := F14.get gb12 fun hb => (I.new.2.2 _ hb).2 rfl
    have s15 : stE 1 h14 (.pointer (some ⟨q12, 2, none⟩)) ev' = some (h14.setIfInBounds q12 (.cells #[.int .i64 sum, nv', ev'] 52 (0, 0))) := by
      rw [stE_at _ gb14]; simp [splice, oe'.cells, oe'.one]
    have gb15 := get_set (o' := .cells #[.int .i64 sum, nv', ev'] 52 (0, 0)) gb14
    have f15 : Fr h14 (h14.setIfInBounds q12 (.cells #[.int .i64 sum, nv', ev'] 52 (0, 0))) [q12] := Fr.set _ _ _ (fun _ => by simp) (by rw [gb14]; rfl)
    simp only [s15, bnd_some]
    generalize h14.setIfInBounds q12 (.cells #[.int .i64 sum, nv', ev'] 52 (0, 0)) = h15 at *
    have f11s := f11.size
    have f12s := f12.size
    have f13s := f13.size
    have nbe' : ∀ b ∈ be', h5.size ≤ b ∧ b ≠ q12 ∧ b ∉ bn' := fun b hb => by
      rcases nb14 b hb with h | h
      · exact ⟨(I.new.2.2 b h).1, (I.new.2.2 b h).2, fun hb => (nbn' b hb).2.2 h⟩
      · have ln' := on12.lt
        exact ⟨by omega, by omega, fun hb => by have := ln' b hb; omega⟩
    have g915 : h15[h7.size]? = some (.cells #[.int .i64 (snth st k).sum, .int .i64 (snth st i).id, .int .i64 a.edge, .bool dn] 93 (0, 0)) := f15.get (F14.get g912 fun hb => by have := le _ hb; omega) (by simp; omega)
    have F15 : Fr h5 h15 [] := by
      refine ((I.fr.trans F12 (S := []) (by simp) fun c hc hm => ?_).trans F14 (S := []) (by simp) fun c hc hm => ?_).trans f15 (by simp) fun c hc hm => ?_
      · simp only [List.mem_cons] at hm
        rcases hm with h | h
        · have := I.new.1; omega
        · have := (I.new.2.1 c h).1; omega
      · have := (I.new.2.2 c hm).1; omega
      · simp at hm; have := I.new.1; omega
    have srd : ∀ b ∈ SB p pm pn bl bo, b ≠ q12 ∧ b ∉ bn ∧ b ∉ be := fun b hb => by
      have h1 := hSB b hb
      exact ⟨by have := I.new.1; omega, fun h => by have := (I.new.2.1 b h).1; omega, fun h => by have := (I.new.2.2 b h).1; omega⟩
    have sr15 : SrAt h15 p pm pn fv S.hops M its ck bl (ids st) bo := ((I.sr.fr F12 fun b hb hb' => by
      simp only [List.mem_cons] at hb'
      rcases hb' with h | h
      · exact (srd b hb).1 h
      · exact (srd b hb).2.1 h).fr F14 fun b hb => (srd b hb).2.2).fr f15 fun b hb hb' => by simp at hb'; exact (srd b hb).1 hb'
    simp only [fldE_ptr, Nat.zero_add, bnd_some, ldS_at g915, List.getElem?_toArray, List.getElem?_cons_succ, List.getElem?_cons_zero]
    have hw := wayF_some hpre
    have hn := I.n
    have he := I.e
    rw [hw] at hn he
    have mu : ∀ (hh : Hp) (u w : Value) (l : List Int) (b' : List Nat), hh[q12]? = some (.cells #[.int .i64 sum, u, w] 52 (0, 0)) → OwnS hh 2 1 u (ints l) b' → ilen hh q12 = l.length := fun hh u w l b' hb ho => by
      rcases ho with ⟨rfl, hx, _⟩ | ⟨b, cap, rfl, _, _⟩
      · simp [ints] at hx; subst hx; simp [ilen, hb]
      · simp [ilen, hb, ints]
    have on15 := (on12.fr F14 fun b hb hb' => (nbn' b hb).2.2 hb').fr f15 fun b hb hb' => by simp at hb'; exact (nbn' b hb).2.1 hb'
    have on15' : OwnS h15 2 1 nv' (ints (((snth st k).id :: X).reverse ++ [(snth st i).id])) bn' := by simpa [ints] using on15
    refine ⟨⟨i, (snth st k).id :: X, E ++ [a.edge], nv', ev', bn', be', rfl, ⟨F15, sr15, gb15, on15', by simpa [ints] using oe'.fr f15 fun b hb hb' => by simp at hb'; exact (nbe' b hb).2.1 hb', ⟨I.new.1, fun b hb => ⟨(nbn' b hb).1, (nbn' b hb).2.1, fun hb' => (nbe' b hb').2.2 hb⟩, fun b hb => ⟨(nbe' b hb).1, (nbe' b hb).2.1⟩⟩, by rw [← hn]; simp, by rw [← he]; simp, ⟨by omega, by simp; omega, by simp; omega⟩⟩⟩, ?_⟩
    have m1 := mu h15 _ _ _ _ gb15 on15'
    have m0 := mu h7 _ _ _ _ I.box I.on
    simp only [muL, m1, m0]
    simp
    omega

theorem wayF_single {S : Sr} {st : List Seen} {k : Nat} : (wayF S st k).1 ++ [] = (wayF S st k).1 ∧ (wayF S st k).2 ++ ([] : List Int).reverse = (wayF S st k).2 := by simp

section
variable {h0 h : Hp} {of : Int → List Arc × Int} {Sh : List Int → List Nat → Hp → Prop} {a0 : List Int} {B0 : List Nat} {fv : Value}
set_option maxHeartbeats 2000000 in
theorem least_spec (A : ArcsOk h0 fv of Sh) (hs : Sh a0 B0 h) (ha : a0.length ≤ 34359738368) (start to : Int) {R : Value → Hp → Prop}
    (hR : ∀ h' B' nv ev bn be, Sh (a0 ++ (searchF (srLeast of to) start).asked) B' h' → Fr h h' B0 → (∀ b ∈ B', b ∈ B0 ∨ h.size ≤ b) → OwnS h' 2 1 nv (ints (wayW (srLeast of to) start).1) bn → OwnS h' 2 1 ev (ints (wayW (srLeast of to) start).2) be →
      (∀ b ∈ bn, h.size ≤ b ∧ b ∉ B' ∧ b ∉ be) → (∀ b ∈ be, h.size ≤ b ∧ b ∉ B') → R (.tuple #[.agg #[.int .i64 (waySum (srLeast of to) start), nv, ev], .bool (searchF (srLeast of to) start).hit, .int .i64 (searchF (srLeast of to) start).code]) h') : CallsH Tryd.prog 28 #[fv, .int .i64 start, .int .i64 to] h R := by
  have ltB := A.lt hs
  refine f28.ok ?_
  unfold f28.T
  simp only [nw_eq, cells_int, ptr0_eq, A.nil, bnd_some, condT_bool, Bool.false_eq_true, if_false]
  have f1 := Fr.push h (.cells #[.int .i64 to] 2 (0, 0)) []
  have g1 := get_new h (.cells #[.int .i64 to] 2 (0, 0))
  have z1 : (h.push (.cells #[.int .i64 to] 2 (0, 0))).size = h.size + 1 := by simp
  generalize h.push (.cells #[.int .i64 to] 2 (0, 0)) = h1 at *
  have f2 := Fr.push h1 (.cells #[.int .i64 0, .slice none 0 0, .slice none 0 0] 52 (0, 0)) []
  have g2 := get_new h1 (.cells #[.int .i64 0, .slice none 0 0, .slice none 0 0] 52 (0, 0))
  have z2 : (h1.push (.cells #[.int .i64 0, .slice none 0 0, .slice none 0 0] 52 (0, 0))).size = h.size + 2 := by simp [z1]
  rw [z1] at g2 ⊢
  generalize h1.push (.cells #[.int .i64 0, .slice none 0 0, .slice none 0 0] 52 (0, 0)) = h2 at *
  refine news_spec A.cells false fun h3 p pm pn H3 f3 hn => ?_
  have F3 : Fr h h3 [] := (f1.then f2).then f3
  have hs3 := A.fr hs F3 (by simp)
  have g13 := (f2.then f3).get g1 (by simp)
  have g23 := f3.get g2 (by simp)
  have f3s := f3.size
  have hn1 := hn p (by simp [SB])
  have hn2 := hn pm (by simp [SB])
  have hn3 := hn pn (by simp [SB])
  have hB0 : ∀ b ∈ B0, b < h.size := fun b hb => (ltB.2 b hb).2
  refine run_spec (S := srLeast of to) (L := [(h.size, .cells #[.int .i64 to] 2 (0, 0))]) A hs3 H3 (fun b hb => ?_) ha over_to55 always_ok (by simpa [Has] using g13) ?_ fun h5 B' RE => ?_
  · have := hn b hb
    exact ⟨by have := ltB.1; omega, fun hb' => by have := hB0 b hb'; omega⟩
  · intro x hx hb
    obtain rfl := List.mem_singleton.1 hx
    simp only [List.mem_cons] at hb
    rcases hb with h | h | h | h
    · omega
    · omega
    · omega
    · have := hB0 _ h; omega
  · have nB : ∀ n, h.size ≤ n → n < h2.size → n ∉ p :: pm :: pn :: B0 := fun n hn1' hn2' hb => by
      simp only [List.mem_cons] at hb
      rcases hb with h | h | h | h
      · omega
      · omega
      · omega
      · have := hB0 _ h; omega
    have F5 : Fr h h5 B0 := F3.trans RE.fr (by simp) fun c hc hm => by
      simp only [List.mem_cons] at hm
      rcases hm with h | h | h | h
      · omega
      · omega
      · omega
      · exact h
    have hB' : ∀ b ∈ B', b ∈ B0 ∨ h.size ≤ b := fun b hb => (RE.newB b hb).imp_right fun h => by omega
    have g15 := RE.fr.get g13 (nB _ (by omega) (by omega))
    have g25 := RE.fr.get g23 (nB _ (by omega) (by omega))
    have ltB' := (A.lt RE.sh).2
    have F5s := F5.size
    have REs := RE.fr.size
    have nB' : ∀ n, h.size ≤ n → n < h2.size → n ∉ B' := fun n h1' h2' hb => by
      rcases RE.newB n hb with h | h
      · have := hB0 n h; omega
      · omega
    simp only [extE_tuple, List.getElem?_toArray, List.getElem?_cons_succ, List.getElem?_cons_zero, bnd_some, bin_neq]
    cases hh : (searchF (srLeast of to) start).hit
    · -- no way
      have hW : wayW (srLeast of to) start = ([], []) := by simp [wayW, hh]
      have hS : waySum (srLeast of to) start = 0 := by simp [waySum, hh]
      rw [hW, hS, hh] at hR
      have s6 : stE 3 h5 (.pointer (some ⟨h.size + 1, 0, none⟩)) (.agg #[.int .i64 0, .slice none 0 0, .slice none 0 0]) = some (h5.setIfInBounds (h.size + 1) (.cells #[.int .i64 0, .slice none 0 0, .slice none 0 0] 52 (0, 0))) := by
        rw [stE_at _ g25]; simp [splice]
      have g6 := get_set (o' := .cells #[.int .i64 0, .slice none 0 0, .slice none 0 0] 52 (0, 0)) g25
      have f6 : Fr h5 (h5.setIfInBounds (h.size + 1) (.cells #[.int .i64 0, .slice none 0 0, .slice none 0 0] 52 (0, 0))) [h.size + 1] := Fr.set _ _ _ (fun _ => by simp) (by rw [g25])
      have body : bnd ((fillS [(0, 1), (1, 1), (2, 1)] #[(.int .i64 0), (.slice none 0 0), (.slice none 0 0)] []).map Value.agg) fun t33 =>
          bnd (stE 3 h5 (.pointer (some ⟨h.size + 1, 0, none⟩)) t33) fun h_6 =>
          bnd (ldA 3 h_6 (.pointer (some ⟨h.size + 1, 0, none⟩))) fun r6_1 =>
          R (.tuple #[r6_1, (.bool false), .int .i64 (searchF (srLeast of to) start).code]) h_6 := by
        simp only [fill_way0, bnd_some, s6]
        generalize h5.setIfInBounds (h.size + 1) (.cells #[.int .i64 0, .slice none 0 0, .slice none 0 0] 52 (0, 0)) = h6 at *
        have l6 : ldA 3 h6 (.pointer (some ⟨h.size + 1, 0, none⟩)) = some (.agg #[.int .i64 0, .slice none 0 0, .slice none 0 0]) := by rw [ldA_at g6]; simp
        simp only [l6, bnd_some]
        exact hR h6 B' _ _ [] [] (A.fr RE.sh f6 fun b hb => by simp at hb; subst hb; exact ⟨by have := ltB.1; omega, nB' _ (by omega) (by omega)⟩) (F5.trans f6 (fun _ _ h => h) fun c hc hm => by rw [List.mem_singleton] at hm; omega) hB' (OwnS.nil _ _ _) (OwnS.nil _ _ _) (by simp) (by simp)
      by_cases hc : (searchF (srLeast of to) start).code = 0
      · have hd : decide ((searchF (srLeast of to) start).code ≠ 0) = false := by simp [hc]
        simp only [hd, isB_bool, beq_self_eq_true, cond_true, unE_not, Bool.not_false, asB_bool, Option.map_some, cond_false, bnd_some, condT_bool, if_true]
        exact body
      · have hd : decide ((searchF (srLeast of to) start).code ≠ 0) = true := by simp [hc]
        simp only [hd, isB_bool, show (true == false) = false from rfl, cond_false, asB_bool, Option.map_some, cond_true, bnd_some, condT_bool, if_true]
        exact body
    · obtain ⟨hc, st0, last, hst, hov⟩ := search_hit (srLeast of to) start hh
      obtain ⟨nr, its, M, ck, bl, bo, log, SR, sim, dis, newS, hlog, _⟩ := RE.good hc
      rw [hh] at hlog
      simp only [if_true] at hlog
      have hend : endL (searchF (srLeast of to) start) = (searchF (srLeast of to) start).settled.dropLast := by simp [endL, hh]
      have W := way_ok (srLeast of to) (fun _ => rfl) start hh sim (by rw [hend]; exact hlog)
      have hln := search_len (srLeast of to) start
      have hW : wayW (srLeast of to) start = wayF (srLeast of to) (searchF (srLeast of to) start).settled ((searchF (srLeast of to) start).settled.length - 1) := by simp [wayW, hh]
      have hS : waySum (srLeast of to) start = last.sum := by simp [waySum, hh, lastSum, hst]
      have hid : last.id = to := by simpa [srLeast] using hov
      rw [hW, hS, hh, hc] at hR
      have hk1 : (searchF (srLeast of to) start).settled.length - 1 = st0.length := by rw [hst]; simp
      have hlast : snth (searchF (srLeast of to) start).settled ((searchF (srLeast of to) start).settled.length - 1) = last := by rw [hk1, hst, snth_get (by simp)]; simp
      have hkl : (searchF (srLeast of to) start).settled.length - 1 < (searchF (srLeast of to) start).settled.length := by rw [hst]; simp
      obtain ⟨f_, ed, hg⟩ := sim.fin last (by rw [hst]; simp)
      rw [hid] at hg
      have hSl : (srLeast of to).hops = false := rfl
      obtain ⟨ov, e, o⟩ := SR.top
      have srl := SR.lt
      have hd : decide ((0 : Int) ≠ 0) = false := by simp
      -- once the way's own struct stands
      have J1 : ∀ (hj : Hp) (q12 b43 : Nat), Fr h5 hj [] → hj[q12]? = some (.cells #[.int .i64 last.sum, .slice (some ⟨b43, 0, none⟩) 1 1, .slice none 0 0] 52 (0, 0)) → hj[b43]? = some (.cells #[.int .i64 to] 2 (0, 0)) → h5.size ≤ q12 → h5.size ≤ b43 → b43 ≠ q12 →
          f28.J1 hj (.pointer (some ⟨h.size, 0, none⟩)) (.int .i64 start) (.pointer (some ⟨p, 0, none⟩)) (.pointer (some ⟨q12, 0, none⟩)) (.pointer (some ⟨h.size + 1, 0, none⟩)) R := by
        intro hj q12 b43 fj gq gb hq hb hne
        have g1j := fj.get g15 (by simp)
        unfold f28.J1
        simp only [ldS_at g1j, List.getElem?_toArray, List.getElem?_cons_zero, bnd_some]
        have on : OwnS hj 2 1 (.slice (some ⟨b43, 0, none⟩) 1 1) (ints [to]) [b43] := .inr ⟨b43, 1, by simp [ints], ⟨_, gb, by simp, by simp [ints], by simp [ints], by simp [ints], by simp [ints]⟩, rfl⟩
        refine least_L1 W hln (k0 := (searchF (srLeast of to) start).settled.length - 1) (q6 := h.size + 1) ⟨fj, SR.fr fj (by simp), gq, by rw [hlast, hid]; simpa using on, OwnS.nil _ _ _, ⟨hq, by simp [hne, hb], by simp⟩, by simp, by simp, ⟨hkl, by simp, rfl⟩⟩ (by rw [hlast, hid]) g25 srl fun h' nv ev bn be f' on' oe' nn ne => ?_
        refine hR h' B' nv ev bn be (A.fr RE.sh f' fun b hb => by simp at hb; subst hb; exact ⟨by have := ltB.1; omega, nB' _ (by omega) (by omega)⟩) (F5.trans f' (fun _ _ h => h) fun c hc hm => by rw [List.mem_singleton] at hm; omega) hB' on' oe' (fun b hb => ?_) fun b hb => ?_
        · have h1 := nn b hb
          exact ⟨by omega, fun hb' => by have := (ltB' b hb').2; omega, h1.2⟩
        · have h1 := ne b hb
          exact ⟨by omega, fun hb' => by have := (ltB' b hb').2; omega⟩
      simp only [hc, hd, isB_bool, beq_self_eq_true, cond_true, unE_not, Bool.not_true, asB_bool, Option.map_some, cond_false, bnd_some, condT_bool, Bool.false_eq_true, if_false, nilE_ptr, fldE_ptr, Nat.zero_add, ldS_at e, ldS_at g15, List.getElem?_toArray, List.getElem?_cons_succ, List.getElem?_cons_zero, fill_int, nw_eq, ptr0_eq]
      have lk : ∀ (hx : Hp), Fr h5 hx [] → ∀ K : Value → Prop, K (.int .i64 last.sum) → rdS Tryd.prog (Instr.lookup 94 (.map (some pm)) (.int .i64 to) false) hx fun t40 => bnd (fieldE none 0 t40) K := fun hx fx K hK => by
        refine (SR.fr fx (by simp)).look (ok := false) ?_
        simpa [hg, Mark.val] using hK
      have fl := Fr.push h5 (.cells #[.int .i64 to] 2 (0, 0)) []
      have gl := get_new h5 (.cells #[.int .i64 to] 2 (0, 0))
      have zl : (h5.push (.cells #[.int .i64 to] 2 (0, 0))).size = h5.size + 1 := by simp
      have fz := Fr.push h5 (.cells #[.int .i64 0, .slice none 0 0, .slice none 0 0] 52 (0, 0)) []
      have gz := get_new h5 (.cells #[.int .i64 0, .slice none 0 0, .slice none 0 0] 52 (0, 0))
      have zz : (h5.push (.cells #[.int .i64 0, .slice none 0 0, .slice none 0 0] 52 (0, 0))).size = h5.size + 1 := by simp
      generalize h5.push (.cells #[.int .i64 to] 2 (0, 0)) = hA at *
      generalize h5.push (.cells #[.int .i64 0, .slice none 0 0, .slice none 0 0] 52 (0, 0)) = hZ at *
      obtain ⟨fA, gA⟩ := box_fr hA (.cells #[.int .i64 0, .slice none 0 0, .slice none 0 0] 52 (0, 0)) (.cells #[.int .i64 last.sum, .slice (some ⟨h5.size, 0, none⟩) 1 1, .slice none 0 0] 52 (0, 0)) rfl rfl
      have keyA := J1 _ hA.size h5.size (fl.then fA) gA (fA.get gl (by simp)) (by omega) (Nat.le_refl _) (by omega)
      have fAp := Fr.push hA (.cells #[.int .i64 0, .slice none 0 0, .slice none 0 0] 52 (0, 0)) []
      have sB : stE 3 (hZ.push (.cells #[.int .i64 to] 2 (0, 0))) (.pointer (some ⟨h5.size, 0, none⟩)) (.agg #[.int .i64 last.sum, .slice (some ⟨hZ.size, 0, none⟩) 1 1, .slice none 0 0]) = some ((hZ.push (.cells #[.int .i64 to] 2 (0, 0))).setIfInBounds h5.size (.cells #[.int .i64 last.sum, .slice (some ⟨hZ.size, 0, none⟩) 1 1, .slice none 0 0] 52 (0, 0))) := by
        rw [stE_at _ (get_push gz)]; simp [splice]
      have fBp := Fr.push hZ (.cells #[.int .i64 to] 2 (0, 0)) []
      have gBs := get_set (o' := .cells #[.int .i64 last.sum, .slice (some ⟨hZ.size, 0, none⟩) 1 1, .slice none 0 0] 52 (0, 0)) (get_push (o' := .cells #[.int .i64 to] 2 (0, 0)) gz)
      have keyB := J1 _ h5.size hZ.size ((fz.then fBp).set_new (Nat.le_refl h5.size) (.cells #[.int .i64 last.sum, .slice (some ⟨hZ.size, 0, none⟩) 1 1, .slice none 0 0] 52 (0, 0))) gBs (get_set_ne (get_new hZ _) (by omega)) (Nat.le_refl _) (by omega) (by omega)
      refine ⟨lk h5 (Fr.refl _ _) _ ?_, lk hA fl _ ?_, lk _ (fl.then fAp) _ ?_, ?_, lk hZ fz _ ?_, lk _ (fz.then fBp) _ ?_⟩
      · simp only [fill_way1, bnd_some, new_box52 hA (show (Value.slice (some ⟨h5.size, 0, none⟩) 1 1).oneCell' = true from rfl) (show (Value.slice none 0 0).oneCell' = true from rfl)]
        exact keyA
      · simp only [fill_way1, bnd_some, new_box52 hA (show (Value.slice (some ⟨h5.size, 0, none⟩) 1 1).oneCell' = true from rfl) (show (Value.slice none 0 0).oneCell' = true from rfl)]
        exact keyA
      · simp only [fill_way1, bnd_some, new_box52 hA (show (Value.slice (some ⟨h5.size, 0, none⟩) 1 1).oneCell' = true from rfl) (show (Value.slice none 0 0).oneCell' = true from rfl)]
        exact keyA
      · refine lk h5 (Fr.refl _ _) _ ?_
        simp only [fill_way1, bnd_some, sB]
        exact keyB
      · simp only [fill_way1, bnd_some, sB]
        exact keyB
      · simp only [fill_way1, bnd_some, sB]
        exact keyB
end
end Go.Proofs.YtkiakofohkecaaaDoor

/- The reference's Least. No condition but that the memory is as told. -/
namespace Go.Proofs.YtkiakofohkecaaaDoor
open Go Go.Fw

theorem fill_want3 (t : Int) : (fillS [(0, 1), (1, 1), (2, 1), (3, 1)] #[(.bool false), (.int .i64 0), (.int .i64 0), (.bool false)] [(0, (.bool true)), (1, .int .i64 t), (2, (.int .i64 (-1)))]).map Value.agg = some (.agg #[.bool true, .int .i64 t, .int .i64 (-1), .bool false]) := by kernel_rfl
theorem srW_least (of : Int → List Arc × Int) (to : Int) : srW of ⟨true, to, -1, false⟩ = srLeast of to := by simp [srW, srLeast]
theorem row_one {h : Hp} {b : Nat} {x : Int} (e : h[b]? = some (.cells #[.int .i64 x] 2 (0, 0))) : RowAt h 2 1 b 1 (ints [x]) := ⟨_, e, by simp, by simp [ints], by simp [ints], by simp [ints], by simp [ints]⟩

/-- A list with one more in front, in new memory. -/
theorem front_app {h : Hp} {x : Int} {nv : Value} {N : List Int} (rn : RowV h 1 nv (ints N)) (hN : N.length ≤ 1048576) {K : Value → Hp → Prop} (hK : ∀ h' b cap, RowAt h' 2 1 b cap (ints (x :: N)) → Fr h h' [] → h.size ≤ b → K (.slice (some ⟨b, 0, none⟩) (ints (x :: N)).length cap) h') :
    efS Tryd.prog (Go.Builtin.append_ #[28, 28] 28 #[.slice (some ⟨h.size, 0, none⟩) 1 1, nv]) (h.push (.cells #[.int .i64 x] 2 (0, 0))) K := by
  have f1 := Fr.push h (.cells #[.int .i64 x] 2 (0, 0)) []
  have g1 := get_new h (.cells #[.int .i64 x] 2 (0, 0))
  generalize h.push (.cells #[.int .i64 x] 2 (0, 0)) = h1 at *
  have r1 := row_one g1
  have f1s := f1.size
  have e : (ints [x]).length = 1 := by simp [ints]
  have ap := fun (K : Value → Hp → Prop) k' => append_v (P := Tryd.prog) (ty := 28) elem28 r1 (rn.fr f1) (by simp [ints]) (by simp [ints]; omega) (by simp [ints]; omega) (K := K) k'
  rw [e] at ap
  refine ap K fun h' b cap r f hb => ?_
  have e2 : ints [x] ++ ints N = ints (x :: N) := by simp [ints]
  rw [e2] at r ⊢
  refine hK h' b cap r (f1.trans f (by simp) fun c hc hm => by simp at hm; omega) ?_
  rcases hb with h | h
  · have := Option.some.inj h; omega
  · omega

structure RlI (h5 : Hp) (S : Sr) (st : List Seen) (q12 : Nat) (sum : Int) (fin : List Int × List Int) (k : Nat) (X E : List Int) (nv ev : Value) (bn be : List Nat) (h : Hp) : Prop where
  fr : Fr h5 h []
  box : h[q12]? = some (.cells #[.int .i64 sum, nv, ev] 52 (0, 0))
  on : OwnS h 2 1 nv (ints ((snth st k).id :: X)) bn
  oe : OwnS h 2 1 ev (ints E) be
  new : h5.size ≤ q12 ∧ (∀ b ∈ bn, h5.size ≤ b ∧ b ≠ q12) ∧ ∀ b ∈ be, h5.size ≤ b ∧ b ≠ q12
  n : (wayF S st k).1 ++ X = fin.1
  e : (wayF S st k).2 ++ E = fin.2
  k : k < st.length ∧ X.length + k ≤ st.length ∧ E.length = X.length
def RlInv (h5 : Hp) (S : Sr) (st : List Seen) (q12 : Nat) (sum : Int) (fin : List Int × List Int) (vs : List Value) (h : Hp) : Prop := ∃ k X E nv ev bn be, vs = [.int .i64 ((k : Nat) : Int)] ∧ RlI h5 S st q12 sum fin k X E nv ev bn be h
def muK (vs : List Value) (_ : Hp) : Nat := match vs with | [.int _ k] => k.toNat | _ => 0

set_option maxHeartbeats 2000000 in
theorem rleast_spec {h : Hp} {v : Value} {rows : List NRow} {tail : Bool} (net : NetOk h v rows) (start to : Int) {R : Value → Hp → Prop}
    (hR : ∀ h' nv ev av bn be ba, OwnS h' 2 1 nv (ints (wayW (srLeast (ofL rows tail) to) start).1) bn → OwnS h' 2 1 ev (ints (wayW (srLeast (ofL rows tail) to) start).2) be → OwnS h' 2 1 av (ints (searchF (srLeast (ofL rows tail) to) start).asked) ba → Fr h h' [] → (∀ b ∈ bn, h.size ≤ b) → (∀ b ∈ be, h.size ≤ b) → (∀ b ∈ ba, h.size ≤ b) →
      R (.tuple #[.agg #[.int .i64 (waySum (srLeast (ofL rows tail) to) start), nv, ev], .bool (searchF (srLeast (ofL rows tail) to) start).hit, .int .i64 (searchF (srLeast (ofL rows tail) to) start).code, av]) h') :
    CallsH Tryd.prog 29 #[.agg #[v, .bool tail], .int .i64 start, .int .i64 to] h R := by
  refine f29.ok ?_
  unfold f29.T
  simp only [nw_eq, cells_agg, ptr0_eq]
  have f1 := Fr.push h (.cells #[v, .bool tail] 26 (0, 0)) []
  have g1 := get_new h (.cells #[v, .bool tail] 26 (0, 0))
  generalize h.push (.cells #[v, .bool tail] 26 (0, 0)) = h1 at *
  have f2 := Fr.push h1 (.cells #[.int .i64 0, .slice none 0 0, .slice none 0 0] 52 (0, 0)) []
  have g2 := get_new h1 (.cells #[.int .i64 0, .slice none 0 0, .slice none 0 0] 52 (0, 0))
  generalize h1.push (.cells #[.int .i64 0, .slice none 0 0, .slice none 0 0] 52 (0, 0)) = h2 at *
  have g12 := f2.get g1 (by simp)
  have l2 : ∀ h', Fr h2 h' [] → ldA 2 h' (.pointer (some ⟨h.size, 0, none⟩)) = some (.agg #[v, .bool tail]) := fun h' f => by rw [ldA_at (f.get g12 (by simp))]; simp
  simp only [l2 h2 (Fr.refl _ _), bnd_some, fill_want3]
  have F2 := f1.then f2
  have f1s := f1.size
  have F2s := F2.size
  refine search_spec (net.fr F2) ⟨true, to, -1, false⟩ start fun h3 sv av bs ba L3 f3 => ?_
  rw [srW_least] at L3 ⊢
  simp only [nw_eq, ptr0_eq, new_box100 h3 L3.os.one L3.oa.one, bnd_some]
  obtain ⟨f5, g5⟩ := box_fr h3 (.cells #[.slice none 0 0, .slice none 0 0, .int .i64 0, .bool false] 100 (0, 0)) (.cells #[sv, av, .int .i64 (searchF (srLeast (ofL rows tail) to) start).code, .bool (searchF (srLeast (ofL rows tail) to) start).hit] 100 (0, 0)) rfl rfl
  generalize (h3.push (.cells #[.slice none 0 0, .slice none 0 0, .int .i64 0, .bool false] 100 (0, 0))).setIfInBounds h3.size (.cells #[sv, av, .int .i64 (searchF (srLeast (ofL rows tail) to) start).code, .bool (searchF (srLeast (ofL rows tail) to) start).hit] 100 (0, 0)) = h5 at *
  have L5 := L3.fr' f5 (by simp)
  have F25 := f3.then f5
  have F5 := F2.then F25
  have g65 := F25.get g2 (by simp)
  have f3s := f3.size
  have f5s := f5.size
  have l65 := lt_of_get g65
  have l105 := lt_of_get g5
  have hba : ∀ b ∈ ba, h.size ≤ b := fun b hb => by have := L3.new.2.1 b hb; omega
  have n65 : h1.size ≠ h3.size := by have := lt_of_get g2; omega
  have naq : ∀ b ∈ ba, b ≠ h1.size := fun b hb => by have := L3.new.2.1 b hb; have := lt_of_get g2; omega
  -- the answer is written
  have wr : ∀ (hx : Hp) (s : Int) (nv ev : Value) (K : Value → Hp → Prop), Fr h5 hx [] → nv.oneCell' = true → ev.oneCell' = true →
      K (.agg #[.int .i64 s, nv, ev]) (hx.setIfInBounds h1.size (.cells #[.int .i64 s, nv, ev] 52 (0, 0))) → bnd (stE 3 hx (.pointer (some ⟨h1.size, 0, none⟩)) (.agg #[.int .i64 s, nv, ev])) fun h_13 => bnd (ldA 3 h_13 (.pointer (some ⟨h1.size, 0, none⟩))) fun r => K r h_13 := by
    intro hx s nv ev K fx hn he hK
    have g := fx.get g65 (by simp)
    have sE : stE 3 hx (.pointer (some ⟨h1.size, 0, none⟩)) (.agg #[.int .i64 s, nv, ev]) = some (hx.setIfInBounds h1.size (.cells #[.int .i64 s, nv, ev] 52 (0, 0))) := by
      rw [stE_at _ g]; simp [splice, hn, he]
    have g' := get_set (o' := .cells #[.int .i64 s, nv, ev] 52 (0, 0)) g
    have l : ldA 3 (hx.setIfInBounds h1.size (.cells #[.int .i64 s, nv, ev] 52 (0, 0))) (.pointer (some ⟨h1.size, 0, none⟩)) = some (.agg #[.int .i64 s, nv, ev]) := by rw [ldA_at g']; simp
    simp only [sE, bnd_some, l]
    exact hK
  have wfr : ∀ (hx : Hp) (s : Int) (nv ev : Value), Fr h5 hx [] → Fr h (hx.setIfInBounds h1.size (.cells #[.int .i64 s, nv, ev] 52 (0, 0))) [] ∧ Fr hx (hx.setIfInBounds h1.size (.cells #[.int .i64 s, nv, ev] 52 (0, 0))) [h1.size] := fun hx s nv ev fx =>
    ⟨(F5.then fx).set_new (by omega) _, Fr.set _ _ _ (fun _ => by simp) (by rw [fx.get g65 (by simp)]; rfl)⟩
  have oa5 := L5.oa
  have hln := search_len (srLeast (ofL rows tail) to) start
  have os5 := L5.os
  have hgo := fun hh => search_hit (srLeast (ofL rows tail) to) start hh
  cases hh : (searchF (srLeast (ofL rows tail) to) start).hit
  · have hW : wayW (srLeast (ofL rows tail) to) start = ([], []) := by simp [wayW, hh]
    have hS : waySum (srLeast (ofL rows tail) to) start = 0 := by simp [waySum, hh]
    rw [hW, hS, hh] at hR
    rw [hh] at g5
    generalize searchF (srLeast (ofL rows tail) to) start = fd at *
    obtain ⟨wf1, wf2⟩ := wfr h5 0 (.slice none 0 0) (.slice none 0 0) (Fr.refl _ _)
    have g56 := wf2.get g5 (by simp; exact n65.symm)
    have last := hR _ _ _ av [] [] ba (OwnS.nil _ _ _) (OwnS.nil _ _ _) (oa5.fr wf2 fun b hb hb' => by rw [List.mem_singleton] at hb'; exact naq b hb hb') wf1 (by simp) (by simp) hba
    have fin : (bnd (fldE 2 (.pointer (some ⟨h3.size, 0, none⟩))) fun t29 => bnd (ldS h5 t29) fun t30 => bnd (fldE 1 (.pointer (some ⟨h3.size, 0, none⟩))) fun t31 => bnd (ldS h5 t31) fun t32 => bnd (stE 3 h5 (.pointer (some ⟨h1.size, 0, none⟩)) (.agg #[.int .i64 0, .slice none 0 0, .slice none 0 0])) fun h_6 => bnd (ldA 3 h_6 (.pointer (some ⟨h1.size, 0, none⟩))) fun r6 => R (.tuple #[r6, (.bool false), t30, t32]) h_6) ∧
        (bnd (fldE 2 (.pointer (some ⟨h3.size, 0, none⟩))) fun t29_1 => bnd (fldE 1 (.pointer (some ⟨h3.size, 0, none⟩))) fun t31_1 => bnd (ldS h5 t31_1) fun t32_1 => bnd (stE 3 h5 (.pointer (some ⟨h1.size, 0, none⟩)) (.agg #[.int .i64 0, .slice none 0 0, .slice none 0 0])) fun h_7 => bnd (ldS h_7 t29_1) fun t30_1 => bnd (ldA 3 h_7 (.pointer (some ⟨h1.size, 0, none⟩))) fun r6_1 => R (.tuple #[r6_1, (.bool false), t30_1, t32_1]) h_7) ∧
        (bnd (fldE 2 (.pointer (some ⟨h3.size, 0, none⟩))) fun t29_2 => bnd (ldS h5 t29_2) fun t30_2 => bnd (fldE 1 (.pointer (some ⟨h3.size, 0, none⟩))) fun t31_2 => bnd (stE 3 h5 (.pointer (some ⟨h1.size, 0, none⟩)) (.agg #[.int .i64 0, .slice none 0 0, .slice none 0 0])) fun h_8 => bnd (ldS h_8 t31_2) fun t32_2 => bnd (ldA 3 h_8 (.pointer (some ⟨h1.size, 0, none⟩))) fun r6_2 => R (.tuple #[r6_2, (.bool false), t30_2, t32_2]) h_8) ∧
        (bnd (fldE 2 (.pointer (some ⟨h3.size, 0, none⟩))) fun t29_3 => bnd (fldE 1 (.pointer (some ⟨h3.size, 0, none⟩))) fun t31_3 => bnd (stE 3 h5 (.pointer (some ⟨h1.size, 0, none⟩)) (.agg #[.int .i64 0, .slice none 0 0, .slice none 0 0])) fun h_9 => bnd (ldS h_9 t29_3) fun t30_3 => bnd (ldS h_9 t31_3) fun t32_3 => bnd (ldA 3 h_9 (.pointer (some ⟨h1.size, 0, none⟩))) fun r6_3 => R (.tuple #[r6_3, (.bool false), t30_3, t32_3]) h_9) := by
      have sE : stE 3 h5 (.pointer (some ⟨h1.size, 0, none⟩)) (.agg #[.int .i64 0, .slice none 0 0, .slice none 0 0]) = some (h5.setIfInBounds h1.size (.cells #[.int .i64 0, .slice none 0 0, .slice none 0 0] 52 (0, 0))) := by
        rw [stE_at _ g65]; simp [splice]
      have g' := get_set (o' := .cells #[.int .i64 0, .slice none 0 0, .slice none 0 0] 52 (0, 0)) g65
      have l : ldA 3 (h5.setIfInBounds h1.size (.cells #[.int .i64 0, .slice none 0 0, .slice none 0 0] 52 (0, 0))) (.pointer (some ⟨h1.size, 0, none⟩)) = some (.agg #[.int .i64 0, .slice none 0 0, .slice none 0 0]) := by rw [ldA_at g']; simp
      simp only [fldE_ptr, Nat.zero_add, bnd_some, sE, ldS_at g5, List.getElem?_toArray, List.getElem?_cons_succ, List.getElem?_cons_zero]
      generalize h5.setIfInBounds h1.size (.cells #[.int .i64 0, .slice none 0 0, .slice none 0 0] 52 (0, 0)) = h6 at *
      simp only [ldS_at g56, l, List.getElem?_toArray, List.getElem?_cons_succ, List.getElem?_cons_zero, bnd_some]
      exact ⟨last, last, last, last⟩
    simp only [fldE_ptr, Nat.zero_add, ldS_at g5, List.getElem?_toArray, List.getElem?_cons_succ, List.getElem?_cons_zero, bnd_some, bin_neq, fill_way0] at fin ⊢
    by_cases hc : fd.code = 0
    · have hd : decide (fd.code ≠ 0) = false := by simp [hc]
      simp only [hd, isB_bool, beq_self_eq_true, cond_true, bnd_some, ldS_at g5, List.getElem?_toArray, List.getElem?_cons_succ, List.getElem?_cons_zero, unE_not, Bool.not_false, asB_bool, Option.map_some, cond_false, condT_bool, if_true]
      exact fin
    · have hd : decide (fd.code ≠ 0) = true := by simp [hc]
      simp only [hd, isB_bool, show (true == false) = false from rfl, cond_false, bnd_some, asB_bool, Option.map_some, cond_true, condT_bool, if_true]
      exact fin
  · obtain ⟨hc, st0, last, hst, hov⟩ := hgo hh
    have hW : wayW (srLeast (ofL rows tail) to) start = wayF (srLeast (ofL rows tail) to) (searchF (srLeast (ofL rows tail) to) start).settled ((searchF (srLeast (ofL rows tail) to) start).settled.length - 1) := by simp [wayW, hh]
    have hS : waySum (srLeast (ofL rows tail) to) start = last.sum := by simp [waySum, hh, lastSum, hst]
    have hid : last.id = to := by simpa [srLeast] using hov
    obtain ⟨nr, its, M, sim, _, _, _, _⟩ := search_fin (srLeast (ofL rows tail) to) start hc
    have W := way_ok (srLeast (ofL rows tail) to) (fun _ => rfl) start hh sim rfl
    rw [hW, hS, hh, hc] at hR
    rw [hh, hc] at g5
    have hk1 : (searchF (srLeast (ofL rows tail) to) start).settled.length - 1 = st0.length := by rw [hst]; simp
    have hlast : snth (searchF (srLeast (ofL rows tail) to) start).settled st0.length = last := by rw [hst, snth_get (by simp)]; simp
    have hkl : st0.length < (searchF (srLeast (ofL rows tail) to) start).settled.length := by rw [hst]; simp
    rw [hk1] at hR
    have hd : decide ((0 : Int) ≠ 0) = false := by simp
    obtain ⟨b7, o7, e7, r70, r71⟩ := seen_read os5.rowv (j := st0.length) hkl
    have hsl : (searchF (srLeast (ofL rows tail) to) start).settled[st0.length]'hkl = last := by rw [← snth_get hkl]; exact hlast
    rw [hsl] at r71
    have w1 : IntKind.i64.wrap ((((searchF (srLeast (ofL rows tail) to) start).settled.map Seen.enc).length : Int) - 1) = ((st0.length : Nat) : Int) := by rw [List.length_map, i64_id (by omega) (by omega)]; omega
    have hsz : ((searchF (srLeast (ofL rows tail) to) start).settled.map Seen.enc).length = st0.length + 1 := by rw [List.length_map, hst]; simp
    have hok : (srLeast (ofL rows tail) to).of = ofL rows tail := rfl
    have hop : (srLeast (ofL rows tail) to).hops = false := rfl
    generalize (searchF (srLeast (ofL rows tail) to) start).settled = st at *
    generalize (searchF (srLeast (ofL rows tail) to) start).asked = asked at *
    generalize hSr : srLeast (ofL rows tail) to = S at *
    simp only [fldE_ptr, Nat.zero_add, ldS_at g5, List.getElem?_toArray, List.getElem?_cons_succ, List.getElem?_cons_zero, bnd_some, bin_neq, hd, isB_bool, beq_self_eq_true, cond_true, unE_not, Bool.not_true, asB_bool, Option.map_some, cond_false, condT_bool, Bool.false_eq_true, if_false, os5.lenE, bin_sub, w1, e7, r71, fill_int, nw_eq, fill_way1, ptr0_eq]
    have f10 := Fr.push h5 (.cells #[.int .i64 to] 2 (0, 0)) []
    have g10 := get_new h5 (.cells #[.int .i64 to] 2 (0, 0))
    have z10 : (h5.push (.cells #[.int .i64 to] 2 (0, 0))).size = h5.size + 1 := by simp
    generalize h5.push (.cells #[.int .i64 to] 2 (0, 0)) = h10 at *
    simp only [new_box52 h10 (show (Value.slice (some ⟨h5.size, 0, none⟩) 1 1).oneCell' = true from rfl) (show (Value.slice none 0 0).oneCell' = true from rfl), bnd_some]
    obtain ⟨f12, g12'⟩ := box_fr h10 (.cells #[.int .i64 0, .slice none 0 0, .slice none 0 0] 52 (0, 0)) (.cells #[.int .i64 last.sum, .slice (some ⟨h5.size, 0, none⟩) 1 1, .slice none 0 0] 52 (0, 0)) rfl rfl
    generalize (h10.push (.cells #[.int .i64 0, .slice none 0 0, .slice none 0 0] 52 (0, 0))).setIfInBounds h10.size (.cells #[.int .i64 last.sum, .slice (some ⟨h5.size, 0, none⟩) 1 1, .slice none 0 0] 52 (0, 0)) = h12 at *
    have on0 : OwnS h12 2 1 (.slice (some ⟨h5.size, 0, none⟩) 1 1) (ints [to]) [h5.size] := .inr ⟨h5.size, 1, by simp [ints], row_one (f12.get g10 (by simp)), rfl⟩
    generalize hq12 : h10.size = q12 at *
    unfold f29.L1
    refine ⟨RlInv h5 S st q12 last.sum (wayF S st st0.length), muK, ⟨st0.length, [], [], _, _, _, [], rfl, ⟨f10.then f12, g12', by rw [hlast, hid]; exact on0, OwnS.nil _ _ _, ⟨by omega, by simp; omega, by simp⟩, by simp, by simp, ⟨hkl, by simp; omega, rfl⟩⟩⟩, ?_⟩
    intro t46 t47 t49 t50 t51 t52 t48 t53 t54 t14 t13 t55 t56 t57 t58 t59 t60 t61 t62 t63 t64 t65 t66 t67 t68 t69 t70 t71 t72 t73 t74 t75 t11 h15
    rintro ⟨k, X, E, nv, ev, bn, be, hv, I⟩
    obtain rfl : t11 = .int .i64 k := by simpa using hv
    have g15 := I.fr.get g5 (by simp)
    have hkX := I.k
    have hs15 := I.fr.size
    have lq := lt_of_get I.box
    simp only [bin_gtr, bnd_some, condT_bool]
    by_cases hk0 : k = 0
    · subst hk0
      have hd : decide (((0 : Nat) : Int) > 0) = false := by simp
      have hn := I.n
      have he := I.e
      rw [wayF_zero] at hn he
      simp only [List.nil_append, List.singleton_append] at he hn
      simp only [hd, Bool.false_eq_true, if_false]
      unfold f29.J1
      have l12 : ldA 3 h15 (.pointer (some ⟨q12, 0, none⟩)) = some (.agg #[.int .i64 last.sum, nv, ev]) := by rw [ldA_at I.box]; simp
      have on := I.on
      have oe := I.oe
      rw [hn] at on
      rw [he] at oe
      obtain ⟨wf1, wf2⟩ := wfr h15 last.sum nv ev I.fr
      have nq : ∀ b, h5.size ≤ b → b ∉ [h1.size] := fun b hb hb' => by rw [List.mem_singleton] at hb'; omega
      have fin := hR _ nv ev av bn be ba (on.fr wf2 fun b hb => nq b (I.new.2.1 b hb).1) (oe.fr wf2 fun b hb => nq b (I.new.2.2 b hb).1) ((oa5.fr I.fr (by simp)).fr wf2 fun b hb hb' => by rw [List.mem_singleton] at hb'; exact naq b hb hb') wf1 (fun b hb => by have := (I.new.2.1 b hb).1; omega) (fun b hb => by have := (I.new.2.2 b hb).1; omega) hba
      have g156 := wf2.get g15 (by simp; exact n65.symm)
      have sE : stE 3 h15 (.pointer (some ⟨h1.size, 0, none⟩)) (.agg #[.int .i64 last.sum, nv, ev]) = some (h15.setIfInBounds h1.size (.cells #[.int .i64 last.sum, nv, ev] 52 (0, 0))) := by
        rw [stE_at _ (I.fr.get g65 (by simp))]; simp [splice, I.on.one, I.oe.one]
      have g' := get_set (o' := .cells #[.int .i64 last.sum, nv, ev] 52 (0, 0)) (I.fr.get g65 (by simp))
      have l : ldA 3 (h15.setIfInBounds h1.size (.cells #[.int .i64 last.sum, nv, ev] 52 (0, 0))) (.pointer (some ⟨h1.size, 0, none⟩)) = some (.agg #[.int .i64 last.sum, nv, ev]) := by rw [ldA_at g']; simp
      simp only [l12, fldE_ptr, Nat.zero_add, bnd_some, ldS_at g15, List.getElem?_toArray, List.getElem?_cons_succ, List.getElem?_cons_zero, sE]
      generalize h15.setIfInBounds h1.size (.cells #[.int .i64 last.sum, nv, ev] 52 (0, 0)) = h16 at *
      simp only [ldS_at g156, l, List.getElem?_toArray, List.getElem?_cons_succ, List.getElem?_cons_zero, bnd_some]
      exact ⟨fin, fin⟩
    · obtain ⟨hne, i, a, hpre, hik, dn, _⟩ := W.step k (by omega) hkX.1
      have hd : decide ((k : Int) > 0) = true := by simp; omega
      have l15 : ldA 4 h15 (.pointer (some ⟨h3.size, 0, none⟩)) = some (.agg #[sv, av, .int .i64 0, .bool true]) := by rw [ldA_at g15]; simp
      simp only [hd, if_true, l2 h15 (F25.then I.fr), l15, bnd_some]
      have os15 := os5.fr I.fr (by simp)
      refine arcTo_spec (S := S) (net.fr (F5.then I.fr)) hok hop oa5.one os15.rowv hkX.1 hln W.sums (fun i' hi' a' ha' => W.good i' (by omega) a' ha') fun h16 f16 => ?_
      rw [hpre]
      simp only [preV, extE_tuple, List.getElem?_toArray, List.getElem?_cons_succ, List.getElem?_cons_zero, bnd_some, nw_eq, ptr0_eq, new_box3]
      obtain ⟨f18, g18⟩ := box_fr h16 (.cells #[.int .i64 0, .int .i64 0, .int .i64 0] 62 (0, 0)) (.cells #[.int .i64 a.edge, .int .i64 a.to, .int .i64 a.weight] 62 (0, 0)) rfl rfl
      generalize (h16.push (.cells #[.int .i64 0, .int .i64 0, .int .i64 0] 62 (0, 0))).setIfInBounds h16.size (.cells #[.int .i64 a.edge, .int .i64 a.to, .int .i64 a.weight] 62 (0, 0)) = h18 at *
      have F18 := f16.then f18
      have g108 := F18.get g15 (by simp)
      have gq8 := F18.get I.box (by simp)
      have on8 := I.on.fr F18 (by simp)
      have oe8 := I.oe.fr F18 (by simp)
      have os8 := os15.fr F18 (by simp)
      have f16s := f16.size
      have f18s := f18.size
      have l18 := lt_of_get g18
      have hneg : decide ((i : Int) < 0) = false := by simp <;> omega
      obtain ⟨b9, o9, e9, r90, _⟩ := seen_read os8.rowv (j := i) (by omega)
      rw [← snth_get (by omega)] at r90
      have hw := wayF_some hpre
      have hn := I.n
      have he := I.e
      rw [hw] at hn he
      -- behind the nodes
      have J2 : ∀ (h23 : Hp) (b cap : Nat), RowAt h23 2 1 b cap (ints ((snth st i).id :: (snth st k).id :: X)) → Fr h18 h23 [] → h18.size ≤ b →
          bnd (stE 1 h23 (.pointer (some ⟨q12, 1, none⟩)) (.slice (some ⟨b, 0, none⟩) (ints ((snth st i).id :: (snth st k).id :: X)).length cap)) fun h_24 => f29.J2 (.pointer (some ⟨h16.size, 0, none⟩)) h_24 (.pointer (some ⟨q12, 0, none⟩)) (RlInv h5 S st q12 last.sum (wayF S st st0.length)) (.int .i64 (i : Int)) muK (.int .i64 (k : Int)) h15 := by
        intro h23 b cap r23 f23 hb
        have gq23 := f23.get gq8 (by simp)
        have g183 := f23.get g18 (by simp)
        have on23 : OwnS h23 2 1 (.slice (some ⟨b, 0, none⟩) (ints ((snth st i).id :: (snth st k).id :: X)).length cap) (ints ((snth st i).id :: (snth st k).id :: X)) [b] := .inr ⟨b, cap, rfl, r23, rfl⟩
        generalize Value.slice (some ⟨b, 0, none⟩) (ints ((snth st i).id :: (snth st k).id :: X)).length cap = nv' at *
        have sE : stE 1 h23 (.pointer (some ⟨q12, 1, none⟩)) nv' = some (h23.setIfInBounds q12 (.cells #[.int .i64 last.sum, nv', ev] 52 (0, 0))) := by
          rw [stE_at _ gq23]; simp [splice, on23.cells, on23.one]
        have gq24 := get_set (o' := .cells #[.int .i64 last.sum, nv', ev] 52 (0, 0)) gq23
        have f24 : Fr h23 (h23.setIfInBounds q12 (.cells #[.int .i64 last.sum, nv', ev] 52 (0, 0))) [q12] := Fr.set _ _ _ (fun _ => by simp) (by rw [gq23]; rfl)
        simp only [sE, bnd_some]
        generalize h23.setIfInBounds q12 (.cells #[.int .i64 last.sum, nv', ev] 52 (0, 0)) = h24 at *
        have bq : b ≠ q12 := by omega
        have on24 := on23.fr f24 fun c hc hc' => by rw [List.mem_singleton] at hc hc'; omega
        have oe24 := (oe8.fr f23 (by simp)).fr f24 fun c hc hc' => by rw [List.mem_singleton] at hc'; exact (I.new.2.2 c hc).2 hc'
        have g184 := f24.get g183 (by simp; omega)
        unfold f29.J2
        simp only [fldE_ptr, Nat.zero_add, bnd_some, ldS_at g184, List.getElem?_toArray, List.getElem?_cons_zero, fill_int, nw_eq]
        have fp := Fr.push h24 (.cells #[.int .i64 a.edge] 2 (0, 0)) []
        have gqp := fp.get gq24 (by simp)
        have hld : ldS (h24.push (.cells #[.int .i64 a.edge] 2 (0, 0))) (.pointer (some ⟨q12, 2, none⟩)) = some ev := by rw [ldS_at gqp]; simp
        simp only [hld, bnd_some]
        refine front_app oe24.rowv (by omega) fun h25 b' cap' r25 f25 hb' => ?_
        have gq25 := f25.get gq24 (by simp)
        have oe25 : OwnS h25 2 1 (.slice (some ⟨b', 0, none⟩) (ints (a.edge :: E)).length cap') (ints (a.edge :: E)) [b'] := .inr ⟨b', cap', rfl, r25, rfl⟩
        generalize Value.slice (some ⟨b', 0, none⟩) (ints (a.edge :: E)).length cap' = ev' at *
        have sE2 : stE 1 h25 (.pointer (some ⟨q12, 2, none⟩)) ev' = some (h25.setIfInBounds q12 (.cells #[.int .i64 last.sum, nv', ev'] 52 (0, 0))) := by
          rw [stE_at _ gq25]; simp [splice, oe25.cells, oe25.one]
        have gq26 := get_set (o' := .cells #[.int .i64 last.sum, nv', ev'] 52 (0, 0)) gq25
        have f26 : Fr h25 (h25.setIfInBounds q12 (.cells #[.int .i64 last.sum, nv', ev'] 52 (0, 0))) [q12] := Fr.set _ _ _ (fun _ => by simp) (by rw [gq25]; rfl)
        simp only [sE2, bnd_some]
        generalize h25.setIfInBounds q12 (.cells #[.int .i64 last.sum, nv', ev'] 52 (0, 0)) = h26 at *
        have f23s := f23.size
        have f24s := f24.size
        have lqb := lt_of_get gq24
        have F26 : Fr h5 h26 [] := by
          refine ((((I.fr.then F18).then f23).trans f24 (S := []) (by simp) fun c hc hm => ?_).then f25).trans f26 (by simp) fun c hc hm => ?_
          · rw [List.mem_singleton] at hm; have := I.new.1; omega
          · rw [List.mem_singleton] at hm; have := I.new.1; omega
        refine ⟨⟨i, (snth st k).id :: X, a.edge :: E, nv', ev', [b], [b'], rfl, ⟨F26, gq26, (on24.fr f25 (by simp)).fr f26 fun c hc hc' => by rw [List.mem_singleton] at hc hc'; omega, oe25.fr f26 fun c hc hc' => by rw [List.mem_singleton] at hc hc'; omega, ⟨I.new.1, by simp; omega, by simp; omega⟩, by rw [← hn]; simp, by rw [← he]; simp, ⟨by omega, by simp; omega, by simp; omega⟩⟩⟩, ?_⟩
        simp only [muK, Int.toNat_natCast]
        exact hik
      simp only [bin_lss, hneg, bnd_some, condT_bool, Bool.false_eq_true, if_false, fldE_ptr, Nat.zero_add, Nat.add_zero, ldS_at g108, List.getElem?_toArray, List.getElem?_cons_succ, List.getElem?_cons_zero, e9, r90, fill_int]
      have fp := Fr.push h18 (.cells #[.int .i64 (snth st i).id] 2 (0, 0)) []
      have hld : ldS (h18.push (.cells #[.int .i64 (snth st i).id] 2 (0, 0))) (.pointer (some ⟨q12, 1, none⟩)) = some nv := by rw [ldS_at (fp.get gq8 (by simp))]; simp
      have hld0 : ldS h18 (.pointer (some ⟨q12, 1, none⟩)) = some nv := by rw [ldS_at gq8]; simp
      simp only [hld, hld0, bnd_some]
      constructor
      · exact front_app on8.rowv (by simp; omega) fun h23 b cap r f hb => J2 h23 b cap r f hb
      · exact front_app on8.rowv (by simp; omega) fun h23 b cap r f hb => J2 h23 b cap r f hb
end Go.Proofs.YtkiakofohkecaaaDoor

/- The plain law of Least: what it tells is the least sum; its way is one, arc by arc. No program is in sight. No condition but those each theorem states. -/
namespace Go.Proofs.YtkiakofohkecaaaDoor
open Go Go.Fw

section
variable {of : Int → List Arc × Int} {start to : Int} {E : List Int}
theorem Mild.least (M : Mild of start E) (to : Int) : (searchF (srLeast of to) start).code = 0 :=
  search_code _ start E (by have := M.len; omega) M.start M.code fun id a ha => by
    have := M.arcs id a ha
    simp only [wt, srLeast, Bool.false_eq_true, if_false]
    exact ⟨this.1, by omega, this.2.2⟩
theorem Mild.yes (M : Mild of start E) (hh : (searchF (srLeast of to) start).hit = true) : Least1 of false start to (lastSum (searchF (srLeast of to) start)) := by
  obtain ⟨s, e, hov, hw, ho, hmin⟩ := fin_hit (S := srLeast of to) (start := start) (fun id a ha => by simp only [wt, srLeast, Bool.false_eq_true, if_false]; exact (M.arcs id a ha).1) (fun _ => rfl) hh
  have hid : s.id = to := by simpa [srLeast] using hov
  have hl : lastSum (searchF (srLeast of to) start) = s.sum := by simp [lastSum, e]
  rw [hl]
  refine ⟨by rw [← hid]; exact hw, fun k' hk' => ?_⟩
  rcases hmin to k' hk' with ⟨t, ht, hi, _⟩ | h
  · have := ho t ht
    simp [srLeast, hi] at this
  · exact h
theorem Mild.no (M : Mild of start E) (hh : (searchF (srLeast of to) start).hit = false) : ∀ k, ¬ Walk of false start to k := fun k hk => by
  obtain ⟨ho, hr⟩ := fin_not (S := srLeast of to) (start := start) (fun _ => rfl) hh (M.least to)
  obtain ⟨t, ht, hi, _⟩ := hr to k hk
  have := ho t ht
  simp [srLeast, hi] at this
theorem Mild.pos (M : Mild of start E) {id k : Int} (h : Walk of false start id k) : 0 ≤ k := by
  induction h with
  | nil => omega
  | step _ ha ih =>
    have := (M.arcs _ _ ha).1
    simp only [wt, Bool.false_eq_true, if_false]
    omega
/-- What Least tells of a node, or −1. -/
noncomputable def told (of : Int → List Arc × Int) (start to : Int) : Int := if (searchF (srLeast of to) start).hit then lastSum (searchF (srLeast of to) start) else -1
theorem Mild.told_pos (M : Mild of start E) (to : Int) : 0 ≤ told of start to ↔ (searchF (srLeast of to) start).hit = true := by
  unfold told
  cases hh : (searchF (srLeast of to) start).hit
  · simp
  · simpa using M.pos (M.yes hh).1
theorem Mild.told_arc (M : Mild of start E) {u : Int} (hu : 0 ≤ told of start u) {a : Arc} (ha : a ∈ (of u).1) : 0 ≤ told of start a.to ∧ told of start a.to ≤ told of start u + a.weight := by
  have hh := (M.told_pos u).1 hu
  have hw := Walk.step (M.yes hh).1 ha
  have h2 : (searchF (srLeast of a.to) start).hit = true := by
    cases h : (searchF (srLeast of a.to) start).hit
    · exact absurd hw (M.no h _)
    · rfl
  refine ⟨(M.told_pos a.to).2 h2, ?_⟩
  have := (M.yes h2).2 _ hw
  simp only [told, hh, h2, if_true]
  simpa [wt] using this
theorem Mild.told_le (M : Mild of start E) (to : Int) : told of start to ≤ 1099511627776 := by
  unfold told
  cases hh : (searchF (srLeast of to) start).hit
  · simp
  · obtain ⟨hc, st0, last, hst, _⟩ := search_hit (srLeast of to) start hh
    obtain ⟨nr, its, Mk, sim, _⟩ := search_fin (srLeast of to) start hc
    have := (sim.top last (by rw [hst]; simp)).2.1
    simpa [lastSum, hst] using this
theorem least_start (of : Int → List Arc × Int) (start : Int) : searchF (srLeast of start) start = ⟨[⟨start, 0⟩], [], 0, true⟩ := by
  simp [searchF, settleF, srLeast]
end

/-! ## the way -/
/-- pathsArc's own reckoning. -/
def pathArc (t e : Int) : List Arc → Int → Bool → Int × Bool
  | [], w, ok => (w, ok)
  | a :: l, w, ok => if a.to = t ∧ a.edge = e ∧ (ok = false ∨ a.weight < w) then pathArc t e l a.weight true else pathArc t e l w ok
theorem pathArc_min {t e m : Int} : ∀ (l : List Arc) (w : Int) (ok : Bool), (∀ b ∈ l, b.to = t → b.edge = e → m ≤ b.weight) → (ok = true → m ≤ w) → ((ok = true ∧ w = m) ∨ ∃ a ∈ l, a.to = t ∧ a.edge = e ∧ a.weight = m) → pathArc t e l w ok = (m, true)
  | [], w, ok, _, _, h => by
    rcases h with ⟨rfl, rfl⟩ | ⟨a, ha, _⟩
    · rfl
    · simp at ha
  | b :: l, w, ok, h1, h2, h3 => by
    unfold pathArc
    have hb := h1 b (by simp)
    split
    · rename_i hc
      refine pathArc_min l b.weight true (fun c hc' => h1 c (by simp [hc'])) (fun _ => hb hc.1 hc.2.1) ?_
      rcases h3 with ⟨rfl, rfl⟩ | ⟨a, ha, x1, x2, x3⟩
      · have := hb hc.1 hc.2.1
        rcases hc.2.2 with h | h
        · cases h
        · omega
      · rcases List.mem_cons.1 ha with rfl | ha
        · exact .inl ⟨rfl, x3⟩
        · exact .inr ⟨a, ha, x1, x2, x3⟩
    · rename_i hc
      refine pathArc_min l w ok (fun c hc' => h1 c (by simp [hc'])) h2 ?_
      rcases h3 with h | ⟨a, ha, x1, x2, x3⟩
      · exact .inl h
      · rcases List.mem_cons.1 ha with rfl | ha
        · have : ok = true ∧ w ≤ a.weight := by
            cases ok
            · exact absurd ⟨x1, x2, .inl rfl⟩ hc
            · exact ⟨rfl, Classical.byContradiction fun h => hc ⟨x1, x2, .inr (by omega)⟩⟩
          exact .inl ⟨this.1, by have := h2 this.1; omega⟩
        · exact .inr ⟨a, ha, x1, x2, x3⟩

theorem way_low (S : Sr) (hall : ∀ s, S.asks s = true) (start : Int) (hh : (searchF S start).hit = true) {i k : Nat} (hi : i + 1 < (searchF S start).settled.length) (hk : k < (searchF S start).settled.length) {b : Arc} (hb : b ∈ (S.of (snth (searchF S start).settled i).id).1) (ht : b.to = (snth (searchF S start).settled k).id) :
    (snth (searchF S start).settled k).sum ≤ (snth (searchF S start).settled i).sum + wt S.hops b := by
  obtain ⟨hc, st0, last, hst, hov⟩ := search_hit S start hh
  obtain ⟨nr, its, M, H, _⟩ := search_fin S start hc
  have hend : endL (searchF S start) = st0 := by simp [endL, hh, hst]
  rw [hend] at H
  generalize (searchF S start).settled = st at *
  have hlen : st.length = st0.length + 1 := by rw [hst]; simp
  have hm : (snth st i) ∈ st0 := by
    have : snth st i = snth st0 i := by rw [hst]; exact snth_app (by omega)
    rw [this]; exact snth_mem (by omega)
  obtain ⟨m, hg, hle⟩ := H.logs (snth st i, b) (mem_logF.2 ⟨hm, hall _, hb⟩)
  obtain ⟨f, e, hg2⟩ := H.fin (snth st k) (snth_mem hk)
  simp only at hg hle
  rw [ht, hg2] at hg
  obtain rfl := Option.some.inj hg
  exact hle

/-- A way, arc by arc, with the sums so far. -/
structure Chain (of : Int → List Arc × Int) (start : Int) (N E ps : List Int) (id sum : Int) : Prop where
  len : N.length = E.length + 1 ∧ ps.length = E.length + 1
  first : N[0]? = some start ∧ ps[0]? = some 0
  last : N[E.length]? = some id ∧ ps[E.length]? = some sum
  step : ∀ i, i < E.length → ∃ u t e p q, N[i]? = some u ∧ N[i + 1]? = some t ∧ E[i]? = some e ∧ ps[i]? = some p ∧ ps[i + 1]? = some q ∧ pathArc t e (of u).1 0 false = (q - p, true)
  range : ∀ p ∈ ps, 0 ≤ p ∧ p ≤ 1099511627776

theorem chain_app {of : Int → List Arc × Int} {start : Int} {N E ps : List Int} {id sum t e q : Int} (C : Chain of start N E ps id sum) (hp : pathArc t e (of id).1 0 false = (q - sum, true)) (hq : 0 ≤ q ∧ q ≤ 1099511627776) : Chain of start (N ++ [t]) (E ++ [e]) (ps ++ [q]) t q := by
  obtain ⟨l1, l2⟩ := C.len
  refine ⟨by simp; omega, ⟨by rw [List.getElem?_append_left (by omega)]; exact C.first.1, by rw [List.getElem?_append_left (by omega)]; exact C.first.2⟩, ⟨by rw [List.getElem?_append_right (by simp; omega)]; simp [l1], by rw [List.getElem?_append_right (by simp; omega)]; simp [l2]⟩, fun i hi => ?_, fun p hp' => ?_⟩
  · by_cases hil : i < E.length
    · obtain ⟨u, t', e', p, q', h1, h2, h3, h4, h5, h6⟩ := C.step i hil
      exact ⟨u, t', e', p, q', by rw [List.getElem?_append_left (by omega)]; exact h1, by rw [List.getElem?_append_left (by omega)]; exact h2, by rw [List.getElem?_append_left (by omega)]; exact h3, by rw [List.getElem?_append_left (by omega)]; exact h4, by rw [List.getElem?_append_left (by omega)]; exact h5, h6⟩
    · have hie : i = E.length := by simp at hi; omega
      refine ⟨id, t, e, sum, q, ?_, ?_, ?_, ?_, ?_, hp⟩
      · rw [List.getElem?_append_left (by omega), hie]; exact C.last.1
      · rw [List.getElem?_append_right (by omega)]; simp [hie, l1]
      · rw [List.getElem?_append_right (by omega)]; simp [hie]
      · rw [List.getElem?_append_left (by omega), hie]; exact C.last.2
      · rw [List.getElem?_append_right (by omega)]; simp [hie, l2]
  · rcases List.mem_append.1 hp' with h | h
    · exact C.range p h
    · rw [List.mem_singleton] at h; subst h; exact hq

theorem way_chain {of : Int → List Arc × Int} {start to : Int} (hh : (searchF (srLeast of to) start).hit = true) : ∀ (n k : Nat), k ≤ n → k < (searchF (srLeast of to) start).settled.length →
    ∃ ps, Chain of start (wayF (srLeast of to) (searchF (srLeast of to) start).settled k).1 (wayF (srLeast of to) (searchF (srLeast of to) start).settled k).2 ps (snth (searchF (srLeast of to) start).settled k).id (snth (searchF (srLeast of to) start).settled k).sum := by
  obtain ⟨hc, _⟩ := search_hit (srLeast of to) start hh
  obtain ⟨nr, its, M, sim, _⟩ := search_fin (srLeast of to) start hc
  have W := way_ok (srLeast of to) (fun _ => rfl) start hh sim rfl
  have low := fun {i k : Nat} (hi : i + 1 < (searchF (srLeast of to) start).settled.length) (hk : k < (searchF (srLeast of to) start).settled.length) {b : Arc} => way_low (srLeast of to) (fun _ => rfl) start hh (i := i) (k := k) hi hk (b := b)
  intro n
  induction n with
  | zero =>
    intro k hk hkl
    obtain rfl : k = 0 := by omega
    rw [wayF_zero, W.first.2]
    exact ⟨[0], by simp, by simp, by simp, by simp, by simp⟩
  | succ n ih =>
    intro k hk hkl
    by_cases h0 : k = 0
    · subst h0
      rw [wayF_zero, W.first.2]
      exact ⟨[0], by simp, by simp, by simp, by simp, by simp⟩
    · obtain ⟨_, i, a, hpre, hik, _⟩ := W.step k (by omega) hkl
      obtain ⟨ps, C⟩ := ih i (by omega) (by omega)
      obtain ⟨_, ham, hto, hsum⟩ := pre_lt hpre
      have hwt : ∀ b : Arc, wt (srLeast of to).hops b = b.weight := fun b => by simp [wt, srLeast]
      rw [hwt] at hsum
      rw [wayF_some hpre]
      have hs := W.sums (snth (searchF (srLeast of to) start).settled k) (snth_mem hkl)
      refine ⟨_, chain_app C (e := a.edge) (pathArc_min _ 0 false (fun b hb hbt _ => ?_) (fun h => by cases h) (.inr ⟨a, ham, hto, rfl, by omega⟩)) hs⟩
      have := low (i := i) (k := k) (by omega) hkl (b := b) hb hbt
      rw [hwt] at this
      omega
end Go.Proofs.YtkiakofohkecaaaDoor

/- The law PathsNone: functions and heaps that are not there. No condition but that the list is read in memory as told. -/
namespace Go.Proofs.YtkiakofohkecaaaDoor
open Go Go.Fw

theorem fill_shown0 : (fillS [(0, 2), (2, 1), (3, 1)] #[(.slice none 0 0), (.bool false), (.slice none 0 0), (.slice none 0 0)] []).map Value.agg = some (.agg #[.slice none 0 0, .bool false, .slice none 0 0, .slice none 0 0]) := by kernel_rfl
theorem fill_way2 (b n c : Nat) : (fillS [(0, 1), (1, 1), (2, 1)] #[(.int .i64 0), (.slice none 0 0), (.slice none 0 0)] [(1, .slice (some ⟨b, 0, none⟩) n c)]).map Value.agg = some (.agg #[.int .i64 0, .slice (some ⟨b, 0, none⟩) n c, .slice none 0 0]) := by kernel_rfl
theorem fill_net0 : (fillS [(0, 1), (1, 1)] #[(.slice none 0 0), (.map none)] []).map Value.agg = some (.agg #[.slice none 0 0, .map none]) := by kernel_rfl
theorem nil_f : nilBin .f .eql .nilFunc .nilFunc = some (.bool true) := rfl
theorem nil_p : nilBin .p .eql (.pointer none) (.pointer none) = some (.bool true) := rfl
theorem nil_pn : nilBin .p .neq (.pointer none) (.pointer none) = some (.bool false) := rfl

section
variable {h : Hp} {R : Value → Hp → Prop}
theorem none28 (a b : Int) (hR : ∀ h', Fr h h' [] → R (.tuple #[.agg #[.int .i64 0, .slice none 0 0, .slice none 0 0], .bool false, .int .i64 1]) h') : CallsH Tryd.prog 28 #[.nilFunc, .int .i64 a, .int .i64 b] h R := by
  refine f28.ok ?_
  unfold f28.T
  simp only [nw_eq, cells_int, ptr0_eq, nil_f, bnd_some, condT_bool, if_true, fill_way0]
  have f1 := Fr.push h (.cells #[.int .i64 b] 2 (0, 0)) []
  generalize h.push (.cells #[.int .i64 b] 2 (0, 0)) = h1 at *
  simp only [new_box52 h1 (show (Value.slice none 0 0).oneCell' = true from rfl) (show (Value.slice none 0 0).oneCell' = true from rfl), bnd_some]
  obtain ⟨f2, g2⟩ := box_fr h1 (.cells #[.int .i64 0, .slice none 0 0, .slice none 0 0] 52 (0, 0)) (.cells #[.int .i64 0, .slice none 0 0, .slice none 0 0] 52 (0, 0)) rfl rfl
  generalize (h1.push (.cells #[.int .i64 0, .slice none 0 0, .slice none 0 0] 52 (0, 0))).setIfInBounds h1.size (.cells #[.int .i64 0, .slice none 0 0, .slice none 0 0] 52 (0, 0)) = h2 at *
  have l2 : ldA 3 h2 (.pointer (some ⟨h1.size, 0, none⟩)) = some (.agg #[.int .i64 0, .slice none 0 0, .slice none 0 0]) := by rw [ldA_at g2]; simp
  simp only [l2, bnd_some]
  exact hR h2 (f1.then f2)
theorem none18 (a b : Int) (hR : ∀ h', Fr h h' [] → R (.tuple #[.int .i64 0, .bool false, .int .i64 1]) h') : CallsH Tryd.prog 18 #[.nilFunc, .int .i64 a, .int .i64 b] h R := by
  refine f18.ok ?_
  unfold f18.T
  simp only [nw_eq, cells_int, ptr0_eq, nil_f, bnd_some, condT_bool, if_true]
  exact hR _ (Fr.push h _ [])
theorem none22 (a b : Int) (hR : ∀ h', Fr h h' [] → R (.tuple #[.slice none 0 0, .int .i64 1]) h') : CallsH Tryd.prog 22 #[.nilFunc, .int .i64 a, .int .i64 b] h R := by
  refine f22.ok ?_
  unfold f22.T
  simp only [nw_eq, cells_int, ptr0_eq, nil_f, bnd_some, isB_bool, show (true == false) = false from rfl, cond_false, asB_bool, Option.map_some, cond_true, condT_bool, if_true]
  exact hR _ (Fr.push h _ [])
theorem new_box112 (h : Hp) : stE 2 (h.push (.cells #[.slice none 0 0, .map none] 112 (0, 0))) (.pointer (some ⟨h.size, 0, none⟩)) (.agg #[.slice none 0 0, .map none]) =
    some ((h.push (.cells #[.slice none 0 0, .map none] 112 (0, 0))).setIfInBounds h.size (.cells #[.slice none 0 0, .map none] 112 (0, 0))) := by
  rw [stE_at _ (get_new h _)]; simp [splice]
theorem none59 (v : Value) (hR : ∀ h', Fr h h' [] → R (.tuple #[.agg #[.slice none 0 0, .map none], .int .i64 1]) h') : CallsH Tryd.prog 59 #[v, .nilFunc] h R := by
  refine f59.ok ?_
  unfold f59.T
  simp only [nw_eq, ptr0_eq, nil_f, bnd_some, condT_bool, if_true, fill_net0, new_box112]
  obtain ⟨f2, g2⟩ := box_fr h (.cells #[.slice none 0 0, .map none] 112 (0, 0)) (.cells #[.slice none 0 0, .map none] 112 (0, 0)) rfl rfl
  generalize (h.push (.cells #[.slice none 0 0, .map none] 112 (0, 0))).setIfInBounds h.size (.cells #[.slice none 0 0, .map none] 112 (0, 0)) = h2 at *
  have l2 : ldA 2 h2 (.pointer (some ⟨h.size, 0, none⟩)) = some (.agg #[.slice none 0 0, .map none]) := by rw [ldA_at g2]; simp
  simp only [l2, bnd_some]
  exact hR h2 f2
theorem none38 (v : Value) (hR : ∀ h', Fr h h' [] → R (.tuple #[.slice none 0 0, .bool false, .int .i64 1]) h') : CallsH Tryd.prog 38 #[v, .nilFunc] h R := by
  refine f38.ok ?_
  unfold f38.T
  refine none59 v fun h1 f1 => ?_
  simp only [extE_tuple, List.getElem?_toArray, List.getElem?_cons_succ, List.getElem?_cons_zero, bnd_some, nw_eq, ptr0_eq, new_box112, bin_neq, condT_bool]
  obtain ⟨f2, _⟩ := box_fr h1 (.cells #[.slice none 0 0, .map none] 112 (0, 0)) (.cells #[.slice none 0 0, .map none] 112 (0, 0)) rfl rfl
  rw [if_pos (by decide)]
  exact hR _ (f1.then f2)
theorem none34 (v : Value) (hR : ∀ h', Fr h h' [] → R (.tuple #[.slice none 0 0, .int .i64 1]) h') : CallsH Tryd.prog 34 #[v, .nilFunc] h R := by
  refine f34.ok ?_
  unfold f34.T
  refine none59 v fun h1 f1 => ?_
  simp only [extE_tuple, List.getElem?_toArray, List.getElem?_cons_succ, List.getElem?_cons_zero, bnd_some, nw_eq, ptr0_eq, new_box112, bin_neq, condT_bool]
  obtain ⟨f2, _⟩ := box_fr h1 (.cells #[.slice none 0 0, .map none] 112 (0, 0)) (.cells #[.slice none 0 0, .map none] 112 (0, 0)) rfl rfl
  rw [if_pos (by decide)]
  exact hR _ (f1.then f2)
theorem info2 : (Tryd.prog.info? 2).map (fun i => (i.zero, i.size, i.bytes)) = some (some (.int .i64 0), 1, 8) := by kernel_rfl
/-- The same ids in new memory. -/
theorem copy_spec {v : Value} {l : List Int} (r : RowV h 1 v (ints l)) (hl : l.length ≤ 1048576) (hR : ∀ h' b cap, RowAt h' 2 1 b cap (ints l) → l.length + 2 ≤ cap ∨ True → Fr h h' [] → h.size ≤ b → R (.slice (some ⟨b, 0, none⟩) (ints l).length cap) h') : CallsH Tryd.prog 37 #[v] h R := by
  refine f37.ok ?_
  unfold f37.T
  have w1 : IntKind.i64.wrap ((l.length : Int) + 2) = ((l.length + 2 : Nat) : Int) := by rw [i64_id (by omega) (by omega)]; omega
  simp only [ints_len r, bnd_some, bin_add, w1]
  refine make_room (z := .int .i64 0) elem28.slice info2 rfl (by omega) (by omega) fun h1 r1 f1 => ?_
  have ap := fun (K : Value → Hp → Prop) k' => append_v (P := Tryd.prog) (ty := 28) elem28 r1 (r.fr f1) (by simp [ints]) (by simp [ints]; omega) (by simp [ints]; omega) (K := K) k'
  refine ap _ fun h' b cap r' f hb => ?_
  have f1s := f1.size
  refine hR h' b cap (by simpa using r') (.inr trivial) (f1.trans f (by simp) fun c hc hm => by simp at hm; omega) ?_
  rcases hb with h | h
  · have := Option.some.inj h; omega
  · omega
theorem none41 (hR : R (.pointer none) h) : CallsH Tryd.prog 41 #[.nilFunc] h R := by
  refine f41.ok ?_
  unfold f41.T
  simpa only [nil_f, bnd_some, condT_bool, if_true] using hR
theorem none42 (hR : R (.int .i64 0) h) : CallsH Tryd.prog 42 #[.pointer none] h R := by
  refine f42.ok ?_
  unfold f42.T
  simpa only [nil_p, bnd_some, condT_bool, if_true] using hR
theorem none43 (k : Int) (hR : R (.tuple #[]) h) : CallsH Tryd.prog 43 #[.pointer none, .int .i64 k] h R := by
  refine f43.ok ?_
  unfold f43.T
  simpa only [nil_p, bnd_some, condT_bool, if_true] using hR
theorem none44 (hR : R (.tuple #[.int .i64 0, .bool false]) h) : CallsH Tryd.prog 44 #[.pointer none] h R := by
  refine f44.ok ?_
  unfold f44.T
  refine none42 ?_
  simpa only [bin_eql, decide_true, bnd_some, condT_bool, if_true] using hR
end

set_option maxHeartbeats 2000000 in
theorem law13 {h : Hp} {v : Value} {l : List Int} {Em : Nat} {fm : Nat × Nat} (hm : h[2]? = some (.cells #[.int .i64 (-71), .int .i64 (-72), .int .i64 (-73)] Em fm)) (start to most : Int) (r : RowV h 1 v (ints l)) (hl : l.length ≤ 1048576) :
    CallsH Tryd.prog 13 #[.int .i64 start, .int .i64 to, .int .i64 most, v] h fun r h' => r = .bool true ∧ Fr h h' [] := by
  refine f13.ok ?_
  unfold f13.T
  have net : NetOk h (.slice none 0 0) [] := ⟨⟨none, 0, rfl, fun h => absurd rfl h⟩, by simp, by simp, by simp⟩
  simp only [fill_shown0, bnd_some, nw_eq, cells_agg, ptr0_eq]
  have sh := shown_new (rows := []) (tail := false) (v := .slice none 0 0) (Fr.refl h [])
  have f1 := Fr.push h (.cells #[.slice none 0 0, .bool false, .slice none 0 0, .slice none 0 0] 31 (0, 0)) []
  generalize h.push (.cells #[.slice none 0 0, .bool false, .slice none 0 0, .slice none 0 0] 31 (0, 0)) = h1 at *
  have hsf := least_start (ofL [] false) start
  have hW : wayW (srLeast (ofL [] false) start) start = ([start], []) := by simp [wayW, hsf, wayF_zero, snth]
  have hS : waySum (srLeast (ofL [] false) start) start = 0 := by simp [waySum, hsf, lastSum]
  refine least_spec (shown_ok net hm) sh (by simp) start start fun h2 B2 n2 e2 bn2 be2 sh2 f2 hB2 on2 oe2 nn2 ne2 => ?_
  rw [hW] at on2 oe2
  rw [hsf] at sh2 ⊢
  rw [hS]
  simp only [List.append_nil] at sh2
  obtain ⟨gs, bla, blg, ea, eB, H2⟩ := sh2
  have hgs : gs = [] := by cases gs with | nil => rfl | cons g gs => simp at ea
  subst hgs
  have F2 : Fr h h2 [] := f1.trans f2 (by simp) fun c hc hm => by simp at hm; omega
  simp only [extE_tuple, List.getElem?_toArray, List.getElem?_cons_succ, List.getElem?_cons_zero, bnd_some, nw_eq, ptr0_eq, new_box52 h2 on2.one oe2.one]
  obtain ⟨f4, g4⟩ := box_fr h2 (.cells #[.int .i64 0, .slice none 0 0, .slice none 0 0] 52 (0, 0)) (.cells #[.int .i64 0, n2, e2] 52 (0, 0)) rfl rfl
  generalize (h2.push (.cells #[.int .i64 0, .slice none 0 0, .slice none 0 0] 52 (0, 0))).setIfInBounds h2.size (.cells #[.int .i64 0, n2, e2] 52 (0, 0)) = h4 at *
  have l4 : ldA 3 h4 (.pointer (some ⟨h2.size, 0, none⟩)) = some (.agg #[.int .i64 0, n2, e2]) := by rw [ldA_at g4]; simp
  have f5 := Fr.push h4 (.cells #[.int .i64 start] 2 (0, 0)) []
  have g5 := get_new h4 (.cells #[.int .i64 start] 2 (0, 0))
  have d00 : decide ((0 : Int) ≠ 0) = false := by simp
  have d11 : decide ((1 : Int) ≠ 1) = false := by simp
  simp only [unE_not, Bool.not_true, bnd_some, isB_bool, beq_self_eq_true, cond_true, bin_neq, d00, asB_bool, Option.map_some, cond_false, l4, fill_int, guardT_true, fill_way2]
  generalize h4.push (.cells #[.int .i64 start] 2 (0, 0)) = h5 at *
  have F5 : Fr h2 h5 [] := f4.then f5
  refine way_spec (N2 := [start]) (E2 := []) (on2.fr F5 (by simp)).rowv ⟨_, 1, by simp [ints], fun _ => ⟨h4.size, 0, rfl, (row_one g5).seg⟩⟩ (oe2.fr F5 (by simp)).rowv ⟨none, 0, rfl, fun h => absurd rfl h⟩ (by simp) (by simp) rfl rfl rfl fun h6 f6 => ?_
  have H6 := H2.fr (F5.then f6) (by simp)
  obtain ⟨av, gv, e6, oa6, og6⟩ := H6.top
  have hlen := own_len (l := []) (by simpa [ints] using oa6)
  simp only [List.length_nil] at hlen
  have hlen' : lenE av = some (.int .i64 0) := hlen
  simp only [unE_not, Bool.not_true, bnd_some, asB_bool, Option.map_some, cond_false, isB_bool, beq_self_eq_true, cond_true, nilE_ptr, fldE_ptr, Nat.zero_add, ldS_at e6, List.getElem?_toArray, List.getElem?_cons_succ, List.getElem?_cons_zero, hlen', bin_neq, d00, condT_bool, Bool.false_eq_true, if_false]
  have F6 : Fr h h6 [] := (F2.then F5).then f6
  refine none28 start to fun h7 f7 => ?_
  simp only [extE_tuple, List.getElem?_toArray, List.getElem?_cons_succ, List.getElem?_cons_zero, bnd_some, nw_eq, ptr0_eq, new_box52 h7 (show (Value.slice none 0 0).oneCell' = true from rfl) (show (Value.slice none 0 0).oneCell' = true from rfl)]
  obtain ⟨f9, g9⟩ := box_fr h7 (.cells #[.int .i64 0, .slice none 0 0, .slice none 0 0] 52 (0, 0)) (.cells #[.int .i64 0, .slice none 0 0, .slice none 0 0] 52 (0, 0)) rfl rfl
  generalize (h7.push (.cells #[.int .i64 0, .slice none 0 0, .slice none 0 0] 52 (0, 0))).setIfInBounds h7.size (.cells #[.int .i64 0, .slice none 0 0, .slice none 0 0] 52 (0, 0)) = h9 at *
  have l9 : ldA 3 h9 (.pointer (some ⟨h7.size, 0, none⟩)) = some (.agg #[.int .i64 0, .slice none 0 0, .slice none 0 0]) := by rw [ldA_at g9]; simp
  simp only [l9, bnd_some, fill_way0]
  have nilr : RowV h9 1 (.slice none 0 0) (ints []) := ⟨none, 0, rfl, fun h => absurd rfl h⟩
  refine way_spec nilr nilr nilr nilr (by simp) (by simp) rfl rfl rfl fun h10 f10 => ?_
  simp only [unE_not, Bool.not_true, bnd_some, asB_bool, Option.map_some, cond_false, isB_bool, beq_self_eq_true, cond_true, bin_neq, d11, condT_bool, Bool.false_eq_true, if_false]
  refine none18 start to fun h11 f11 => ?_
  simp only [extE_tuple, List.getElem?_toArray, List.getElem?_cons_succ, List.getElem?_cons_zero, bnd_some, bin_neq, d00, asB_bool, Option.map_some, cond_false, isB_bool, beq_self_eq_true, cond_true, d11, condT_bool, Bool.false_eq_true, if_false]
  refine none22 start most fun h12 f12 => ?_
  have F12 : Fr h h12 [] := ((((F6.then f7).then f9).then f10).then f11).then f12
  simp only [extE_tuple, List.getElem?_toArray, List.getElem?_cons_succ, List.getElem?_cons_zero, bnd_some]
  refine copy_spec (r.fr F12) hl fun h13 b13 c13 r13 _ f13 _ => ?_
  refine none38 _ fun h14 f14 => ?_
  simp only [extE_tuple, List.getElem?_toArray, List.getElem?_cons_succ, List.getElem?_cons_zero, bnd_some]
  refine copy_spec (r.fr ((F12.then f13).then f14)) hl fun h15 b15 c15 r15 _ f15 _ => ?_
  refine none34 _ fun h16 f16 => ?_
  have F16 : Fr h h16 [] := (((F12.then f13).then f14).then f15).then f16
  have d00' : decide (((0 : Nat) : Int) ≠ 0) = false := by simp
  simp only [extE_tuple, List.getElem?_toArray, List.getElem?_cons_succ, List.getElem?_cons_zero, bnd_some, lenE_sl, bin_neq, d00', isB_bool, beq_self_eq_true, cond_true, asB_bool, Option.map_some, cond_false, d11, condT_bool, Bool.false_eq_true, if_false]
  refine none41 ?_
  simp only [nil_pn, bnd_some, isB_bool, beq_self_eq_true, cond_true, guardT_true]
  refine none42 ?_
  simp only [bin_neq, d00, bnd_some, asB_bool, Option.map_some, cond_false, condT_bool, Bool.false_eq_true, if_false]
  refine none43 start ?_
  refine none44 ?_
  simp only [extE_tuple, List.getElem?_toArray, List.getElem?_cons_succ, List.getElem?_cons_zero, bnd_some, bin_eql, decide_true, isB_bool, beq_self_eq_true, cond_true, unE_not, Bool.not_false, asB_bool, Option.map_some, guardT_true]
  refine none42 ?_
  simp only [bin_eql, decide_true, bnd_some, asB_bool, Option.map_some, cond_true]
  exact ⟨by trivial, F16⟩
end Go.Proofs.YtkiakofohkecaaaDoor
