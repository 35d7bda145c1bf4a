/- The framework, part 6: regions: one order stands for all that the edges allow. No condition. -/
import Derived.Test.YtkiakofohkecaaaDoorFw5
namespace Go.Fw
open Go

def put (e : Env) (d : Option Tmp) (v : Value) : Env := match d with | some d => upd e d v | none => e
def wantB (ops : List Oper) (e : Env) (j : Nat) (b : Bool) : Bool :=
  match ops[j]? with
  | some o => (match o.dst with | some t => isB (e t) b | none => false)
  | none => false

def evO (P : Program) (ops : List Oper) (o : Oper) (e : Env) (h : Hp) (K : Value → Hp → Prop) : Prop :=
  match o.guard with
  | none => (res P o (ev e)).run P h K
  | some (j, b) => (res P o (ev e)).runG P (wantB ops e j b) h K

def evL (P : Program) (ops : List Oper) : List Nat → Env → Hp → (Env → Hp → Prop) → Prop
  | [], e, h, K => K e h
  | i :: r, e, h, K => match ops[i]? with
    | none => evL P ops r e h K
    | some o => evO P ops o e h fun v h => evL P ops r (put e o.dst v) h K

section
variable {P : Program} {ops : List Oper}

/-- The operation as it is carried out in this frame. -/
def resG (P : Program) (ops : List Oper) (o : Oper) (e : Env) : Res :=
  match o.guard with
  | none => res P o (ev e)
  | some (j, b) => (res P o (ev e)).eff' (wantB ops e j b)
theorem evO_iff (o : Oper) (e : Env) (h : Hp) (K : Value → Hp → Prop) : evO P ops o e h K ↔ (resG P ops o e).run P h K := by
  unfold evO resG
  split
  · exact Iff.rfl
  · exact Res.runG_iff _ _ _ _
theorem resG_ok (o : Oper) (e : Env) : (resG P ops o e).ok := by
  unfold resG
  split
  · exact res_ok _ _
  · exact Res.eff'_ok (res_ok _ _) _
theorem resG_cls (o : Oper) (e : Env) : (resG P ops o e).cls = .pure ∨ (resG P ops o e).cls = clsOf P o := by
  unfold resG
  split
  · exact .inr (res_cls _ _)
  · rename_i j b _
    rcases Res.eff'_cls (res P o (ev e)) (wantB ops e j b) with h | h
    · exact .inl h
    · exact .inr (h.trans (res_cls _ _))
theorem evO_mono {o : Oper} {e : Env} {h : Hp} {K K' : Value → Hp → Prop} (hk : ∀ v h, K v h → K' v h) (c : evO P ops o e h K) : evO P ops o e h K' := by
  rw [evO_iff] at *
  exact Res.run_mono (resG_ok _ _) hk c

theorem swaps_pure {x i : Cls} (h : x.swaps i = true) {x' i' : Cls} (hx : x' = .pure ∨ x' = x) (hi : i' = .pure ∨ i' = i) : x'.swaps i' = true := by
  rcases hx with rfl | rfl
  · cases i' <;> rfl
  · rcases hi with rfl | rfl
    · cases x' <;> rfl
    · exact h

/-! temporaries -/
def looks (ops : List Oper) (o : Oper) : List Tmp :=
  (o.op.operands.toList.filterMap fun | .tmp t => some t | _ => none) ++
  (match o.guard with
   | some (g, _) => (match ops[g]? with | some p => p.dst.toList | none => [])
   | none => [])
def notIn (d : Option Tmp) (l : List Tmp) : Bool := match d with | some d => !l.contains d | none => true
def apartB (ops : List Oper) (x y : Oper) : Bool :=
  notIn x.dst (looks ops y) && notIn y.dst (looks ops x) && (match x.dst, y.dst with | some d, some d' => !(d == d') | _, _ => true)

theorem ev_put {e : Env} {d : Option Tmp} {v : Value} {x : Operand} (h : ∀ t, d = some t → x ≠ .tmp t) : ev (put e d v) x = ev e x := by
  cases d with
  | none => rfl
  | some t =>
    cases x with
    | tmp s =>
      have hne : t ≠ s := fun e => h t rfl (e ▸ rfl)
      have hb : Nat.beq s t = false := by
        cases hb : Nat.beq s t
        · rfl
        · exact absurd (Nat.eq_of_beq_eq_true hb).symm hne
      simp only [ev, put, upd, hb, cond_false]
    | _ => rfl

theorem res_congr {ρ ρ' : Operand → Value} (o : Oper) (h : ∀ x ∈ o.op.operands, ρ x = ρ' x) : res P o ρ = res P o ρ' := by
  obtain ⟨dst, op, type, pos, after, guard⟩ := o
  have pairs : ∀ ps : Array (Nat × Operand), (∀ x ∈ ps.map (·.2), ρ x = ρ' x) → (ps.toList.map fun (i, x) => (i, ρ x)) = (ps.toList.map fun (i, x) => (i, ρ' x)) := fun ps hp =>
    List.map_congr_left fun p hm => by
      obtain ⟨i, x⟩ := p
      simp only [hp x (Array.mem_map.2 ⟨(i, x), by simpa using hm, rfl⟩)]
  cases op <;> simp only [Op.operands] at h <;> simp only [res]
  case build t ps => rw [pairs ps fun x hx => h x (by simpa using hx)]
  case buildSlice t n ps => rw [pairs ps fun x hx => h x (by simpa using hx)]
  case makeFunc fn first captured =>
    simp only [mapA_eq]
    rw [Array.map_congr_left (xs := first) fun x hx => h x (by simp [hx]), Array.map_congr_left (xs := captured) fun x hx => h x (by simp [hx])]
  case call c =>
    have hargs : c.args.map ρ = c.args.map ρ' := Array.map_congr_left fun x hx => h x (by simp [Call.operands, hx])
    unfold resCall
    simp only [mapA_eq]
    cases hc : c.callee with
    | value f => have hf : ρ f = ρ' f := h f (by simp [Call.operands, hc]); simp only [hf, hargs]
    | invoke r m => have hr : ρ r = ρ' r := h r (by simp [Call.operands, hc]); simp only [hr, hargs]
    | builtin b =>
      cases b <;> simp only [hargs]
      cases h1 : c.argTypes[0]? with
      | none => rfl
      | some t =>
        cases h2 : c.args[0]? with
        | none => rfl
        | some x =>
          have hx : ρ x = ρ' x := h x (by simp only [Call.operands]; exact Array.mem_append.2 (.inr (Array.mem_of_getElem? h2)))
          simp only [hx]
  case makeMap t r => cases r <;> simp_all
  case slice t x lo hi mx => cases lo <;> cases hi <;> cases mx <;> simp_all
  all_goals (first | rfl | (simp_all; done))

theorem notIn_spec {d : Option Tmp} {l : List Tmp} (h : notIn d l = true) : ∀ t, d = some t → t ∉ l := by
  intro t ht
  subst ht
  simpa [notIn] using h

theorem res_put {o : Oper} {e : Env} {d : Option Tmp} {v : Value} (h : notIn d (looks ops o) = true) : res P o (ev (put e d v)) = res P o (ev e) :=
  res_congr o fun x hx => ev_put fun t ht hxt => notIn_spec h t ht (by
    subst hxt
    exact List.mem_append_left _ (List.mem_filterMap.2 ⟨.tmp t, by simpa using hx, rfl⟩))

theorem resG_put {o : Oper} {e : Env} {d : Option Tmp} {v : Value} (h : notIn d (looks ops o) = true) : resG P ops o (put e d v) = resG P ops o e := by
  have hr := res_put (P := P) (o := o) (e := e) (v := v) h
  unfold resG
  split
  · exact hr
  · rename_i j b hg
    rw [hr]
    congr 1
    unfold wantB
    cases hj : ops[j]? with
    | none => rfl
    | some p =>
      simp only
      cases hd : p.dst with
      | none => rfl
      | some t =>
        simp only
        have : ev (put e d v) (.tmp t) = ev e (.tmp t) := ev_put fun s hs' hx => by
          obtain rfl : t = s := by simpa using hx
          exact notIn_spec h t hs' (by simp [looks, hg, hj, hd])
        simp only [ev] at this
        rw [this]

theorem put_comm {e : Env} {x y : Option Tmp} {v u : Value} (h : ∀ d, x = some d → y ≠ some d) : put (put e x v) y u = put (put e y u) x v := by
  cases x with
  | none => rfl
  | some d =>
    cases y with
    | none => rfl
    | some c =>
      have hne : d ≠ c := fun he => h d rfl (he ▸ rfl)
      funext t
      simp only [put, upd]
      cases h1 : Nat.beq t d <;> cases h2 : Nat.beq t c <;> simp only [cond_true, cond_false]
      exact absurd ((Nat.eq_of_beq_eq_true h1).symm.trans (Nat.eq_of_beq_eq_true h2)) hne

/-- May x, which stands first, and i behind it change places? -/
def swapB (P : Program) (ops : List Oper) (x i : Nat) : Bool :=
  match ops[x]?, ops[i]? with
  | some ox, some oi => apartB ops ox oi && (clsOf P ox).swaps (clsOf P oi)
  | _, _ => true

theorem evL_swap {x i : Nat} (hs : swapB P ops x i = true) {r : List Nat} {e : Env} {h : Hp} {K : Env → Hp → Prop} (c : evL P ops (x :: i :: r) e h K) : evL P ops (i :: x :: r) e h K := by
  simp only [evL] at *
  unfold swapB at hs
  cases hx : ops[x]? with
  | none => cases hi : ops[i]? <;> simp only [hx, hi] at * <;> exact c
  | some ox =>
    cases hi : ops[i]? with
    | none => simp only [hx, hi] at *; exact c
    | some oi =>
      simp only [hx, hi, Bool.and_eq_true] at *
      obtain ⟨hap, hcl⟩ := hs
      simp only [apartB, Bool.and_eq_true] at hap
      obtain ⟨⟨hxy, hyx⟩, hd⟩ := hap
      have hne : ∀ d, ox.dst = some d → oi.dst ≠ some d := fun d h1 h2 => by simp [h1, h2] at hd
      simp only [evO_iff] at *
      have c' : (resG P ops ox e).run P h fun v h1 => (resG P ops oi e).run P h1 fun u h2 => evL P ops r (put (put e ox.dst v) oi.dst u) h2 K :=
        Res.run_mono (resG_ok _ _) (fun v h1 k => by rw [resG_put hxy] at k; exact k) c
      have hsw := swaps_pure hcl (resG_cls (P := P) (ops := ops) ox e) (resG_cls (P := P) (ops := ops) oi e)
      refine Res.run_mono (resG_ok _ _) (fun u h1 k => ?_) (Res.swap (F := fun v u h2 => evL P ops r (put (put e ox.dst v) oi.dst u) h2 K) (resG_ok _ _) (resG_ok _ _) hsw c')
      rw [resG_put hyx]
      exact Res.run_mono (resG_ok _ _) (fun v h2 k => by rw [← put_comm hne]; exact k) k

theorem evL_cons {x : Nat} {r r' : List Nat} (hr : ∀ e h K, evL P ops r e h K → evL P ops r' e h K) {e : Env} {h : Hp} {K : Env → Hp → Prop} (c : evL P ops (x :: r) e h K) : evL P ops (x :: r') e h K := by
  simp only [evL] at *
  cases hx : ops[x]? with
  | none => simp only [hx] at *; exact hr _ _ _ c
  | some o => simp only [hx] at *; exact evO_mono (fun _ _ k => hr _ _ _ k) c

theorem evL_front {i : Nat} {t2 : List Nat} : ∀ (t1 : List Nat), (∀ x ∈ t1, swapB P ops x i = true) → ∀ e h K, evL P ops (t1 ++ i :: t2) e h K → evL P ops (i :: (t1 ++ t2)) e h K
  | [], _, _, _, _, c => c
  | x :: t1, hs, e, h, K, c => by
    have ih := evL_front (i := i) (t2 := t2) t1 (fun y hy => hs y (by simp [hy]))
    exact evL_swap (hs x (by simp)) (evL_cons ih c)

/-- One order for another: whatever stands the other way round may change places. -/
theorem evL_order : ∀ (s t : List Nat), s.Perm t → s.Nodup → (∀ x i, [x, i].Sublist t → [i, x].Sublist s → swapB P ops x i = true) →
    ∀ e h K, evL P ops t e h K → evL P ops s e h K
  | [], t, hp, _, _, e, h, K, c => by rw [hp.symm.eq_nil] at c; exact c
  | i :: s, t, hp, hn, hs, e, h, K, c => by
    have hi : i ∈ t := hp.subset (by simp)
    obtain ⟨t1, t2, rfl⟩ := List.append_of_mem hi
    have hp' : s.Perm (t1 ++ t2) := (List.perm_cons i).1 (hp.trans List.perm_middle)
    have hn' := List.nodup_cons.1 hn
    have hf := evL_front (P := P) (ops := ops) (i := i) (t2 := t2) t1 (fun x hx => by
      refine hs x i ?_ ?_
      · obtain ⟨a, b, rfl⟩ := List.append_of_mem hx
        have : [x, i].Sublist (x :: (b ++ i :: t2)) := List.Sublist.cons_cons x (List.singleton_sublist.2 (by simp))
        exact this.trans (by simp)
      · have hxs : x ∈ s := hp'.symm.subset (by simp [hx])
        exact List.Sublist.cons_cons i (List.singleton_sublist.2 hxs)) e h K c
    refine evL_cons (fun e h K c => evL_order s (t1 ++ t2) hp' hn'.2 (fun x y h1 h2 => hs x y ?_ (h2.trans (List.sublist_cons_self _ _))) e h K c) hf
    exact h1.trans (by simp)

end
end Go.Fw
