/- The framework, part 9: a function's code as one formula over the heap, and that a call does what the formula says. No condition. -/
import Derived.Test.YtkiakofohkecaaaDoorFw8
namespace Go.Fw
open Go

def bigAnd : List (List Nat) → (List Nat → Prop) → Prop
  | [], _ => True
  | [t], f => f t
  | t :: r, f => f t ∧ bigAnd r f
theorem bigAnd_spec {f : List Nat → Prop} : ∀ {l : List (List Nat)}, bigAnd l f → ∀ t ∈ l, f t
  | [], _, t, ht => by simp at ht
  | [a], h, t, ht => by obtain rfl : t = a := by simpa using ht
                        exact h
  | a :: b :: r, h, t, ht => by
    rcases List.mem_cons.1 ht with rfl | ht
    · exact h.1
    · exact bigAnd_spec h.2 t ht

def evR (P : Program) (reps : List (List Nat)) (ops : List Oper) (draw : Bool) (e : Env) (h : Hp) (K : Env → Hp → Prop) : Prop :=
  match draw with
  | false => evL P ops (List.range ops.length) e h K
  | true =>
    match reps with
    | [] => (match regB P ops [List.range ops.length] with | true => evL P ops (List.range ops.length) e h K | false => False)
    | r => (match regB P ops r with | true => bigAnd r fun t => evL P ops t e h K | false => False)

def condT (v : Value) (p q : Prop) : Prop := match v with | .bool true => p | .bool false => q | _ => False

def dsts : Code → List Nat
  | .region _ ops _ => ops.toList.filterMap (·.dst)
  | .seq a b | .cond _ a b => dsts a ++ dsts b
  | .block _ b | .loop b | .scope b => dsts b
  | _ => []
/-- The first region of a piece of code: by it a loop is named. -/
def firstR : Code → Nat
  | .region id _ _ => id
  | .seq a _ => firstR a
  | .cond _ a _ => firstR a
  | .block _ b | .loop b | .scope b => firstR b
  | _ => 0

def thenQ (next : Env → Hp → Prop) (Q : Exit → Env → Hp → Prop) : Exit → Env → Hp → Prop
  | .normal, e, h => next e h
  | x, e, h => Q x e h
def inBlockQ (id : Nat) (Q : Exit → Env → Hp → Prop) : Exit → Env → Hp → Prop
  | .exit id', e, h => (match Nat.beq id' id with | true => Q .normal e h | false => Q (.exit id') e h)
  | x, e, h => Q x e h

def allV : List Nat → (Env → Prop) → Env → Prop
  | [], p, e => p e
  | d :: ds, p, e => ∀ v, allV ds p (upd e d v)
def getV (e : Env) : List Nat → List Value
  | [] => []
  | t :: r => e t :: getV e r
/-- Do all operations write below n? -/
def below (n : Nat) (c : Code) : Bool := (dsts c).all fun d => Nat.blt d n

def nubT : List Nat → List Nat
  | [] => []
  | d :: r => (match (nubT r).contains d with | true => nubT r | false => d :: nubT r)

def evC (P : Program) (ann : Nat → List Nat) (rp : Nat → List (List Nat)) : Code → Env → Hp → (Exit → Env → Hp → Prop) → Prop
  | .skip, e, h, Q => Q .normal e h
  | .region id ops draw, e, h, Q => evR P (rp id) ops.toList draw e h (Q .normal)
  | .seq x y, e, h, Q => evC P ann rp x e h (thenQ (fun e h => evC P ann rp y e h Q) Q)
  | .cond c x y, e, h, Q => condT (ev e c) (evC P ann rp x e h Q) (evC P ann rp y e h Q)
  | .block id b, e, h, Q => evC P ann rp b e h (inBlockQ id Q)
  | .loop b, e, h, Q => ∃ (I : List Value → Hp → Prop) (μ : List Value → Hp → Nat), I (getV e (ann (firstR b))) h ∧
      allV (nubT (dsts b)) (fun e => ∀ h, I (getV e (ann (firstR b))) h → evC P ann rp b e h
        (thenQ (fun e' h' => I (getV e' (ann (firstR b))) h' ∧ μ (getV e' (ann (firstR b))) h' < μ (getV e (ann (firstR b))) h) Q)) e
  | .exit id, e, h, Q => Q (.exit id) e h
  | .ret, e, h, Q => Q .ret e h
  | _, _, _, _ => False

def resT (P : Program) (e : Env) (h : Hp) : List ResultVar → Option (List Value)
  | [] => some []
  | .tmp t :: r => (resT P e h r).map fun l => e t :: l
  | .cell a t :: r => (match ldK P t with
    | some (some n) => (ldA n h (e a)).bind fun v => (resT P e h r).map fun l => v :: l
    | some none => (ldS h (e a)).bind fun v => (resT P e h r).map fun l => v :: l
    | none => none)
def packV : List Value → Value | [v] => v | l => .tuple l.toArray
def retC (P : Program) (e : Env) (h : Hp) : List ResultVar → (List Value → Prop) → Prop
  | [], K => K []
  | .tmp t :: r, K => retC P e h r fun l => K (e t :: l)
  | .cell a t :: r, K => (match ldK P t with
    | some (some n) => bnd (ldA n h (e a)) fun v => retC P e h r fun l => K (v :: l)
    | some none => bnd (ldS h (e a)) fun v => retC P e h r fun l => K (v :: l)
    | none => False)
def retQ (P : Program) (rs : List ResultVar) (R : Value → Hp → Prop) (e : Env) (h : Hp) : Prop := retC P e h rs fun l => R (packV l) h
def bodyQ (P : Program) (rs : List ResultVar) (R : Value → Hp → Prop) : Exit → Env → Hp → Prop
  | .normal, e, h | .ret, e, h => retQ P rs R e h
  | _, _, _ => False

section
variable {P : Program}

/-- The frame and the temporaries as the formula has them. -/
structure Fits (n : Nat) (a : Act) (e : Env) : Prop where
  size : a.tmps.size = n
  get : ∀ t, a.tmps.getD t undef = e t

/-- What stays as it was, while code runs. -/
structure Stay (n : Nat) (ds : List Nat) (a : Act) (e : Env) (w : World) (a' : Act) (e' : Env) (w' : World) : Prop where
  tmps : Fits n a' e'
  defers : a'.defers = a.defers
  same : same w w'
  keep : ∀ i, i ∉ ds → e' i = e i

theorem Stay.refl {n : Nat} {ds : List Nat} {a : Act} {e : Env} {w : World} (h : Fits n a e) : Stay n ds a e w a e w := ⟨h, rfl, .refl w, fun _ _ => rfl⟩
theorem Stay.trans {n : Nat} {ds ds' ds'' : List Nat} {a b c : Act} {e f g : Env} {w x y : World} (h : Stay n ds a e w b f x) (k : Stay n ds' b f x c g y) (h1 : ∀ i, i ∈ ds → i ∈ ds'') (h2 : ∀ i, i ∈ ds' → i ∈ ds'') : Stay n ds'' a e w c g y :=
  ⟨k.tmps, k.defers.trans h.defers, h.same.trans k.same, fun i hi => (k.keep i (fun h => hi (h2 i h))).trans (h.keep i (fun h => hi (h1 i h)))⟩

theorem eval_ev {n : Nat} {a : Act} {e : Env} (h : Fits n a e) (x : Operand) : a.eval x = ev e x := by
  cases x
  · exact h.get _
  all_goals rfl
theorem eval_fun {n : Nat} {a : Act} {e : Env} (h : Fits n a e) : a.eval = ev e := funext (eval_ev h)

theorem upd_same (e : Env) (d : Nat) (v : Value) : upd e d v d = v := by simp [upd]
theorem upd_other (e : Env) {d t : Nat} (v : Value) (h : t ≠ d) : upd e d v t = e t := by
  have hb : Nat.beq t d = false := by
    cases hb : Nat.beq t d
    · rfl
    · exact absurd (Nat.eq_of_beq_eq_true hb) h
  simp only [upd, hb, cond_false]

theorem put_act {n : Nat} {a : Act} {e : Env} (h : Fits n a e) (d : Option Tmp) (v : Value) (hd : ∀ t, d = some t → t < n) : Fits n (a.put d v) (put e d v) := by
  cases d with
  | none => exact h
  | some d =>
    have hlt : d < a.tmps.size := by rw [h.size]; exact hd d rfl
    refine ⟨by simp [Act.put, h.size], fun t => ?_⟩
    by_cases ht : t = d
    · subst ht
      simp [Act.put, put, upd_same, hlt]
    · rw [show put e (some d) v t = e t from upd_other e v ht, ← h.get t]
      have hne : d ≠ t := fun he => ht he.symm
      simp [Act.put, Array.getElem?_setIfInBounds_ne hne]

theorem stay_put {n : Nat} {ds : List Nat} {a : Act} {e : Env} {w w' : World} (h : Fits n a e) (hs : same w w') (d : Option Tmp) (v : Value) (hd : ∀ t, d = some t → t ∈ ds) (hn : ∀ t, d = some t → t < n) :
    Stay n ds a e w (a.put d v) (put e d v) w' := by
  refine ⟨put_act h d v hn, by cases d <;> rfl, hs, fun i hi => ?_⟩
  cases d with
  | none => rfl
  | some t => exact upd_other e v (fun he => hi (he ▸ hd t rfl))

theorem wanted_B {n : Nat} {ops : Array Oper} {a : Act} {e : Env} (h : Fits n a e) {o : Oper} {j : Nat} {b : Bool} (hg : o.guard = some (j, b)) :
    Region.wanted o (yielded ops a.tmps) = wantB ops.toList e j b := by
  unfold Region.wanted wantB yielded
  rw [hg]
  simp only [Array.getElem?_toList]
  cases hj : ops[j]? with
  | none => simp
  | some p =>
    cases hd : p.dst with
    | none => simp [hd]
    | some t =>
      have hg := h.get t
      simp only [Option.bind_some, hd, ← hg]
      cases ht : a.tmps[t]? with
      | none => simp [ht, isB, undef]
      | some v => cases v <;> simp [ht, isB]

theorem fine_upon {K : Value → Hp → Prop} {w : World} {r : Result Next} (h : Fine P K w r) {o : Oper} {a : Act} {next : Act → World → Prop} {Q : Exit → Act → World → Prop}
    (hn : ∀ v w', same w w' → K v w'.heap → next (a.put o.dst v) w') : o.upon P a next Q r := by
  unfold Fine at h
  split at h
  · exact hn _ _ h.1 h.2
  · exact hn _ _ h.1 h.2
  · refine (h.2 _ rfl).mono ?_
    rintro e w'' ⟨v, rfl, hs, k⟩
    exact hn _ _ (h.1.trans hs) k
  · exact h.elim

theorem evL_sound {n : Nat} {ops : Array Oper} {ds : List Nat} (hds : ∀ o ∈ ops.toList, ∀ t, o.dst = some t → t ∈ ds) (hn : ∀ t ∈ ds, t < n) {Q : Exit → Act → World → Prop} {K : Env → Hp → Prop} :
    ∀ (l : List Nat) (a : Act) (e : Env) (w : World), Fits n a e → evL P ops.toList l e w.heap K →
      (∀ a' e' w', Stay n ds a e w a' e' w' → K e' w'.heap → Q .normal a' w') → wpOps P ops Q l a w
  | [], a, e, w, ht, hk, hQ => hQ a e w (.refl ht) hk
  | i :: r, a, e, w, ht, hk, hQ => by
    simp only [evL, Array.getElem?_toList] at hk
    simp only [wpOps]
    cases ho : ops[i]? with
    | none => simp only [ho] at hk ⊢; exact evL_sound hds hn r a e w ht hk hQ
    | some o =>
      simp only [ho] at hk ⊢
      have hd : ∀ t, o.dst = some t → t ∈ ds := hds o (by simpa using Array.mem_of_getElem? ho)
      have next : ∀ v w', same w w' → evL P ops.toList r (put e o.dst v) w'.heap K → wpOps P ops Q r (a.put o.dst v) w' := fun v w' hs k =>
        evL_sound hds hn r (a.put o.dst v) (put e o.dst v) w' (put_act ht _ _ (fun t h => hn t (hd t h))) k fun a' e' w'' st k' =>
          hQ a' e' w'' ((stay_put ht hs o.dst v hd (fun t h => hn t (hd t h))).trans st (fun _ h => h) (fun _ h => h)) k'
      unfold evO at hk
      cases hg : o.guard with
      | none =>
        simp only [hg] at hk
        rw [if_pos (by simp [Region.wanted, hg])]
        refine .inl ?_
        unfold Oper.wp
        rw [eval_fun ht]
        exact fine_upon (res_fine hk) next
      | some jb =>
        obtain ⟨j, b⟩ := jb
        simp only [hg] at hk
        rw [wanted_B ht hg]
        rw [Res.runG_iff] at hk
        cases hw : wantB ops.toList e j b with
        | true =>
          rw [hw] at hk
          rw [if_pos rfl]
          refine .inl ?_
          unfold Oper.wp
          rw [eval_fun ht]
          exact fine_upon (res_fine hk) next
        | false =>
          rw [hw] at hk
          rw [if_neg (by simp)]
          exact next undef w (.refl w) hk

theorem mem_nub {d : Nat} : ∀ {l : List Nat}, d ∈ l → d ∈ nubT l
  | c :: l, h => by
    unfold nubT
    rcases List.mem_cons.1 h with rfl | h
    · split
      · rename_i hc; simpa using hc
      · simp
    · have := mem_nub h
      split
      · exact this
      · simp [this]
theorem nub_mem {d : Nat} : ∀ {l : List Nat}, d ∈ nubT l → d ∈ l
  | [], h => by simp [nubT] at h
  | c :: l, h => by
    unfold nubT at h
    split at h
    · exact List.mem_cons_of_mem _ (nub_mem h)
    · rcases List.mem_cons.1 h with rfl | h
      · simp
      · exact List.mem_cons_of_mem _ (nub_mem h)

theorem allV_spec {p : Env → Prop} : ∀ {ds : List Nat} {e : Env}, allV ds p e → ∀ e' : Env, (∀ i, i ∉ ds → e' i = e i) → p e'
  | [], e, h, e', hk => by
    have : e' = e := funext fun i => hk i (by simp)
    rw [this]; exact h
  | d :: ds, e, h, e', hk => by
    refine allV_spec (h (e' d)) e' fun i hi => ?_
    by_cases hid : i = d
    · subst hid; rw [upd_same]
    · rw [upd_other e _ hid]
      exact hk i (by simp [hid, hi])

theorem evC_sound (hm : P.follows .mixedOrders = true) {ann : Nat → List Nat} {rp : Nat → List (List Nat)} {n : Nat} : ∀ (c : Code) (_ : ∀ t ∈ dsts c, t < n) (a : Act) (e : Env) (w : World) (Q : Exit → Env → Hp → Prop), Fits n a e →
    evC P ann rp c e w.heap Q → c.wp P (fun x a' w' => ∃ e', Stay n (dsts c) a e w a' e' w' ∧ Q x e' w'.heap) a w := by
  intro c
  induction c with
  | skip => exact fun _ a e w Q ht h => wp_skip ⟨e, .refl ht, h⟩
  | region id ops draw =>
    intro hn a e w Q ht h
    have hds : ∀ o ∈ ops.toList, ∀ t, o.dst = some t → t ∈ dsts (.region id ops draw) := fun o ho t hd => List.mem_filterMap.2 ⟨o, ho, hd⟩
    simp only [evC, evR] at h
    cases draw with
    | false =>
      simp only at h
      refine wp_region ?_
      rw [← Array.length_toList]
      exact evL_sound hds hn _ a e w ht h fun a' e' w' st k => ⟨e', st, k⟩
    | true =>
      have go : ∀ reps, regB P ops.toList reps = true → (∀ t ∈ reps, evL P ops.toList t e w.heap (Q .normal)) → (Code.region id ops true).wp P (fun x a' w' => ∃ e', Stay n (dsts (.region id ops true)) a e w a' e' w' ∧ Q x e' w'.heap) a w := fun reps hr hall => by
        refine wp_region_draw fun t => ?_
        have hlin : Lin ops (Array.replicate ops.size false) (Region.linearise.go .any ops ops.size t (Array.replicate ops.size false) []) := lin_go _ _ _ (by simp [unl])
        have hs := regB_spec hr hlin hall
        simp only [Region.schedule, hm, Bool.true_or, if_true, Region.linearise]
        refine evL_sound hds hn _ a e { w with drawn := w.drawn + 1 } ht hs fun a' e' w' st k => ⟨e', ?_, k⟩
        exact ⟨st.tmps, st.defers, st.same, st.keep⟩
      simp only at h
      split at h
      · split at h
        · rename_i hr
          exact go _ hr (fun t ht' => by obtain rfl : t = List.range ops.toList.length := by simpa using ht'
                                         exact h)
        · exact h.elim
      · split at h
        · rename_i hr
          exact go _ hr (bigAnd_spec h)
        · exact h.elim
  | seq x y ihx ihy =>
    intro hn a e w Q ht h
    refine wp_seq (wp_mono (ihx (fun t h => hn t (by simp [dsts, h])) a e w _ ht h) ?_)
    rintro ex a' w' ⟨e', st, k⟩
    cases ex with
    | normal =>
      refine wp_mono (ihy (fun t h => hn t (by simp [dsts, h])) a' e' w' Q st.tmps k) ?_
      rintro ex a'' w'' ⟨e'', st', k'⟩
      exact ⟨e'', st.trans st' (fun _ h => by simp [dsts, h]) (fun _ h => by simp [dsts, h]), k'⟩
    | _ => exact ⟨e', ⟨st.tmps, st.defers, st.same, fun i hi => st.keep i (fun h => hi (by simp [dsts, h]))⟩, k⟩
  | cond c x y ihx ihy =>
    intro hn a e w Q ht h
    simp only [evC, condT] at h
    have wk : ∀ (z : Code) (_ : ∀ t, t ∈ dsts z → t ∈ dsts (.cond c x y)), z.wp P (fun x a' w' => ∃ e', Stay n (dsts z) a e w a' e' w' ∧ Q x e' w'.heap) a w → z.wp P (fun ex a' w' => ∃ e', Stay n (dsts (.cond c x y)) a e w a' e' w' ∧ Q ex e' w'.heap) a w := fun z hz hw =>
      wp_mono hw fun ex a' w' ⟨e', st, k⟩ => ⟨e', ⟨st.tmps, st.defers, st.same, fun i hi => st.keep i (fun h => hi (hz i h))⟩, k⟩
    split at h
    · rename_i hc
      exact wp_cond_true ((eval_ev ht c).trans hc) (wk x (fun t h => by simp [dsts, h]) (ihx (fun t h => hn t (by simp [dsts, h])) a e w Q ht h))
    · rename_i hc
      exact wp_cond_false ((eval_ev ht c).trans hc) (wk y (fun t h => by simp [dsts, h]) (ihy (fun t h => hn t (by simp [dsts, h])) a e w Q ht h))
    · exact h.elim
  | block id b ih =>
    intro hn a e w Q ht h
    refine wp_block (wp_mono (ih hn a e w _ ht h) ?_)
    rintro ex a' w' ⟨e', st, k⟩
    cases ex with
    | exit id' =>
      simp only [inBlockQ] at k
      simp only [Exit.inBlock]
      split at k
      · rename_i hb; rw [if_pos (Nat.eq_of_beq_eq_true hb)]; exact ⟨e', st, k⟩
      · rename_i hb
        rw [if_neg (fun he => by rw [he] at hb; rw [Nat.beq_refl] at hb; cases hb)]
        exact ⟨e', st, k⟩
    | _ => exact ⟨e', st, k⟩
  | loop b ih =>
    intro hn a e w Q ht h
    obtain ⟨I, μ, h0, hall⟩ := h
    have gv : ∀ (a : Act) (e : Env), Fits n a e → ∀ l, getV (fun t => a.tmps.getD t undef) l = getV e l := fun a e hf l => by rw [funext hf.get]
    refine wp_loop (fun a' w' => ∃ e', Stay n (dsts b) a e w a' e' w' ∧ I (getV e' (ann (firstR b))) w'.heap) (fun a' w' => μ (getV (fun t => a'.tmps.getD t undef) (ann (firstR b))) w'.heap) ⟨e, .refl ht, h0⟩ ?_
    rintro a1 w1 ⟨e1, st1, hI⟩
    have hb := allV_spec hall e1 (fun i hi => st1.keep i (fun hm => hi (mem_nub hm))) w1.heap hI
    refine wp_mono (ih hn a1 e1 w1 _ st1.tmps hb) ?_
    rintro ex a2 w2 ⟨e2, st2, k⟩
    have st := st1.trans (ds'' := dsts b) st2 (fun _ h => h) (fun _ h => h)
    cases ex with
    | normal =>
      obtain ⟨k1, k2⟩ := k
      refine ⟨⟨e2, st, k1⟩, ?_⟩
      rw [gv a2 e2 st2.tmps, gv a1 e1 st1.tmps]
      exact k2
    | _ => exact ⟨e2, st, k⟩
  | rangeFunc f ps as b iha ihb => exact fun _ a e w Q ht h => h.elim
  | exit id => exact fun _ a e w Q ht h => wp_exit ⟨e, .refl ht, h⟩
  | scope b ih => exact fun _ a e w Q ht h => h.elim
  | label l => exact fun _ a e w Q ht h => h.elim
  | goto l => exact fun _ a e w Q ht h => h.elim
  | ret => exact fun _ a e w Q ht h => wp_ret ⟨e, .refl ht, h⟩
  | refuse why => exact fun _ a e w Q ht h => h.elim

def resF (tmps : Array Value) : ResultVar → Sem Value
  | .tmp t => pure (tmps.getD t undef)
  | .cell x t => do loadVar t (← asAddr (tmps.getD x undef))

theorem resT_run {n : Nat} {e : Env} {a : Act} (ht : Fits n a e) {w : World} : ∀ {rs : List ResultVar} {l : List Value}, resT P e w.heap rs = some l →
    (rs.mapM (resF a.tmps)).run P w = .ok l w
  | [], l, h => by simp [resT] at h; subst h; simp
  | .tmp t :: r, l, h => by
    simp only [resT, Option.map_eq_some_iff] at h
    obtain ⟨l', hl, rfl⟩ := h
    simp only [List.mapM_cons, Sem.run_bind, resF, Sem.run_pure, Result.andThen_ok, resT_run ht hl, ht.get]
  | .cell x t :: r, l, h => by
    have hx : a.tmps.getD x undef = e x := ht.get x
    simp only [resT] at h
    have addr : ∀ {v u : Value}, (Instr.loadAt t v).run P w = .ok u w → (do loadVar t (← asAddr v) : Sem Value).run P w = .ok u w := fun {v u} hv => by
      unfold Instr.loadAt Instr.sureAddr at hv
      cases v <;> simp at hv
      rename_i p
      cases p <;> simp at hv
      simpa [asAddr] using hv
    split at h
    · rename_i n hk
      simp only [Option.bind_eq_some_iff, Option.map_eq_some_iff] at h
      obtain ⟨v, hv, l', hl, rfl⟩ := h
      simp only [List.mapM_cons, resF, hx]
      rw [Sem.run_bind, addr (run_ldA hk hv)]
      simp only [Result.andThen_ok, Sem.run_bind, resT_run ht hl, Sem.run_pure]
    · rename_i hk
      simp only [Option.bind_eq_some_iff, Option.map_eq_some_iff] at h
      obtain ⟨v, hv, l', hl, rfl⟩ := h
      simp only [List.mapM_cons, resF, hx]
      rw [Sem.run_bind, addr (run_ldS hk hv)]
      simp only [Result.andThen_ok, Sem.run_bind, resT_run ht hl, Sem.run_pure]
    · simp at h

theorem retC_resT {e : Env} {h : Hp} : ∀ {rs : List ResultVar} {K : List Value → Prop}, retC P e h rs K → ∃ l, resT P e h rs = some l ∧ K l
  | [], K, k => ⟨[], rfl, k⟩
  | .tmp t :: r, K, k => by
    obtain ⟨l, h1, h2⟩ := retC_resT (rs := r) k
    exact ⟨_, by simp [resT, h1], h2⟩
  | .cell a t :: r, K, k => by
    simp only [retC] at k
    simp only [resT]
    split at k
    · obtain ⟨v, hv, k⟩ := k
      obtain ⟨l, h1, h2⟩ := retC_resT (rs := r) k
      exact ⟨v :: l, by simp only [hv, h1, Option.bind_some, Option.map_some], h2⟩
    · obtain ⟨v, hv, k⟩ := k
      obtain ⟨l, h1, h2⟩ := retC_resT (rs := r) k
      exact ⟨v :: l, by simp only [hv, h1, Option.bind_some, Option.map_some], h2⟩
    · exact k.elim
theorem retQ_resT {rs : List ResultVar} {R : Value → Hp → Prop} {e : Env} {h : Hp} (k : retQ P rs R e h) : ∃ l, resT P e h rs = some l ∧ R (packV l) h := retC_resT k

theorem results_run {n : Nat} {fn : Func} {R : Value → Hp → Prop} {e : Env} {a : Act} (ht : Fits n a e) {w : World} (k : retQ P fn.results.toList R e w.heap) :
    ∃ v, (results fn a.tmps).run P w = .ok v w ∧ R v w.heap := by
  obtain ⟨l, h1, h2⟩ := retQ_resT k
  have hr := resT_run ht h1
  refine ⟨packV l, ?_, h2⟩
  have hres : results fn a.tmps = (do let vs ← fn.results.mapM (resF a.tmps); pure (if h : vs.size = 1 then vs[0] else .tuple vs)) := rfl
  have hm : (fn.results.mapM (resF a.tmps)).run P w = .ok l.toArray w := by
    rw [Array.mapM_eq_mapM_toList, Sem.run_map, hr]; rfl
  rw [hres, Sem.run_bind, hm]
  simp only [Result.andThen_ok, Sem.run_pure]
  congr 1
  match l with
  | [] => rfl
  | [v] => rfl
  | v :: u :: r => simp [packV]

/-- The temporaries at a call's begin. -/
def env0 : List Value → Env
  | [], _ => undef
  | v :: _, 0 => v
  | _ :: r, t + 1 => env0 r t
theorem env0_get : ∀ (l : List Value) (n t : Nat), (l ++ List.replicate n undef).getD t undef = env0 l t
  | [], n, t => by
    simp only [List.nil_append, env0, List.getD_eq_getElem?_getD, List.getElem?_replicate]
    split <;> rfl
  | v :: r, n, 0 => rfl
  | v :: r, n, t + 1 => env0_get r n t

/-- **A CALL DOES WHAT THE FORMULA SAYS.** -/
theorem calls_of_evC {f : FuncId} {fn : Func} {c : Code} {args : List Value} {h : Hp} {R : Value → Hp → Prop} (ann : Nat → List Nat) (rp : Nat → List (List Nat)) (hm : P.follows .mixedOrders = true)
    (hf : P.funcs[f]? = some fn) (hb : fn.body = some c) (hn : below fn.ntmps c = true) (hl : Nat.ble args.length fn.ntmps = true) (k : evC P ann rp c (env0 args) h (bodyQ P fn.results.toList R)) : CallsH P f args.toArray h R := by
  intro w hw
  subst hw
  refine calls_of_wp hf hb ?_
  have hl := Nat.le_of_ble_eq_true hl
  have ht : Fits fn.ntmps { tmps := args.toArray ++ Array.replicate (fn.ntmps - args.toArray.size) undef, defers := [] } (env0 args) := by
    refine ⟨by simp; omega, fun t => ?_⟩
    rw [← env0_get args (fn.ntmps - args.length) t]
    have e : (args.toArray ++ Array.replicate (fn.ntmps - args.toArray.size) undef) = (args ++ List.replicate (fn.ntmps - args.length) undef).toArray := by simp
    rw [e]
    simp
  refine wp_mono (evC_sound hm c (fun t h => by have := (List.all_eq_true.1 hn) t h; rwa [Nat.blt_eq] at this) _ _ w _ ht k) ?_
  rintro ex a' w' ⟨e', st, k'⟩
  cases ex with
  | normal =>
    obtain ⟨v, hv, hR⟩ := results_run (fn := fn) st.tmps k'
    exact ⟨st.defers, v, hv, v, rfl, st.same, hR⟩
  | ret =>
    obtain ⟨v, hv, hR⟩ := results_run (fn := fn) st.tmps k'
    exact ⟨st.defers, v, hv, v, rfl, st.same, hR⟩
  | _ => exact k'.elim

end
attribute [irreducible] evC
end Go.Fw
