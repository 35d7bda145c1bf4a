/- PathsHeap: what one pop does to one side's state. No condition but that the state is as told. -/
import Derived.Test.YtkiakofohkecaaaHx13
namespace Go.Proofs.Ytkiakofohkecaaa
open Go Go.Fw

theorem when_inj {ws : List Item} (hS : ws.Pairwise (fun a b => a.when < b.when)) {i j : Nat} (hi : i < ws.length) (hj : j < ws.length) (e : ws[i].when = ws[j].when) : i = j := by
  have h := List.pairwise_iff_getElem.1 hS
  rcases Nat.lt_trichotomy i j with h1 | h1 | h1
  · have := h i j hi hj h1; omega
  · exact h1
  · have := h j i hj hi h1; omega

/-- The heap's root is the first in the list. -/
theorem first_root {sd : Bool} {x : Item} {rest ws : List Item} (hP : (x :: rest).Perm ws) (hO : HeapOk (aheadB (ltSide sd)) (x :: rest)) (hS : ws.Pairwise (fun a b => a.when < b.when)) {k : Int} (hF : FirstTo sd ws ws.length k) :
    ∃ m : Nat, k = m ∧ ∃ hm : m < ws.length, ws[m] = x := by
  rcases hF with ⟨h0, _⟩ | ⟨m, rfl, hm, hmin, hst⟩
  · have := hP.length_eq; simp at this; omega
  · refine ⟨m, rfl, hm, ?_⟩
    obtain ⟨j, hj, hx⟩ := List.getElem_of_mem (hP.mem_iff.1 (show x ∈ x :: rest by simp))
    obtain ⟨l, hl, hy⟩ := List.getElem_of_mem (hP.mem_iff.2 (show ws[m] ∈ ws by simp))
    have h1 := root_first (ordSide sd) hO l hl
    rw [nth_get hl, nth_get (by simp), hy] at h1
    simp only [List.getElem_cons_zero] at h1
    have h2 := hmin j hj
    rw [nth_get hj, nth_get hm, hx] at h2
    have h3 : j < m → ltSide sd ws[m] x = true := fun h => by
      have := hst j h
      rwa [nth_get hj, nth_get hm, hx] at this
    have hpw := List.pairwise_iff_getElem.1 hS
    have hjm : j = m := by
      rcases Nat.lt_trichotomy j m with h | h | h
      · have h4 := h3 h
        simp [aheadB, h4] at h1
      · exact h
      · have h4 := hpw m j hm hj h
        rw [hx] at h4
        simp [aheadB, h4, h2] at h1
    subst hjm
    exact hx

theorem erase_perm {ws : List Item} {m : Nat} (hm : m < ws.length) : (ws[m] :: (ws.take m ++ ws.drop (m + 1))).Perm ws := by
  have e : ws = ws.take m ++ (ws[m] :: ws.drop (m + 1)) := by rw [← List.drop_eq_getElem_cons hm, List.take_append_drop]
  exact List.perm_middle.symm.trans (.of_eq e.symm)

theorem jn_eq (sd : Bool) : binE .eql (.int .i64 (jn sd : Nat)) (.int .i64 1) = some (.bool sd) := by cases sd <;> rfl
theorem fill_none : (fillS [(0, 1), (1, 1)] #[(.int .i64 0), (.int .i64 0)] []).map Value.agg = some (.agg #[.int .i64 0, .int .i64 0]) := by kernel_rfl

/-- A pop on one side, held against the list of that side, and the list cut. -/
def popF (p q : Nat) (sd : Bool) (hj : Hp) (R : Value → Hp → Prop) (K : Hp → Prop) : Prop :=
  CallsH Try.prog 10 #[.pointer (some ⟨p, 0, none⟩)] hj fun t58_1 h_19 =>
  bnd (extE 0 t58_1) fun t59_1 =>
  bnd (extE 1 t58_1) fun t60_1 =>
  nw h_19 #[(.int .i64 0), (.int .i64 0)] 26 ptr0 fun t10_1 h_20 =>
  bnd (stE 2 h_20 t10_1 t59_1) fun h_21 =>
  bnd (idxA 2 1 (.pointer (some ⟨q, 0, none⟩)) (.int .i64 (jn sd : Nat))) fun t62_1 =>
  bnd (ldS h_21 t62_1) fun t63_1 =>
  bnd (binE .eql (.int .i64 (jn sd : Nat)) (.int .i64 1)) fun t65_1 =>
  CallsH Try.prog 11 #[t63_1, t65_1] h_21 fun t66_1 h_22 =>
  bnd (binE .geq t66_1 (.int .i64 0)) fun t69_1 =>
  bnd (binB .neq t60_1 t69_1) fun t70_1 =>
  bnd (bif isB t70_1 false then binE .lss (bif isB t70_1 false then t66_1 else undef) (.int .i64 0) else some undef) fun t73_1 =>
  bnd (bif isB (bif isB t70_1 false then t73_1 else undef) true then ldA 2 h_22 t10_1 else some undef) fun t75_1 =>
  bnd (bif isB (bif isB t70_1 false then t73_1 else undef) true then (fillS [(0, 1), (1, 1)] #[(.int .i64 0), (.int .i64 0)] []).map .agg else some undef) fun t76_1 =>
  guardT (isB (bif isB t70_1 false then t73_1 else undef) true) (fun K => prS Try.prog (binS .neq 26 (.tmp 75) (.tmp 76) t75_1 t76_1) fun v => K v h_22) h_22 fun t77_1 h_23 =>
  bnd (bif isB t70_1 false then ((asB (bif isB t70_1 false then t73_1 else undef)).map fun t => bif t then t77_1 else (.bool false)) else some undef) fun t78_1 =>
  bnd ((asB t70_1).map fun t => bif t then (.bool true) else t78_1) fun t79_1 =>
  bnd (bif isB t79_1 false then binE .geq (bif isB t79_1 false then t66_1 else undef) (.int .i64 0) else some undef) fun t82_1 =>
  bnd (bif isB (bif isB t79_1 false then t82_1 else undef) true then ldA 2 h_23 t10_1 else some undef) fun t84_1 =>
  bnd (bif isB (bif isB t79_1 false then t82_1 else undef) true then idxA 2 1 (.pointer (some ⟨q, 0, none⟩)) (bif isB (bif isB t79_1 false then t82_1 else undef) true then (.int .i64 (jn sd : Nat)) else undef) else some undef) fun t86_1 =>
  bnd (bif isB (bif isB t79_1 false then t82_1 else undef) true then ldS h_23 t86_1 else some undef) fun t87_1 =>
  bnd (bif isB (bif isB t79_1 false then t82_1 else undef) true then idxE 2 t87_1 (bif isB (bif isB t79_1 false then t82_1 else undef) true then t66_1 else undef) else some undef) fun t89_1 =>
  bnd (bif isB (bif isB t79_1 false then t82_1 else undef) true then ldA 2 h_23 t89_1 else some undef) fun t90_1 =>
  guardT (isB (bif isB t79_1 false then t82_1 else undef) true) (fun K => prS Try.prog (binS .neq 26 (.tmp 84) (.tmp 90) t84_1 t90_1) fun v => K v h_23) h_23 fun t91_1 h_24 =>
  bnd (bif isB t79_1 false then ((asB (bif isB t79_1 false then t82_1 else undef)).map fun t => bif t then t91_1 else (.bool false)) else some undef) fun t92_1 =>
  bnd ((asB t79_1).map fun t => bif t then (.bool true) else t92_1) fun t93_1 =>
  condT t93_1 (
  R (.bool false) h_24) (
  bnd (binE .geq t66_1 (.int .i64 0)) fun t95_1 =>
  condT t95_1 (
  bnd (idxA 2 1 (.pointer (some ⟨q, 0, none⟩)) (.int .i64 (jn sd : Nat))) fun t98_1 =>
  bnd (ldS h_24 t98_1) fun t99_1 =>
  bnd (sliceE 2 t99_1 none (some t66_1)) fun t101_1 =>
  efS Try.prog (Go.Builtin.append_ #[28, 28] 28 #[(.slice none 0 0), t101_1]) h_24 fun t102_1 h_25 =>
  bnd (idxA 2 1 (.pointer (some ⟨q, 0, none⟩)) (.int .i64 (jn sd : Nat))) fun t106_1 =>
  bnd (ldS h_25 t106_1) fun t107_1 =>
  bnd (binE .add t66_1 (.int .i64 1)) fun t109_1 =>
  bnd (sliceE 2 t107_1 (some t109_1) none) fun t110_1 =>
  efS Try.prog (Go.Builtin.append_ #[28, 28] 28 #[t102_1, t110_1]) h_25 fun t111_1 h_26 =>
  bnd (idxA 2 1 (.pointer (some ⟨q, 0, none⟩)) (.int .i64 (jn sd : Nat))) fun t112_1 =>
  bnd (stE 1 h_26 t112_1 t111_1) fun h_27 => K h_27) (
  K h_24))

theorem enc2_one (ws : List Item) : ∀ x ∈ ws.map Item.enc2, ∀ u ∈ x, u.oneCell' = true := by
  intro x hx u hu
  obtain ⟨y, _, rfl⟩ := List.mem_map.1 hx
  simp [Item.enc2] at hu
  rcases hu with rfl | rfl <;> rfl

theorem pop_step {h : Hp} {sd : Bool} {p q : Nat} {v u : Value} {N n : Nat} {S : List Nat} (s : Side h sd p v N n S) (hN : N ≤ 1048576) (hq : h[q]? = some (.cells (two sd v u) 29 (0, 0))) (hqS : q ∉ S) {R : Value → Hp → Prop} {K : Hp → Prop}
    (hK : ∀ h' v' n' S', Side h' sd p v' N n' S' → h'[q]? = some (.cells (two sd v' u) 29 (0, 0)) → Fr h h' (q :: S) → (∀ b ∈ S', b ∈ S ∨ h.size ≤ b) → K h') : popF p q sd h R K := by
  obtain ⟨its, ck, bl, ws, ol, rfl, ⟨hd1, hd2, hd3⟩, H, O, hP, hO, hS, hB, hc0, hcN, hn, hnN⟩ := s
  have hlts := H.lt
  have hlq := lt_of_get hq
  have hlo := O.lt
  simp only [List.mem_cons, List.mem_append, not_or] at hqS
  unfold popF
  refine pop_spec (L := []) (lessOk sd) (by simp [Has]) (by simp) (by simp) H (by rw [hP.length_eq]; omega) (fun h19 hi f19 => ?_) (fun h19 b cap x rest hi hb H19 f19 => ?_)
  · subst hi
    obtain rfl : ws = [] := List.eq_nil_of_length_eq_zero (by have := hP.length_eq; simp at this; exact this.symm ▸ rfl)
    have g20 := get_new h19 (.cells #[.int .i64 0, .int .i64 0] 26 (0, 0))
    have e21 : stE 2 (h19.push (.cells #[.int .i64 0, .int .i64 0] 26 (0, 0))) (.pointer (some ⟨h19.size, 0, none⟩)) (.agg #[.int .i64 0, .int .i64 0]) = some ((h19.push (.cells #[.int .i64 0, .int .i64 0] 26 (0, 0))).setIfInBounds h19.size (.cells #[.int .i64 0, .int .i64 0] 26 (0, 0))) := by
      rw [stE_at _ g20]; simp [splice]
    have f21 := ((Fr.refl h19 []).new (.cells #[.int .i64 0, .int .i64 0] 26 (0, 0))).set_new (Nat.le_refl _) (.cells #[.int .i64 0, .int .i64 0] 26 (0, 0))
    have g21 := get_set (o' := .cells #[.int .i64 0, .int .i64 0] 26 (0, 0)) g20
    simp only [extE_tuple, List.getElem?_toArray, List.getElem?_cons_succ, List.getElem?_cons_zero, bnd_some, nw_eq, ptr0_eq, e21]
    generalize h19.size = q10 at *
    generalize (h19.push (.cells #[.int .i64 0, .int .i64 0] 26 (0, 0))).setIfInBounds q10 (.cells #[.int .i64 0, .int .i64 0] 26 (0, 0)) = h21 at *
    have f0 := f19.then f21
    have q21 := f0.get hq (by simp)
    simp only [two_idx, bnd_some, ldS_at q21, two_at, jn_eq]
    refine first_spec (ws := []) (O.fr f0 (by simp)).rowv sd (by simp) fun k hF => ?_
    obtain rfl : k = -1 := by
      rcases hF with ⟨_, rfl⟩ | ⟨m, rfl, hm, _⟩
      · rfl
      · simp at hm
    have key := hK h21 v n _ ⟨[], ck, bl, [], ol, rfl, ⟨hd1, hd2, hd3⟩, H.fr f0 (by simp) (by simp), O.fr f0 (by simp), hP, hO, hS, hB, hc0, hcN, hn, hnN⟩ q21 (f0.mono (by simp)) (fun b hb => .inl hb)
    have en : ∀ {K : Value → Prop}, K (.bool false) → prS Try.prog (binS .neq 26 (.tmp 75) (.tmp 76) (.agg #[.int .i64 0, .int .i64 0]) (.agg #[.int .i64 0, .int .i64 0])) K := fun hK => entry_neq _ _ 0 0 0 0 (by simpa using hK)
    simp [isB_undef, ldA_at g21, fill_none]
    refine en ?_
    simpa [isB_undef] using key
  · subst hi hb
    have hlb := hlts.2 b (by simp)
    have g20 := get_new h19 (.cells #[.int .i64 0, .int .i64 0] 26 (0, 0))
    have e21 : stE 2 (h19.push (.cells #[.int .i64 0, .int .i64 0] 26 (0, 0))) (.pointer (some ⟨h19.size, 0, none⟩)) (.agg #[.int .i64 x.key, .int .i64 x.tag]) = some ((h19.push (.cells #[.int .i64 0, .int .i64 0] 26 (0, 0))).setIfInBounds h19.size (.cells #[.int .i64 x.key, .int .i64 x.tag] 26 (0, 0))) := by
      rw [stE_at _ g20]; simp [splice]
    have f21 := ((Fr.refl h19 []).new (.cells #[.int .i64 0, .int .i64 0] 26 (0, 0))).set_new (Nat.le_refl _) (.cells #[.int .i64 x.key, .int .i64 x.tag] 26 (0, 0))
    have g21 := get_set (o' := .cells #[.int .i64 x.key, .int .i64 x.tag] 26 (0, 0)) g20
    have hsz19 := f19.size
    simp only [extE_tuple, List.getElem?_toArray, List.getElem?_cons_succ, List.getElem?_cons_zero, bnd_some, nw_eq, ptr0_eq, e21]
    generalize hq10 : h19.size = q10 at *
    generalize (h19.push (.cells #[.int .i64 0, .int .i64 0] 26 (0, 0))).setIfInBounds q10 (.cells #[.int .i64 x.key, .int .i64 x.tag] 26 (0, 0)) = h21 at *
    have f0 : Fr h h21 [p, b] := f19.trans f21 (fun _ _ hc => hc) (fun _ _ hc => by simp at hc)
    have q21 := f0.get hq (by simp at hqS ⊢; exact ⟨hqS.1, hqS.2.1⟩)
    have O21 := O.fr f0 (fun c hc => by simp; exact ⟨fun e => hd2 (e ▸ hc), fun e => hd3 b (by simp) (e ▸ hc)⟩)
    have H21 : HeapE h21 p (lessOf sd) _ ck [b] := HeapE.fr (.inr ⟨b, cap, rfl, H19⟩) f21 (by simp) (by simp)
    simp only [two_idx, bnd_some, ldS_at q21, two_at, jn_eq]
    refine first_spec O21.rowv sd (by omega) fun k hF => ?_
    obtain ⟨m, rfl, hm, hx⟩ := first_root hP hO hS hF
    obtain ⟨eb, eo, ee, _, er⟩ := O21.rowv.get (i := m) (x := x.enc2) (by rw [List.getElem?_map, List.getElem?_eq_getElem hm, hx]; rfl) .i64
    have er1 := (er h21 (Fr.refl _ _)).2
    have er2 : ldA 2 h21 (.pointer (some ⟨eb, eo, none⟩)) = some (.agg #[.int .i64 x.key, .int .i64 x.tag]) := er1
    have hm0 : ¬ ((m : Int) < 0) := by omega
    have hml : m < (ws.map Item.enc2).length := by simpa using hm
    obtain ⟨ob, ocap, hob, efr, sfr⟩ := O21.front hml
    obtain ⟨ob', oo, ocap', hob', ebe, sbe⟩ := O21.behind hml
    have w1 : IntKind.i64.wrap ((m : Int) + 1) = ((m + 1 : Nat) : Int) := by rw [wrap_id (by omega) (by omega)]; omega
    have en : ∀ {K : Value → Prop}, K (.bool false) → prS Try.prog (binS .neq 26 (.tmp 84) (.tmp 90) (.agg #[.int .i64 x.key, .int .i64 x.tag]) (.agg #[.int .i64 x.key, .int .i64 x.tag])) K := fun hK => entry_neq _ _ _ _ _ _ (by simpa using hK)
    have hj2 : ((jn sd : Nat) : Int) < 2 := by cases sd <;> simp [jn]
    simp [isB_undef, ldA_at g21, hm0, two_idx, ldS_at q21, two_at, ee, er2, hj2]
    refine en ?_
    simp only [bnd_some, condT_bool, Bool.false_eq_true, if_false, if_true, Option.map_some, asB_bool, cond_false, efr]
    refine own_app elem28 (OwnS.nil h21 26 2) sfr (fun y hy => enc2_one ws y (List.mem_of_mem_take hy)) (by simp; omega) (by simp; omega) fun h25 v1 bl1 O25 f25 hf25 => ?_
    have q25 := f25.get q21 (by simp)
    have sbe' := sbe.fr f25 (by simp)
    simp only [bnd_some, ldS_at q25, two_at, bin_add, w1, ebe]
    refine own_app elem28 O25 sbe' (fun y hy => enc2_one ws y (List.mem_of_mem_drop hy)) (by simp; omega) (by simp; omega) fun h26 v2 bl2 O26 f26 hf26 => ?_
    have hsz21 := f0.size
    have hsz25 := f25.size
    have hbl1 : ∀ c ∈ bl1, h.size ≤ c := fun c hc => by
      rcases hf25 c hc with h | h
      · simp at h
      · omega
    have hbl2 : ∀ c ∈ bl2, h.size ≤ c := fun c hc => by
      rcases hf26 c hc with h | h
      · exact hbl1 c h
      · omega
    have q26 := f26.get q25 (fun hm => by have := hbl1 _ hm; omega)
    simp only [two_st q26 O26.one O26.cells, bnd_some]
    have f27 : Fr h26 _ [q] := Fr.set h26 q (.cells (two sd v2 u) 29 (0, 0)) (fun _ => by simp) (by rw [q26]; rfl)
    have q27 := get_set (o' := .cells (two sd v2 u) 29 (0, 0)) q26
    have hpb : p ∉ [b] := by simpa using hd1
    refine hK _ v2 (ws.take m ++ ws.drop (m + 1)).length (p :: ([b] ++ bl2)) ⟨_, ck, [b], ws.take m ++ ws.drop (m + 1), bl2, rfl, ⟨hpb, fun hm => by have := hbl2 _ hm; omega, fun c hc hm => ?_⟩, ?_, ?_, ?_, pop_ok (ordSide sd) hO, ?_, ?_, hc0, hcN, rfl, ?_⟩ q27 ?_ ?_
    · obtain rfl : c = b := by simpa using hc
      have := hbl2 _ hm; omega
    · refine ((H21.fr f25 (by simp) (by simp)).fr f26 (fun hm => by have := hbl1 _ hm; omega) (fun c hc hm => ?_)).fr f27 (by simp; exact fun e => hqS.1 e.symm) (by simp; simp at hqS; exact fun e => hqS.2.1 e.symm)
      obtain rfl : c = b := by simpa using hc
      have := hbl1 _ hm; omega
    · have := O26.fr f27 (fun c hc => by simp; intro e; have := hbl2 c hc; omega)
      rw [List.map_append, List.map_take, List.map_drop]
      simpa using this
    · have h1 := (pop_perm (ltSide sd) x rest).trans (hP.trans (erase_perm hm).symm)
      rw [hx] at h1
      exact h1.cons_inv
    · have e : (ws.take m ++ ws.drop (m + 1)).Sublist ws := by
        have := (List.Sublist.refl (ws.take m)).append (List.drop_sublist_drop_left ws (show m ≤ m + 1 by omega))
        rwa [List.take_append_drop] at this
      exact hS.sublist e
    · intro y hy
      rcases List.mem_append.1 hy with hy | hy
      · exact hB y (List.mem_of_mem_take hy)
      · exact hB y (List.mem_of_mem_drop hy)
    · simp; omega
    · have g1 : Fr h h25 (q :: p :: ([b] ++ ol)) := f0.trans f25 (fun c _ hc => by simp at hc ⊢; rcases hc with h | h <;> simp [h]) (fun c _ hc => by simp at hc)
      have g2 : Fr h h26 (q :: p :: ([b] ++ ol)) := g1.trans f26 (fun _ _ hc => hc) (fun c hc hm => by have := hbl1 c hm; omega)
      exact g2.trans f27 (fun _ _ hc => hc) (fun c _ hc => by simp at hc; simp [hc])
    · intro c hc
      simp only [List.mem_cons, List.mem_append, List.not_mem_nil, or_false] at hc ⊢
      rcases hc with rfl | rfl | hc
      · exact .inl (.inl rfl)
      · exact .inl (.inr (.inl rfl))
      · exact .inr (hbl2 c hc)
end Go.Proofs.Ytkiakofohkecaaa
