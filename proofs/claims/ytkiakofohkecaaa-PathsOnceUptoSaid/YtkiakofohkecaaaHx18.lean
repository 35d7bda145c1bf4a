/- PathsOnce: the place of what came out is looked for, and the list cut there. No condition but that the state is as told. -/
import Derived.Test.YtkiakofohkecaaaHx17
namespace Go.Proofs.Ytkiakofohkecaaa
open Go Go.Fw

theorem tg_one (ts : List Int) : ∀ x ∈ ts.map tg, ∀ u ∈ x, u.oneCell' = true := by
  intro x hx u hu
  obtain ⟨y, _, rfl⟩ := List.mem_map.1 hx
  obtain rfl : u = .int .i64 y := by simpa [tg] using hu
  rfl

theorem own_cut {h : Hp} {v : Value} {tags : List Int} {ol : List Nat} {m : Nat} (O : OwnS h 3 1 v (tags.map tg) ol) (hm : m < tags.length) (hn : tags.length ≤ 1048576) {K : Value → Hp → Prop}
    (k' : ∀ h' v' ol', OwnS h' 3 1 v' ((tags.take m ++ tags.drop (m + 1)).map tg) ol' → Fr h h' [] → (∀ b ∈ ol', h.size ≤ b) → K v' h') :
    bnd (sliceE 1 v none (some (.int .i64 (m : Int)))) fun a => efS Try.prog (Go.Builtin.append_ #[41, 41] 41 #[(.slice none 0 0), a]) h fun b h1 => bnd (binE .add (.int .i64 (m : Int)) (.int .i64 1)) fun c => bnd (sliceE 1 v (some c) none) fun d =>
      efS Try.prog (Go.Builtin.append_ #[41, 41] 41 #[b, d]) h1 K := by
  have hml : m < (tags.map tg).length := by simpa using hm
  obtain ⟨ob, ocap, hob, efr, sfr⟩ := O.front hml
  obtain ⟨ob', oo, ocap', hob', ebe, sbe⟩ := O.behind hml
  have w1 : IntKind.i64.wrap ((m : Int) + 1) = ((m + 1 : Nat) : Int) := by rw [wrap_id (by omega) (by omega)]; omega
  simp only [efr, bnd_some]
  refine own_app elem41 (OwnS.nil h 3 1) sfr (fun y hy => tg_one tags y (List.mem_of_mem_take hy)) (by simp; omega) (by simp; omega) fun h25 v1 bl1 O25 f25 hf25 => ?_
  have sbe' := sbe.fr f25 (by simp)
  simp only [bnd_some, bin_add, w1, ebe]
  have hsz25 := f25.size
  have hbl1 : ∀ c ∈ bl1, h.size ≤ c := fun c hc => (hf25 c hc).resolve_left (by simp)
  refine own_app elem41 O25 sbe' (fun y hy => tg_one tags y (List.mem_of_mem_drop hy)) (by simp; omega) (by simp; omega) fun h26 v2 bl2 O26 f26 hf26 => ?_
  refine k' h26 v2 bl2 ?_ (f25.news f26 hbl1) fun c hc => ?_
  · rw [List.map_append, List.map_take, List.map_drop]
    simpa using O26
  · rcases hf26 c hc with h | h
    · exact hbl1 c h
    · omega

theorem tag_read {h : Hp} {v : Value} {tags : List Int} {ol : List Nat} (O : OwnS h 3 1 v (tags.map tg) ol) {k : Nat} {u : Int} (hu : tags[k]? = some u) : ∃ b o, idxE 1 v (.int .i64 (k : Int)) = some (.pointer (some ⟨b, o, none⟩)) ∧ ldS h (.pointer (some ⟨b, o, none⟩)) = some (.int .i64 u) := by
  obtain ⟨b, o, e, _, hr⟩ := O.rowv.get (i := k) (x := tg u) (by simp [hu]) .i64
  exact ⟨b, o, e, by simpa [tg] using (hr h (Fr.refl _ _)).1 0 (by omega)⟩

def LInv (tags : List Int) (t : Int) (h : Hp) (l : List Value) (h' : Hp) : Prop := ∃ (k : Int) (i : Nat), l = [.int .i64 k, .int .i64 i] ∧ i ≤ tags.length ∧ Found tags t i k ∧ h' = h

theorem once_L2 {h h10 h3 : Hp} {t7 t1 : Value} {q9 : Nat} {ss : List Step} {tags : List Int} {ol : List Nat} {xk xt : Int} {ok : Bool} (r : RowV h 3 t1 (ss.map Step.enc)) (f : Fr h h10 []) (O : OwnS h10 3 1 t7 (tags.map tg) ol) (hn : tags.length ≤ 1048576)
    (g9 : h10[q9]? = some (.cells #[.int .i64 xk, .int .i64 xt] 26 (0, 0))) (hok : (ok = true ∧ xt ∈ tags ∧ ∃ j : Nat, xt = j ∧ (ss[j]?).map (·.key) = some xk) ∨ (ok = false ∧ tags = []))
    {p : Value} {t8 : Value} {R : Value → Hp → Prop} {I1 : List Value → Hp → Prop} {μ1 : List Value → Hp → Nat}
    (h1 : ok = true → ∀ h' v' ol' m, tags[m]? = some xt → OwnS h' 3 1 v' ((tags.take m ++ tags.drop (m + 1)).map tg) ol' → Fr h10 h' [] → (∀ b ∈ ol', h10.size ≤ b) → f5.J1 p h' v' R t8 I1 μ1 t7 h3)
    (h0 : ok = false → f5.J1 p h10 t7 R t8 I1 μ1 t7 h3) : f5.L2 h10 t7 (.pointer (some ⟨q9, 0, none⟩)) t1 (.bool ok) R p t8 I1 μ1 h3 := by
  have hlen : lenE t7 = some (.int .i64 tags.length) := by rw [O.lenE]; simp
  unfold f5.L2
  refine ⟨LInv tags xt h10, muF tags.length, ⟨-1, 0, rfl, by omega, .inl ⟨rfl, by simp⟩, rfl⟩, ?_⟩
  intro t56_1 t57_1 t58_1 t59_1 t62_1 t63_1 t64_1 t65_1 t66_1 t67_1 t68_1 t69_1 t70_1 t71_1 t72_1 t73_1 t74_1 t75_1 t76_1 t77_1 t78_1 t79_1 t80_1 t11_1 t60_1 t61_1 t12_1 h11
  rintro ⟨k, i, hl, hi, hF, rfl⟩
  obtain ⟨rfl, rfl⟩ : t11_1 = .int .i64 k ∧ t12_1 = .int .i64 i := by simpa using hl
  simp only [hlen, bin_lss, bnd_some, condT_bool]
  by_cases hlt : i < tags.length
  · have hdec : decide ((i : Int) < (tags.length : Int)) = true := by simp; omega
    have w1 : IntKind.i64.wrap ((i : Int) + 1) = ((i + 1 : Nat) : Int) := by rw [wrap_id (by omega) (by omega)]; omega
    have nxt : ∀ k', Found tags xt (i + 1) k' → f5.J2 (.int .i64 (i : Int)) (LInv tags xt h11) (.int .i64 k') h11 (muF tags.length) (.int .i64 k) h11 := fun k' hF' => by
      unfold f5.J2
      simp only [bin_add, bnd_some, w1]
      exact ⟨⟨k', i + 1, rfl, by omega, hF', rfl⟩, by simp only [muF, Int.toNat_natCast]; omega⟩
    obtain ⟨u, hu⟩ : ∃ u, tags[i]? = some u := ⟨tags[i], by simp [hlt]⟩
    obtain ⟨b, o, e, rd⟩ := tag_read O hu
    have fn := hF.next hu
    obtain ⟨rfl, hmem, j, rfl, hj⟩ := hok.resolve_right (fun h => by rw [h.2] at hlt; simp at hlt)
    obtain ⟨s, hs, hk⟩ := Option.map_eq_some_iff.1 hj
    obtain ⟨sb, so, se, _, sr⟩ := r.get (i := j) (x := s.enc) (by simp [hs]) .i64
    have sk : ldS h11 (.pointer (some ⟨sb, so + 2, none⟩)) = some (.int .i64 xk) := by rw [(sr h11 f).1 2 (by omega), ← hk]; rfl
    by_cases hut : u = (j : Int)
    · have := nxt _ (fn.1 hut)
      simpa [hdec, e, rd, ldS_at g9, hut, se, sk, hlt] using this
    · have := nxt _ (fn.2 hut)
      simpa [hdec, e, rd, ldS_at g9, hut, hlt, isB_undef] using this
  · have hdec : decide ((i : Int) < (tags.length : Int)) = false := by simp; omega
    obtain rfl : i = tags.length := by omega
    simp only [hdec, Bool.false_eq_true, if_false]
    rcases hok with ⟨rfl, hmem, _⟩ | ⟨rfl, rfl⟩
    · rcases hF with ⟨_, hno⟩ | ⟨m, rfl, hm, ht⟩
      · rw [List.take_length] at hno; exact absurd hmem hno
      · have hpos : decide ((tags.length : Int) > 0) = true := decide_eq_true (by omega)
        have hm0 : decide ((m : Int) < 0) = false := decide_eq_false (by omega)
        simp only [bin_gtr, bnd_some, hpos, binB_neq, beq_self_eq_true, Bool.not_true, isB_bool, cond_true, bin_lss, hm0, asB_bool, Option.map_some, cond_false, condT_bool, Bool.false_eq_true, if_false, if_true]
        exact own_cut O hm hn fun h' v' ol' O' f' hb' => h1 rfl h' v' ol' m ht O' f' hb'
    · have := h0 rfl
      simpa [isB_undef] using this

theorem once_L4 {h17 h14 : Hp} {t7 : Value} {q : Nat} {tags : List Int} {ol : List Nat} {xk xt : Int} (O : OwnS h17 3 1 t7 (tags.map tg) ol) (hn : tags.length ≤ 1048576)
    (g : h17[q]? = some (.cells #[.int .i64 xk, .int .i64 xt] 26 (0, 0))) (hmem : xt ∈ tags)
    {R : Value → Hp → Prop} {I3 : List Value → Hp → Prop} {μ3 : List Value → Hp → Nat}
    (h1 : ∀ h' v' ol' m, tags[m]? = some xt → OwnS h' 3 1 v' ((tags.take m ++ tags.drop (m + 1)).map tg) ol' → Fr h17 h' [] → (∀ b ∈ ol', h17.size ≤ b) → I3 [v'] h' ∧ μ3 [v'] h' < μ3 [t7] h14) :
    f5.L4 h17 t7 (.pointer (some ⟨q, 0, none⟩)) (.bool true) R I3 μ3 h14 := by
  have hlen : lenE t7 = some (.int .i64 tags.length) := by rw [O.lenE]; simp
  unfold f5.L4
  refine ⟨LInv tags xt h17, muF tags.length, ⟨-1, 0, rfl, by omega, .inl ⟨rfl, by simp⟩, rfl⟩, ?_⟩
  intro t118_1 t119_1 t120_1 t121_1 t124_1 t125_1 t126_1 t127_1 t128_1 t129_1 t130_1 t131_1 t16_1 t122_1 t123_1 t17_1 h11
  rintro ⟨k, i, hl, hi, hF, rfl⟩
  obtain ⟨rfl, rfl⟩ : t16_1 = .int .i64 k ∧ t17_1 = .int .i64 i := by simpa using hl
  simp only [hlen, bin_lss, bnd_some, condT_bool]
  by_cases hlt : i < tags.length
  · have hdec : decide ((i : Int) < (tags.length : Int)) = true := by simp; omega
    have w1 : IntKind.i64.wrap ((i : Int) + 1) = ((i + 1 : Nat) : Int) := by rw [wrap_id (by omega) (by omega)]; omega
    have nxt : ∀ k', Found tags xt (i + 1) k' → f5.J3 (.int .i64 (i : Int)) (LInv tags xt h11) (.int .i64 k') h11 (muF tags.length) (.int .i64 k) h11 := fun k' hF' => by
      unfold f5.J3
      simp only [bin_add, bnd_some, w1]
      exact ⟨⟨k', i + 1, rfl, by omega, hF', rfl⟩, by simp only [muF, Int.toNat_natCast]; omega⟩
    obtain ⟨u, hu⟩ : ∃ u, tags[i]? = some u := ⟨tags[i], by simp [hlt]⟩
    obtain ⟨b, o, e, rd⟩ := tag_read O hu
    have fn := hF.next hu
    by_cases hut : u = xt
    · have := nxt _ (fn.1 hut)
      simpa [hdec, e, rd, ldS_at g, hut, hlt] using this
    · have := nxt _ (fn.2 hut)
      simpa [hdec, e, rd, ldS_at g, hut, hlt] using this
  · have hdec : decide ((i : Int) < (tags.length : Int)) = false := by simp; omega
    obtain rfl : i = tags.length := by omega
    simp only [hdec, Bool.false_eq_true, if_false]
    rcases hF with ⟨_, hno⟩ | ⟨m, rfl, hm, ht⟩
    · rw [List.take_length] at hno; exact absurd hmem hno
    · have hm0 : decide ((m : Int) < 0) = false := decide_eq_false (by omega)
      simp only [unE_not, Bool.not_true, bnd_some, isB_bool, beq_self_eq_true, cond_true, bin_lss, hm0, asB_bool, Option.map_some, cond_false, condT_bool, Bool.false_eq_true, if_false]
      exact own_cut O hm hn fun h' v' ol' O' f' hb' => h1 h' v' ol' m ht O' f' hb'

theorem bag_pop {h h' : Hp} {p i n : Nat} {less t7 : Value} {ss : List Step} {L : List (Nat × Obj)} {lt : Item → Item → Bool} (ok : LessOk L less lt) (hL : Has h L) (B : Bag h p less t7 ss i n h') (hi : i ≤ 1048576) {R : Value → Hp → Prop}
    (h0 : ∀ h'' ol, n = 0 → OwnS h'' 3 1 t7 (([] : List Int).map tg) ol → Bag h p less t7 ss i n h'' → Fr h h'' [] → R (.tuple #[.agg #[.int .i64 0, .int .i64 0], .bool false]) h'')
    (hR : ∀ (h'' : Hp) (x : Item) (tags : List Int) (ol : List Nat), n = tags.length → OwnS h'' 3 1 t7 (tags.map tg) ol → x.tag ∈ tags → (∃ j : Nat, x.tag = j ∧ (ss[j]?).map (·.key) = some x.key) → Fr h h'' [] →
      (∀ h3 v' ol' m, tags[m]? = some x.tag → OwnS h3 3 1 v' ((tags.take m ++ tags.drop (m + 1)).map tg) ol' → Fr h'' h3 [] → (∀ b ∈ ol', h''.size ≤ b) → Bag h p less v' ss i (n - 1) h3) → R (.tuple #[.agg #[.int .i64 x.key, .int .i64 x.tag], .bool true]) h'') :
    CallsH Try.prog 10 #[.pointer (some ⟨p, 0, none⟩)] h' R := by
  obtain ⟨its, ck, bl, tags, ol, ⟨d1, d2⟩, H, O, hP, hM, hc0, hci, hn, hni, f, np, nb, no⟩ := B
  have hlt := H.lt
  have hll : ∀ y ∈ L, y.1 < h.size := fun y hy => lt_of_get (hL y hy)
  have hil : its.length = tags.length := by have := hP.length_eq; simpa using this
  refine pop_spec ok (hL.fr f (by simp)) (fun y hy hm => by have := hll y hy; have := nb _ hm; omega) (fun y hy e => by have := hll y hy; omega) H (by omega) (fun h'' e f' => ?_) (fun h'' b cap x rest e hb H' f' => ?_)
  · subst e
    obtain rfl : tags = [] := List.eq_nil_of_length_eq_zero (by simpa using hil.symm)
    exact h0 h'' ol (by simpa using hn.symm) (O.fr f' (by simp)) ⟨[], ck, bl, [], ol, ⟨d1, d2⟩, H.fr f' (by simp) (by simp), O.fr f' (by simp), hP, hM, hc0, hci, hn, hni, f.then f', np, nb, no⟩ (f.then f')
  · subst e hb
    have O' := O.fr f' (fun c hc => by simp; exact ⟨fun e => d1 (e ▸ hc), fun e => d2 b (by simp) (e ▸ hc)⟩)
    have f2 : Fr h h'' [] := f.news f' (fun c hc => by
      simp at hc
      rcases hc with rfl | rfl
      · exact np
      · exact nb _ (by simp))
    obtain ⟨j, hj, ht, hk⟩ := hM x (by simp)
    have hmem : x.tag ∈ tags := hP.mem_iff.1 (by simp)
    refine hR h'' x tags ol hn.symm O' hmem ⟨j, ht, hk⟩ f2 fun h3 v' ol' m hm O3 f3 n3 => ?_
    have hml : m < tags.length := (List.getElem?_eq_some_iff.1 hm).1
    have hmx : tags[m] = x.tag := (List.getElem?_eq_some_iff.1 hm).2
    have hpp := pop_perm lt x rest
    have hsz := f2.size
    have hszp := f'.size
    refine ⟨popped lt (x :: rest), ck, [b], tags.take m ++ tags.drop (m + 1), ol', ⟨fun hc => ?_, fun c hc hc' => ?_⟩, HeapE.fr (.inr ⟨b, cap, rfl, H'⟩) f3 (by simp) (by simp), O3, ?_, fun y hy => hM y (hpp.mem_iff.1 (by simp [hy])), hc0, hci, ?_, by omega, f2.then f3, np, nb, fun c hc => ?_⟩
    · have := n3 _ hc; omega
    · have := n3 _ hc'; have := (hlt.2 c hc).1; omega
    · have e : tags = tags.take m ++ (x.tag :: tags.drop (m + 1)) := by rw [← hmx, ← List.drop_eq_getElem_cons hml, List.take_append_drop]
      have h1 : (x.tag :: (tags.take m ++ tags.drop (m + 1))).Perm tags := List.perm_middle.symm.trans (.of_eq e.symm)
      have h2 : (x.tag :: (popped lt (x :: rest)).map (·.tag)).Perm (x.tag :: rest.map (·.tag)) := by simpa using hpp.map (·.tag)
      have h3 : (x.tag :: rest.map (·.tag)).Perm tags := by simpa using hP
      exact ((h2.trans h3).trans h1.symm).cons_inv
    · simp; omega
    · have := n3 _ hc; omega
end Go.Proofs.Ytkiakofohkecaaa
