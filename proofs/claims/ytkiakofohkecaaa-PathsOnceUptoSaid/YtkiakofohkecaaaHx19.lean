/- PathsOnce: whatever function orders the heap, each thing that was pushed comes out once; the law tells true and leaves the memory that it was given alone. Condition: at most 1048576 answers and steps. -/
import Derived.Test.YtkiakofohkecaaaHx18
namespace Go.Proofs.Ytkiakofohkecaaa
open Go Go.Fw

theorem Bag.len {h h' : Hp} {p i n : Nat} {less t7 : Value} {ss : List Step} (B : Bag h p less t7 ss i n h') : lenE t7 = some (.int .i64 n) := by
  obtain ⟨its, ck, bl, tags, ol, _, H, O, hP, hM, hc0, hci, hn, _⟩ := B
  rw [O.lenE]; simp [hn]
theorem Bag.Len {h h' : Hp} {p i n : Nat} {less t7 : Value} {ss : List Step} (B : Bag h p less t7 ss i n h') {R : Value → Hp → Prop} (hR : R (.int .i64 n) h') : CallsH Try.prog 12 #[.pointer (some ⟨p, 0, none⟩)] h' R := by
  obtain ⟨its, ck, bl, tags, ol, _, H, O, hP, hM, hc0, hci, hn, _⟩ := B
  refine len_spec H ?_
  have : its.length = n := by have := hP.length_eq; simp at this; omega
  rw [this]; exact hR
theorem Bag.more {h h' : Hp} {p i n : Nat} {less t7 : Value} {ss : List Step} (B : Bag h p less t7 ss i n h') : Bag h p less t7 ss (i + 1) n h' := by
  obtain ⟨its, ck, bl, tags, ol, d, H, O, hP, hM, hc0, hci, hn, hni, rest⟩ := B
  exact ⟨its, ck, bl, tags, ol, d, H, O, hP, fun x hx => let ⟨j, hj, h⟩ := hM x hx; ⟨j, by omega, h⟩, hc0, by omega, hn, by omega, rest⟩
theorem Bag.fr {h h' h'' : Hp} {p i n : Nat} {less t7 : Value} {ss : List Step} (B : Bag h p less t7 ss i n h') (f' : Fr h' h'' []) : Bag h p less t7 ss i n h'' := by
  obtain ⟨its, ck, bl, tags, ol, d, H, O, hP, hM, hc0, hci, hn, hni, f, rest⟩ := B
  exact ⟨its, ck, bl, tags, ol, d, H.fr f' (by simp) (by simp), O.fr f' (by simp), hP, hM, hc0, hci, hn, hni, f.then f', rest⟩
theorem Bag.keep {h h' : Hp} {p i n : Nat} {less t7 : Value} {ss : List Step} (B : Bag h p less t7 ss i n h') : Fr h h' [] := by
  obtain ⟨its, ck, bl, tags, ol, d, H, O, hP, hM, hc0, hci, hn, hni, f, rest⟩ := B
  exact f
theorem Bag.own {h h' : Hp} {p i n : Nat} {less t7 : Value} {ss : List Step} (B : Bag h p less t7 ss i n h') : n ≤ i := by
  obtain ⟨its, ck, bl, tags, ol, d, H, O, hP, hM, hc0, hci, hn, hni, f, rest⟩ := B
  exact hni

theorem fill_tag (t : Int) : fillR 1 #[(.int .i64 0)] [(0, .int .i64 t)] = some #[.int .i64 t] := by kernel_rfl

theorem bag_push {h h' : Hp} {p i n : Nat} {less t7 : Value} {ss : List Step} {L : List (Nat × Obj)} {lt : Item → Item → Bool} (ok : LessOk L less lt) (hL : Has h L) (B : Bag h p less t7 ss i n h') (hi : i ≤ 1048576) {k : Int} (hk : (ss[i]?).map (·.key) = some k) {K : Value → Hp → Prop}
    (hK : ∀ h'' v', Bag h p less v' ss (i + 1) (n + 1) h'' → K v' h'') :
    CallsH Try.prog 9 #[.pointer (some ⟨p, 0, none⟩), .agg #[.int .i64 k, .int .i64 (i : Int)]] h' fun _ h_5 => bnd (fillR 1 #[(.int .i64 0)] [(0, .int .i64 (i : Int))]) fun c => nw h_5 c 3 (fun b => .slice (some ⟨b, 0, none⟩) 1 1) fun t49_1 h_6 =>
      efS Try.prog (Go.Builtin.append_ #[41, 41] 41 #[t7, t49_1]) h_6 K := by
  obtain ⟨its, ck, bl, tags, ol, ⟨d1, d2⟩, H, O, hP, hM, hc0, hci, hn, hni, f, np, nb, no⟩ := B
  have hlt := H.lt
  have hlo := O.lt
  have hll : ∀ y ∈ L, y.1 < h.size := fun y hy => lt_of_get (hL y hy)
  have hil : its.length = tags.length := by have := hP.length_eq; simpa using this
  refine push_spec ok (hL.fr f (by simp)) (fun y hy hm => by have := hll y hy; have := nb _ hm; omega) (fun y hy e => by have := hll y hy; omega) H (by omega) (by omega) _ _ fun h5 b cap H5 f5 hb => ?_
  simp only [fill_tag, bnd_some, nw_eq]
  have f6 := Fr.push h5 (.cells #[.int .i64 (i : Int)] 3 (0, 0)) []
  have e6 := get_new h5 (.cells #[.int .i64 (i : Int)] 3 (0, 0))
  have O5 := O.fr f5 (fun c hc => by
    simp only [List.mem_cons, not_or]
    exact ⟨fun e => d1 (e ▸ hc), fun e => d2 c e hc⟩)
  have O6 := O5.fr f6 (by simp)
  have hs5 := f5.size
  have hs0 := f.size
  have seg : Seg (h5.push (.cells #[.int .i64 (i : Int)] 3 (0, 0))) 1 h5.size 0 [tg (i : Int)] := by
    refine ⟨_, _, _, e6, by simp, by simp [tg], fun a j y hi hj => ?_⟩
    obtain rfl : a = 0 := by
      have := (List.getElem?_eq_some_iff.1 hi).1
      simpa using this
    obtain rfl : tg (i : Int) = y := by simpa using hi
    obtain rfl : j = 0 := by omega
    simp [tg]
  have H6 := HeapE.fr (.inr ⟨b, cap, rfl, H5⟩) f6 (by simp) (by simp)
  have hbf : b ∈ bl ∨ h'.size ≤ b := by
    rcases hb with rfl | hb
    · exact .inl (by simp)
    · exact .inr hb
  have hlb := H5.row.lt
  have hs6 := f6.size
  refine own_app (ys := [tg (i : Int)]) (cs := 1) elem41 O6 seg (by simp [tg]) (by simp; omega) (by simp; omega) fun h7 v' ol' O7 f7 hf7 => ?_
  have hol' : ∀ c ∈ ol', c ∈ ol ∨ h5.size < c := fun c hc => (hf7 c hc).imp id (fun h => by simp at h; omega)
  have f05 : Fr h h5 [] := f.news f5 (fun c hc => by
    rcases List.mem_cons.1 hc with rfl | hc
    · exact np
    · exact nb c hc)
  refine hK h7 v' ⟨_, ck + 1, [b], tags ++ [(i : Int)], ol', ⟨fun hm => (hol' _ hm).elim d1 (fun h => by omega), fun c hc hm => ?_⟩, H6.fr f7 (fun hm => d1 hm) (fun c hc hm => ?_), by simpa using O7, ?_, fun x hx => ?_, by omega, by omega, by simp; omega, by omega, (f05.then f6).news f7 no, np, fun c hc => ?_, fun c hc => ?_⟩
  · obtain rfl : c = b := by simpa using hc
    rcases hol' _ hm with h1 | h1
    · rcases hbf with h2 | h2
      · exact d2 _ h2 h1
      · have := hlo _ h1; omega
    · omega
  · obtain rfl : c = b := by simpa using hc
    rcases hbf with h2 | h2
    · exact d2 _ h2 hm
    · have := hlo _ hm; omega
  · have h1 := (push_perm lt its ⟨k, i, ck⟩).map (·.tag)
    simp only [List.map_cons] at h1
    exact h1.trans ((hP.cons _).trans (List.perm_append_singleton _ _).symm)
  · have hx' := (push_perm lt its ⟨k, i, ck⟩).mem_iff.1 hx
    rcases List.mem_cons.1 hx' with rfl | hx'
    · exact ⟨i, by omega, rfl, hk⟩
    · obtain ⟨j, hj, h⟩ := hM x hx'
      exact ⟨j, by omega, h⟩
  · obtain rfl : c = b := by simpa using hc
    rcases hbf with h2 | h2
    · exact nb _ h2
    · omega
  · rcases hol' c hc with h1 | h1
    · exact no c h1
    · omega

def OInv (h : Hp) (p : Nat) (less : Value) (ss : List Step) (l : List Value) (h' : Hp) : Prop := ∃ (i n : Nat) (t7 : Value), l = [t7, .int .i64 i] ∧ i ≤ ss.length ∧ Bag h p less t7 ss i n h'
def O3Inv (h : Hp) (p : Nat) (less : Value) (ss : List Step) (l : List Value) (h' : Hp) : Prop := ∃ (n : Nat) (t7 : Value), l = [t7] ∧ Bag h p less t7 ss ss.length n h'
def muS (l : List Value) (_ : Hp) : Nat := match l with | [v] => (match lenE v with | some (.int _ n) => n.toNat | _ => 0) | _ => 0

theorem once_J1 {h h' h3 : Hp} {p i n : Nat} {less t7 v : Value} {ss : List Step} (B : Bag h p less v ss (i + 1) n h') (hi : i < ss.length) (hs : ss.length ≤ 1048576) {R : Value → Hp → Prop} :
    f5.J1 (.pointer (some ⟨p, 0, none⟩)) h' v R (.int .i64 (i : Int)) (OInv h p less ss) (muF ss.length) t7 h3 := by
  have w1 : IntKind.i64.wrap ((i : Int) + 1) = ((i + 1 : Nat) : Int) := by rw [wrap_id (by omega) (by omega)]; omega
  unfold f5.J1
  refine B.Len ?_
  simp only [B.len, bnd_some, bin_neq, ne_eq, not_true_eq_false, decide_false, condT_bool, Bool.false_eq_true, if_false, bin_add, w1]
  exact ⟨⟨i + 1, n, v, rfl, by omega, B⟩, by simp only [muF, Int.toNat_natCast]; omega⟩

/-- The box for what came out. -/
theorem out_box (h : Hp) (a b : Int) : ∃ h', stE 2 (h.push (.cells #[.int .i64 0, .int .i64 0] 26 (0, 0))) (.pointer (some ⟨h.size, 0, none⟩)) (.agg #[.int .i64 a, .int .i64 b]) = some h' ∧ h'[h.size]? = some (.cells #[.int .i64 a, .int .i64 b] 26 (0, 0)) ∧ Fr h h' [] := by
  have g := get_new h (.cells #[.int .i64 0, .int .i64 0] 26 (0, 0))
  refine ⟨_, ?_, get_set (o' := .cells #[.int .i64 a, .int .i64 b] 26 (0, 0)) g, ((Fr.refl h []).new (.cells #[.int .i64 0, .int .i64 0] 26 (0, 0))).set_new (Nat.le_refl _) (.cells #[.int .i64 a, .int .i64 b] 26 (0, 0))⟩
  rw [stE_at _ g]; simp [splice]

theorem once_L3 {h hs : Hp} {p n : Nat} {less t7 : Value} {ss : List Step} {L : List (Nat × Obj)} {lt : Item → Item → Bool} (ok : LessOk L less lt) (hL : Has h L) (B : Bag h p less t7 ss ss.length n hs) (hn : ss.length ≤ 1048576) {R : Value → Hp → Prop} (hR : ∀ h', Fr h h' [] → R (.bool true) h') :
    f5.L3 t7 hs (.pointer (some ⟨p, 0, none⟩)) R := by
  unfold f5.L3
  refine ⟨O3Inv h p less ss, muS, ⟨n, t7, rfl, B⟩, ?_⟩
  intro t110 t111 t112 t114 t115 t113 t116 t117 t14 t15 t118 t119 t120 t121 t124 t125 t126 t127 t128 t129 t130 t131 t16 t122 t123 t17 t132 t133 t134 t135 t136 t137 t4_1 t138 t139 t140 t141 t142 t18 t143 t144 t145 t146 t147 t148 t7_1 h14
  rintro ⟨n, v, hl, B⟩
  obtain rfl : t7_1 = v := by simpa using hl
  simp only [B.len, bnd_some, bin_gtr, condT_bool]
  by_cases hp : (n : Int) > 0
  · simp only [hp, decide_true, if_true]
    refine bag_pop ok hL B hn (fun h15 ol e _ _ _ => by omega) fun h15 x tags ol e O hmem hj f after => ?_
    obtain ⟨h17, e17, g17, f17⟩ := out_box h15 x.key x.tag
    simp only [extE_tuple, List.getElem?_toArray, List.getElem?_cons_succ, List.getElem?_cons_zero, bnd_some, nw_eq, ptr0_eq, e17]
    have hle := B.own
    refine once_L4 (O.fr f17 (by simp)) (by omega) g17 hmem fun h3 v' ol' m hm O3 f3 n3 => ?_
    have hsz := f17.size
    have B3 := after h3 v' ol' m hm O3 (f17.then f3) (fun b hb => by have := n3 b hb; omega)
    refine ⟨⟨n - 1, v', rfl, B3⟩, ?_⟩
    simp only [muS, B.len, B3.len, Int.toNat_natCast]
    omega
  · have hd : decide ((n : Int) > 0) = false := decide_eq_false hp
    simp only [hd, Bool.false_eq_true, if_false]
    refine bag_pop ok hL B hn (fun h15 ol e _ _ f => ?_) fun h15 x tags ol e O hmem hj f after => ?_
    · obtain ⟨h17, e17, g17, f17⟩ := out_box h15 0 0
      simp only [extE_tuple, List.getElem?_toArray, List.getElem?_cons_succ, List.getElem?_cons_zero, bnd_some, nw_eq, ptr0_eq, e17, unE_not, Bool.not_false]
      exact hR _ (f.then f17)
    · have := List.length_pos_of_mem hmem; omega

theorem once_spec {h : Hp} {v0 v1 : Value} {bs : List Bool} {ss : List Step} (r0 : RowV h 1 v0 (bs.map fun b => [.bool b])) (r1 : RowV h 3 v1 (ss.map Step.enc)) (h0 : bs.length ≤ 1048576) (h1 : ss.length ≤ 1048576) {R : Value → Hp → Prop} (hR : ∀ h', Fr h h' [] → R (.bool true) h') : CallsH Try.prog 5 #[v0, v1] h R := by
  have hlen : lenE v1 = some (.int .i64 ss.length) := by obtain ⟨a, cap, rfl, _⟩ := r1; simp
  have hc0 : Value.cells v0 = #[v0] := by obtain ⟨a, cap, rfl, _⟩ := r0; rfl
  have ho0 : v0.oneCell' = true := by obtain ⟨a, cap, rfl, _⟩ := r0; rfl
  obtain ⟨L, ok, hL, hLt⟩ := lessOk14 r0 (by omega) ho0
  refine f5.ok ?_
  unfold f5.T
  simp only [hc0, nw_eq, ptr0_eq]
  have f1 := Fr.push h (.cells #[v0] 39 (0, 0)) []
  generalize h.push (.cells #[v0] 39 (0, 0)) = hb at *
  generalize h.size = qb at *
  refine new_spec fun H0 => ?_
  have f2 := Fr.push hb (.cells #[.func (.func 14) #[] #[.pointer (some ⟨qb, 0, none⟩)], .slice none 0 0, .int .i64 0] 45 (0, 0)) []
  generalize hb.push (.cells #[.func (.func 14) #[] #[.pointer (some ⟨qb, 0, none⟩)], .slice none 0 0, .int .i64 0] 45 (0, 0)) = h2 at *
  simp only [nil_p_some, bnd_some, condT_bool, Bool.false_eq_true, if_false]
  unfold f5.L1
  refine ⟨OInv hb hb.size _ ss, muF ss.length, ⟨0, 0, .slice none 0 0, rfl, by omega, [], 0, [], [], [], by simp, H0, .nil _ _ _, .refl _, by simp, by omega, by omega, rfl, by omega, f2, Nat.le_refl _, by simp, by simp⟩, ?_⟩
  intro t26 t27 t28 t29 t32 t33 t34 t35 t36 t37 t38 t39 t40 t41 t42 t43 t44 t45 t46 t47 t48 t49 t50 t52 t53 t51 t54 t55 t9 t10 t56 t57 t58 t59 t62 t63 t64 t65 t66 t67 t68 t69 t70 t71 t72 t73 t74 t75 t76 t77 t78 t79 t80 t11 t60 t61 t12 t81 t82 t83 t84 t85 t86 t87 t88 t89 t90 t91 t92 t93 t94 t95 t96 t97 t98 t13 t99 t100 t101 t102 t103 t104 t7 t105 t106 t107 t108 t109 t4 t30 t31 t8 h3
  rintro ⟨i, n, t, hl, hi, B⟩
  obtain ⟨rfl, rfl⟩ : t7 = t ∧ t8 = .int .i64 i := by simpa using hl
  simp only [hlen, bin_lss, bnd_some, condT_bool]
  by_cases hlt : i < ss.length
  · have hdec : decide ((i : Int) < (ss.length : Int)) = true := by simp; omega
    obtain ⟨eb, eo, ee, _, er⟩ := r1.get (i := i) (x := (ss[i]).enc) (by simp [hlt]) .i64
    have er0 := (er h3 (f1.then B.keep)).1
    have ep : ldS h3 (.pointer (some ⟨eb, eo + 0, none⟩)) = some (.bool ss[i].pop) := er0 0 (by omega)
    have ek : ldS h3 (.pointer (some ⟨eb, eo + 2, none⟩)) = some (.int .i64 ss[i].key) := er0 2 (by omega)
    simp only [hdec, if_true, ee, bnd_some, fldE_ptr, ep, unE_not, condT_bool]
    cases hp : ss[i].pop
    · simp only [Bool.not_false, if_true, ek, bnd_some, fill_entry]
      exact bag_push ok hL B (by omega) (by simp [hlt]) fun h'' v' B' => once_J1 B' hlt h1
    · simp only [Bool.not_true, Bool.false_eq_true, if_false]
      refine bag_pop ok hL B (by omega) (fun h8 ol e O B8 f8 => ?_) fun h8 x tags ol e O hmem hj f8 after => ?_
      · obtain ⟨h10, e10, g10, f10⟩ := out_box h8 0 0
        simp only [extE_tuple, List.getElem?_toArray, List.getElem?_cons_succ, List.getElem?_cons_zero, bnd_some, nw_eq, ptr0_eq, e10]
        exact once_L2 (r1.fr f1) ((f8.then f10)) (O.fr f10 (by simp)) (by simp) g10 (.inr ⟨rfl, rfl⟩) (fun h => by cases h) fun _ => once_J1 (B8.fr f10).more hlt h1
      · obtain ⟨h10, e10, g10, f10⟩ := out_box h8 x.key x.tag
        simp only [extE_tuple, List.getElem?_toArray, List.getElem?_cons_succ, List.getElem?_cons_zero, bnd_some, nw_eq, ptr0_eq, e10]
        have hle := B.own
        have hsz := f10.size
        exact once_L2 (r1.fr f1) ((f8.then f10)) (O.fr f10 (by simp)) (by omega) g10 (.inl ⟨rfl, hmem, hj⟩) (fun _ h' v' ol' m hm O' f' n' => once_J1 (after h' v' ol' m hm O' (f10.then f') (fun b hb => by have := n' b hb; omega)).more hlt h1) (fun h => by cases h)
  · have hdec : decide ((i : Int) < (ss.length : Int)) = false := by simp; omega
    obtain rfl : i = ss.length := by omega
    simp only [hdec, Bool.false_eq_true, if_false]
    exact once_L3 ok hL B h1 fun h' f' => hR h' (f1.then f')
end Go.Proofs.Ytkiakofohkecaaa
