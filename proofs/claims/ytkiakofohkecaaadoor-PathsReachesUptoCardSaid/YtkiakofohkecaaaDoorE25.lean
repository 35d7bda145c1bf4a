/- The reference's search, Hops and Reach. No condition but that the memory is as told. -/
import Derived.Test.YtkiakofohkecaaaDoorE24
namespace Go.Proofs.YtkiakofohkecaaaDoor
open Go Go.Fw

theorem fill_at (k : Int) : (fillS [(0, 1), (1, 1)] #[(.int .i64 0), (.int .i64 0)] [(0, .int .i64 k)]).map Value.agg = some (.agg #[.int .i64 k, .int .i64 0]) := by kernel_rfl
theorem fill_want1 (t : Int) : (fillS [(0, 1), (1, 1), (2, 1), (3, 1)] #[(.bool false), (.int .i64 0), (.int .i64 0), (.bool false)] [(0, (.bool true)), (1, .int .i64 t), (2, (.int .i64 (-1))), (3, (.bool true))]).map Value.agg = some (.agg #[.bool true, .int .i64 t, .int .i64 (-1), .bool true]) := by kernel_rfl
theorem fill_want2 (t : Int) : (fillS [(0, 1), (1, 1), (2, 1), (3, 1)] #[(.bool false), (.int .i64 0), (.int .i64 0), (.bool false)] [(2, .int .i64 t), (3, (.bool true))]).map Value.agg = some (.agg #[.bool false, .int .i64 0, .int .i64 t, .bool true]) := by kernel_rfl

theorem search_spec {h : Hp} {v : Value} {rows : List NRow} {tail : Bool} (net : NetOk h v rows) (w : WantI) (start : Int) {R : Value → Hp → Prop}
    (hR : ∀ h' sv av bs ba, RefL h.size sv av (searchF (srW (ofL rows tail) w) start).settled (searchF (srW (ofL rows tail) w) start).asked bs ba h' → Fr h h' [] → R (.agg #[sv, av, .int .i64 (searchF (srW (ofL rows tail) w) start).code, .bool (searchF (srW (ofL rows tail) w) start).hit]) h') :
    CallsH Tryd.prog 52 #[.agg #[v, .bool tail], .int .i64 start, .agg #[.bool w.aim, .int .i64 w.to, .int .i64 w.most, .bool w.hops]] h R := by
  refine f52.ok ?_
  unfold f52.T
  simp only [nw_eq, cells_agg, ptr0_eq, fill_at, bnd_some]
  have f1 := Fr.push h (.cells #[v, .bool tail] 26 (0, 0)) []
  have g1 := get_new h (.cells #[v, .bool tail] 26 (0, 0))
  have z1 : (h.push (.cells #[v, .bool tail] 26 (0, 0))).size = h.size + 1 := by simp
  generalize h.push (.cells #[v, .bool tail] 26 (0, 0)) = h1 at *
  have f2 := Fr.push h1 (.cells #[.bool w.aim, .int .i64 w.to, .int .i64 w.most, .bool w.hops] 103 (0, 0)) []
  have g2 := get_new h1 (.cells #[.bool w.aim, .int .i64 w.to, .int .i64 w.most, .bool w.hops] 103 (0, 0))
  have z2 : (h1.push (.cells #[.bool w.aim, .int .i64 w.to, .int .i64 w.most, .bool w.hops] 103 (0, 0))).size = h.size + 2 := by simp [z1]
  rw [z1] at g2
  simp only [z1, z2]
  generalize h1.push (.cells #[.bool w.aim, .int .i64 w.to, .int .i64 w.most, .bool w.hops] 103 (0, 0)) = h2 at *
  have f3 := Fr.push h2 (.cells #[.slice none 0 0, .slice none 0 0, .int .i64 0, .bool false] 100 (0, 0)) []
  have g3 := get_new h2 (.cells #[.slice none 0 0, .slice none 0 0, .int .i64 0, .bool false] 100 (0, 0))
  have z3 : (h2.push (.cells #[.slice none 0 0, .slice none 0 0, .int .i64 0, .bool false] 100 (0, 0))).size = h.size + 3 := by simp [z2]
  rw [z2] at g3
  simp only [z3]
  generalize h2.push (.cells #[.slice none 0 0, .slice none 0 0, .int .i64 0, .bool false] 100 (0, 0)) = h3 at *
  have f4 := Fr.push h3 (.cells #[.slice none 0 0, .slice none 0 0, .int .i64 0, .bool false] 100 (0, 0)) []
  have g4 := get_new h3 (.cells #[.slice none 0 0, .slice none 0 0, .int .i64 0, .bool false] 100 (0, 0))
  have z4 : (h3.push (.cells #[.slice none 0 0, .slice none 0 0, .int .i64 0, .bool false] 100 (0, 0))).size = h.size + 4 := by simp [z3]
  rw [z3] at g4
  simp only [z4]
  generalize h3.push (.cells #[.slice none 0 0, .slice none 0 0, .int .i64 0, .bool false] 100 (0, 0)) = h4 at *
  have f5 := Fr.push h4 (.cells #[.int .i64 0, .int .i64 0] 105 (0, 0)) []
  have g5 := get_new h4 (.cells #[.int .i64 0, .int .i64 0] 105 (0, 0))
  rw [z4] at g5
  generalize h4.push (.cells #[.int .i64 0, .int .i64 0] 105 (0, 0)) = h5 at *
  have s6 : stE 2 h5 (.pointer (some ⟨h.size + 4, 0, none⟩)) (.agg #[.int .i64 start, .int .i64 0]) = some (h5.setIfInBounds (h.size + 4) (.cells #[.int .i64 start, .int .i64 0] 105 (0, 0))) := by
    rw [stE_at _ g5]; simp [splice]
  simp only [s6, bnd_some]
  have F5 : Fr h h5 [] := (((f1.then f2).then f3).then f4).then f5
  have F6 := F5.set_new (n := h.size + 4) (by omega) (.cells #[.int .i64 start, .int .i64 0] 105 (0, 0))
  have e3 := get_set_ne (c := h.size + 4) (o' := .cells #[.int .i64 start, .int .i64 0] 105 (0, 0)) ((((f2.then f3).then f4).then f5).get g1 (by simp)) (by omega)
  have e5 := get_set_ne (c := h.size + 4) (o' := .cells #[.int .i64 start, .int .i64 0] 105 (0, 0)) (((f3.then f4).then f5).get g2 (by simp)) (by omega)
  have e6 := get_set_ne (c := h.size + 4) (o' := .cells #[.int .i64 start, .int .i64 0] 105 (0, 0)) ((f4.then f5).get g3 (by simp)) (by omega)
  have e7 := get_set_ne (c := h.size + 4) (o' := .cells #[.int .i64 start, .int .i64 0] 105 (0, 0)) (f5.get g4 (by simp)) (by omega)
  have e9 := get_set (o' := .cells #[.int .i64 start, .int .i64 0] 105 (0, 0)) g5
  generalize h5.setIfInBounds (h.size + 4) (.cells #[.int .i64 start, .int .i64 0] 105 (0, 0)) = h6 at *
  have I0 : RefI h h.size rows v tail w (searchF (srW (ofL rows tail) w) start) [] [] [] ⟨start, 0⟩ (.slice none 0 0) (.slice none 0 0) (.slice none 0 0) [] [] [] h6 :=
    ⟨⟨F6, rfl, e3, e5, e6, e7, e9⟩, ⟨.nil _ _ _, .nil _ _ _, by simp, by simp, by simp⟩, .nil _ _ _, by simp, by simp [ids], by simp, by simp, by simp, by simp, by simp, rfl⟩
  unfold f52.L1
  refine ⟨RefInv h h.size rows v tail w (searchF (srW (ofL rows tail) w) start), muS h.size, ⟨_, _, _, _, _, _, _, _, _, _, rfl, I0⟩, ?_⟩
  intro t18 t19 t20 t21 t22 t23 t24 t25 t26 t27 t28 t29 t30 t31 t32 t33 t34 t35 t36 t37 t38 t39 t40 t41 t42 t43 t44 t45 t46 t47 t48 t49 t50 t51 t53 t54 t55 t56 t52 t57 t58 t10 t11 t59 t60 t61 t62 t63 t64 t65 t66 t67 t70 t71 t72 t73 t74 t75 t76 t13 t77 t78 t79 t80 t81 t82 t83 t84 t85 t86 t87 t88 t89 t90 t91 t92 t93 t94 t95 t96 t97 t98 t99 t100 t101 t102 t103 t104 t105 t106 t107 t68 t69 t12 t108 t109 t110 t111 t112 t113 t114 t115 t116 t117 t118 t119 t14 t120 t121 t122 t123 t124 t125 t126 t127 t128 t15 t129 t130 t131 t132 t133 t134 t8 h7
  rintro ⟨st, nr, a, at_, sv, av, nv, bs, ba, bn, hv, I⟩
  obtain rfl : t8 = nv := by simpa using hv
  exact ref_round net I hR

def zero100 : Obj := .cells #[.slice none 0 0, .slice none 0 0, .int .i64 0, .bool false] 100 (0, 0)
theorem new_box100 (h : Hp) {a b : Value} {c : Int} {d : Bool} (ha : a.oneCell' = true) (hb : b.oneCell' = true) : stE 4 (h.push (.cells #[.slice none 0 0, .slice none 0 0, .int .i64 0, .bool false] 100 (0, 0))) (.pointer (some ⟨h.size, 0, none⟩)) (.agg #[a, b, .int .i64 c, .bool d]) =
    some ((h.push (.cells #[.slice none 0 0, .slice none 0 0, .int .i64 0, .bool false] 100 (0, 0))).setIfInBounds h.size (.cells #[a, b, .int .i64 c, .bool d] 100 (0, 0))) := by
  rw [stE_at _ (get_new h _)]; simp [splice, ha, hb]
theorem srW_hops (of : Int → List Arc × Int) (to : Int) : srW of ⟨true, to, -1, true⟩ = srHops of to := by simp [srW, srHops]
theorem srW_reach (of : Int → List Arc × Int) {most : Int} (hm : 0 ≤ most) : srW of ⟨false, 0, most, true⟩ = srReach of most := by
  have : ¬ most < 0 := by omega
  simp [srW, srReach, this]

theorem rest_len (S : Sr) : ∀ n st nr a, (restF S n st nr a).settled.length ≤ st.length + n
  | 0, st, nr, a => by
    unfold restF
    split <;> simp
  | n + 1, st, nr, a => by
    have h1 : ∀ st' nr' a', st'.length = st.length + 1 → (restF S n st' nr' a').settled.length ≤ st.length + (n + 1) := fun st' nr' a' e => by have := rest_len S n st' nr' a'; omega
    unfold restF
    split
    · simp
    · unfold settleF
      split
      · simp
      · split
        · split
          · simp
          · split
            · simp
            · exact h1 _ _ _ (by simp)
        · exact h1 _ _ _ (by simp)
theorem search_len (S : Sr) (start : Int) : (searchF S start).settled.length ≤ 4096 := by
  rw [← search_start]
  have := rest_len S 4096 [] [⟨start, 0⟩] []
  simpa using this
theorem rhops_spec {h : Hp} {v : Value} {rows : List NRow} {tail : Bool} (net : NetOk h v rows) (start to : Int) {R : Value → Hp → Prop}
    (hR : ∀ h' av ba, OwnS h' 2 1 av (ints (searchF (srHops (ofL rows tail) to) start).asked) ba → Fr h h' [] → (∀ b ∈ ba, h.size ≤ b) → R (.tuple #[.int .i64 (if (searchF (srHops (ofL rows tail) to) start).hit then lastSum (searchF (srHops (ofL rows tail) to) start) else 0), .bool (searchF (srHops (ofL rows tail) to) start).hit, .int .i64 (searchF (srHops (ofL rows tail) to) start).code, av]) h') :
    CallsH Tryd.prog 20 #[.agg #[v, .bool tail], .int .i64 start, .int .i64 to] h R := by
  refine f20.ok ?_
  unfold f20.T
  simp only [nw_eq, cells_agg, ptr0_eq]
  have f1 := Fr.push h (.cells #[v, .bool tail] 26 (0, 0)) []
  have g1 := get_new h (.cells #[v, .bool tail] 26 (0, 0))
  generalize h.push (.cells #[v, .bool tail] 26 (0, 0)) = h1 at *
  have l1 : ldA 2 h1 (.pointer (some ⟨h.size, 0, none⟩)) = some (.agg #[v, .bool tail]) := by rw [ldA_at g1]; simp
  simp only [l1, bnd_some, fill_want1]
  refine search_spec (net.fr f1) ⟨true, to, -1, true⟩ start fun h2 sv av bs ba L2 f2 => ?_
  rw [srW_hops] at L2 ⊢
  have hh := search_hit (srHops (ofL rows tail) to) start
  have hln := search_len (srHops (ofL rows tail) to) start
  have f1s := f1.size
  simp only [nw_eq, ptr0_eq, new_box100 h2 L2.os.one L2.oa.one, bnd_some]
  obtain ⟨f3, g3⟩ := box_fr h2 (.cells #[.slice none 0 0, .slice none 0 0, .int .i64 0, .bool false] 100 (0, 0)) (.cells #[sv, av, .int .i64 (searchF (srHops (ofL rows tail) to) start).code, .bool (searchF (srHops (ofL rows tail) to) start).hit] 100 (0, 0)) rfl rfl
  generalize (h2.push (.cells #[.slice none 0 0, .slice none 0 0, .int .i64 0, .bool false] 100 (0, 0))).setIfInBounds h2.size (.cells #[sv, av, .int .i64 (searchF (srHops (ofL rows tail) to) start).code, .bool (searchF (srHops (ofL rows tail) to) start).hit] 100 (0, 0)) = h4 at *
  have L4 := L2.fr' f3 (by simp)
  have fin := hR h4 av ba L4.oa ((f1.then f2).then f3) fun b hb => by have := L2.new.2.1 b hb; omega
  generalize searchF (srHops (ofL rows tail) to) start = fd at *
  simp only [fldE_ptr, Nat.zero_add, ldS_at g3, List.getElem?_toArray, List.getElem?_cons_succ, List.getElem?_cons_zero, bnd_some, bin_neq]
  cases hit : fd.hit
  · rw [hit] at fin
    by_cases hc : fd.code = 0
    · simpa [hc, hit, ldS_at g3] using fin
    · simpa [hc, isB_undef] using fin
  · obtain ⟨hc, st, s, hst, _⟩ := hh hit
    rw [hit, hc] at fin
    have hlen : fd.settled.length = st.length + 1 := by rw [hst]; simp
    obtain ⟨b, o, e, r0, r1⟩ := seen_read L4.os.rowv (j := st.length) (by omega)
    have hs : fd.settled[st.length]'(by omega) = s := by simp [hst]
    rw [hs] at r1
    have hls : lastSum fd = s.sum := by simp [lastSum, hst]
    have hbd : (fd.settled.map Seen.enc).length = st.length + 1 := by simp [hlen]
    have hsz : st.length + 1 ≤ 4096 := by omega
    have w1 : IntKind.i64.wrap (((fd.settled.map Seen.enc).length : Int) - 1) = (st.length : Int) := by rw [hbd, i64_id (by omega) (by omega)]; omega
    have hd : decide (fd.code ≠ 0) = false := by simp [hc]
    simp only [hd, isB_bool, beq_self_eq_true, cond_true, unE_not, Bool.not_true, asB_bool, Option.map_some, cond_false, bnd_some, condT_bool, Bool.false_eq_true, if_false, ldS_at g3, List.getElem?_toArray, List.getElem?_cons_succ, List.getElem?_cons_zero, L4.os.lenE, bin_sub, w1, e, fldE_ptr, r1]
    rw [hls] at fin
    simpa [hit] using fin

def OInv (h0 : Hp) (l : List Seen) (q : Nat) (sv av : Value) (bs ba : List Nat) (a : List Int) (vs : List Value) (h : Hp) : Prop :=
  ∃ (i : Nat) (v : Value) (bl : List Nat), vs = [v, .int .i64 i] ∧ i ≤ l.length ∧ OwnS h 2 1 v (ints (ids (l.take i))) bl ∧ (∀ b ∈ bl, h0.size ≤ b) ∧ Fr h0 h []

theorem rreach_spec {h : Hp} {v : Value} {rows : List NRow} {tail : Bool} (net : NetOk h v rows) (start : Int) {most : Int} (hm : 0 ≤ most) {R : Value → Hp → Prop}
    (hR : ∀ h' ov av bv ba, OwnS h' 2 1 ov (if (searchF (srReach (ofL rows tail) most) start).code = 0 then ints (ids (searchF (srReach (ofL rows tail) most) start).settled) else []) bv → OwnS h' 2 1 av (ints (searchF (srReach (ofL rows tail) most) start).asked) ba → Fr h h' [] → (∀ b ∈ bv, h.size ≤ b) → (∀ b ∈ ba, h.size ≤ b) → R (.tuple #[ov, .int .i64 (searchF (srReach (ofL rows tail) most) start).code, av]) h') :
    CallsH Tryd.prog 23 #[.agg #[v, .bool tail], .int .i64 start, .int .i64 most] h R := by
  refine f23.ok ?_
  unfold f23.T
  simp only [nw_eq, cells_agg, ptr0_eq]
  have f1 := Fr.push h (.cells #[v, .bool tail] 26 (0, 0)) []
  have g1 := get_new h (.cells #[v, .bool tail] 26 (0, 0))
  generalize h.push (.cells #[v, .bool tail] 26 (0, 0)) = h1 at *
  have l1 : ldA 2 h1 (.pointer (some ⟨h.size, 0, none⟩)) = some (.agg #[v, .bool tail]) := by rw [ldA_at g1]; simp
  have hmd : decide (most < 0) = false := by simp; omega
  simp only [bin_lss, hmd, condT_bool, Bool.false_eq_true, if_false, l1, bnd_some, fill_want2]
  refine search_spec (net.fr f1) ⟨false, 0, most, true⟩ start fun h2 sv av bs ba L2 f2 => ?_
  rw [srW_reach _ hm] at L2 ⊢
  have hln := search_len (srReach (ofL rows tail) most) start
  have f1s := f1.size
  have f2s := f2.size
  simp only [nw_eq, ptr0_eq, new_box100 h2 L2.os.one L2.oa.one, bnd_some]
  obtain ⟨f3, g3⟩ := box_fr h2 (.cells #[.slice none 0 0, .slice none 0 0, .int .i64 0, .bool false] 100 (0, 0)) (.cells #[sv, av, .int .i64 (searchF (srReach (ofL rows tail) most) start).code, .bool (searchF (srReach (ofL rows tail) most) start).hit] 100 (0, 0)) rfl rfl
  generalize (h2.push (.cells #[.slice none 0 0, .slice none 0 0, .int .i64 0, .bool false] 100 (0, 0))).setIfInBounds h2.size (.cells #[sv, av, .int .i64 (searchF (srReach (ofL rows tail) most) start).code, .bool (searchF (srReach (ofL rows tail) most) start).hit] 100 (0, 0)) = h4 at *
  have L4 := L2.fr' f3 (by simp)
  have f3s := f3.size
  have hba : ∀ b ∈ ba, h.size ≤ b := fun b hb => by have := L2.new.2.1 b hb; omega
  have F4 : Fr h h4 [] := (f1.then f2).then f3
  generalize searchF (srReach (ofL rows tail) most) start = fd at *
  simp only [fldE_ptr, Nat.zero_add, ldS_at g3, List.getElem?_toArray, List.getElem?_cons_succ, List.getElem?_cons_zero, bnd_some, bin_neq, condT_bool]
  by_cases hc : fd.code = 0
  · have hd : decide (fd.code ≠ 0) = false := by simp [hc]
    simp only [hd, Bool.false_eq_true, if_false]
    unfold f23.L1
    refine ⟨OInv h4 fd.settled h2.size sv av bs ba fd.asked, muF fd.settled.length, ⟨0, _, [], rfl, by omega, by simpa [ids, ints] using OwnS.nil h4 2 1, by simp, Fr.refl _ _⟩, ?_⟩
    intro t26 t27 t28 t29 t30 t33 t34 t35 t36 t37 t38 t39 t40 t41 t10 t31 t32 t11 h5
    rintro ⟨i, v5, bl5, hv, hi, o5, nb5, F5⟩
    obtain ⟨rfl, rfl⟩ : t10 = v5 ∧ t11 = .int .i64 i := by simpa using hv
    have g5 := F5.get g3 (by simp)
    have F5s := F5.size
    have os5 := L4.os.fr F5 (by simp)
    simp only [fldE_ptr, Nat.zero_add, ldS_at g5, List.getElem?_toArray, List.getElem?_cons_succ, List.getElem?_cons_zero, bnd_some, os5.lenE, bin_lss, condT_bool]
    by_cases hlt : i < fd.settled.length
    · have hdec : decide ((i : Int) < ((fd.settled.map Seen.enc).length : Int)) = true := by simp; omega
      have w1 : IntKind.i64.wrap ((i : Int) + 1) = ((i + 1 : Nat) : Int) := by rw [i64_id (by omega) (by omega)]; omega
      obtain ⟨b, o, e, r0, r1⟩ := seen_read os5.rowv (j := i) hlt
      simp only [hdec, if_true, e, fldE_ptr, Nat.add_zero, r0, bnd_some, fill_int, nw_eq]
      have f6 := Fr.push h5 (.cells #[.int .i64 fd.settled[i].id] 2 (0, 0)) []
      have g6 := get_new h5 (.cells #[.int .i64 fd.settled[i].id] 2 (0, 0))
      generalize h5.push (.cells #[.int .i64 fd.settled[i].id] 2 (0, 0)) = h6 at *
      refine own_app elem28 (o5.fr f6 (by simp)) (seg_one g6) (by simp) (by simp [ints, ids]; omega) (by simp [ints, ids]; omega) fun h7 v7 bl7 o7 f7 nb7 => ?_
      have f6s := f6.size
      simp only [bin_add, bnd_some, w1]
      refine ⟨⟨i + 1, v7, bl7, rfl, by omega, ?_, fun b hb => ?_, F5.trans (f6.trans f7 (by simp) (fun c _ hc => hc)) (fun _ _ h => h) (fun c hc hm => by have := nb5 c hm; omega)⟩, by simp only [muF, Int.toNat_natCast]; omega⟩
      · have e : ints (ids (fd.settled.take (i + 1))) = ints (ids (fd.settled.take i)) ++ [[.int .i64 fd.settled[i].id]] := by
          rw [List.take_add_one, List.getElem?_eq_getElem hlt, Option.toList_some, ids, List.map_append, ints, List.map_append]; rfl
        rw [e]; exact o7
      · rcases nb7 b hb with h | h
        · exact nb5 b h
        · omega
    · have hdec : decide ((i : Int) < ((fd.settled.map Seen.enc).length : Int)) = false := by simp; omega
      obtain rfl : i = fd.settled.length := by omega
      rw [List.take_length] at o5
      simp only [hdec, Bool.false_eq_true, if_false]
      have := hR h5 t10 av bl5 ba (by simpa [hc] using o5) (L4.oa.fr F5 (by simp)) (F4.then F5) (fun b hb => by have := nb5 b hb; omega) hba
      rwa [hc] at this
  · have hd : decide (fd.code ≠ 0) = true := by simp [hc]
    simp only [hd, if_true]
    exact hR h4 _ av [] ba (by simpa [hc] using OwnS.nil h4 2 1) L4.oa F4 (by simp) hba
theorem rreach_none {h : Hp} {v : Value} {tail : Bool} (start : Int) {most : Int} (hm : most < 0) {R : Value → Hp → Prop} (hR : ∀ h', Fr h h' [] → R (.tuple #[.slice none 0 0, .int .i64 1, .slice none 0 0]) h') :
    CallsH Tryd.prog 23 #[.agg #[v, .bool tail], .int .i64 start, .int .i64 most] h R := by
  refine f23.ok ?_
  unfold f23.T
  have f1 := Fr.push h (.cells #[v, .bool tail] 26 (0, 0)) []
  simpa [hm] using hR _ f1
end Go.Proofs.YtkiakofohkecaaaDoor
