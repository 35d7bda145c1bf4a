/- The program's look: the arcs of a node that was settled. No condition but that the memory is as told. -/
import Derived.Test.YtkiakofohkecaaaDoorE16
namespace Go.Proofs.YtkiakofohkecaaaDoor
open Go Go.Fw

theorem zcells (m : Mark) : m.val.cells = #[.int .i64 m.sum, .int .i64 m.from_, .int .i64 m.edge, .bool m.done] := rfl
theorem new_box4 (h : Hp) (a b c : Int) (d : Bool) : stE 4 (h.push (.cells #[.int .i64 0, .int .i64 0, .int .i64 0, .bool false] 93 (0, 0))) (.pointer (some ⟨h.size, 0, none⟩)) (.agg #[.int .i64 a, .int .i64 b, .int .i64 c, .bool d]) =
    some ((h.push (.cells #[.int .i64 0, .int .i64 0, .int .i64 0, .bool false] 93 (0, 0))).setIfInBounds h.size (.cells #[.int .i64 a, .int .i64 b, .int .i64 c, .bool d] 93 (0, 0))) := by
  rw [stE_at _ (get_new h _)]; simp [splice]
theorem new_box3 (h : Hp) (a b c : Int) : stE 3 (h.push (.cells #[.int .i64 0, .int .i64 0, .int .i64 0] 62 (0, 0))) (.pointer (some ⟨h.size, 0, none⟩)) (.agg #[.int .i64 a, .int .i64 b, .int .i64 c]) =
    some ((h.push (.cells #[.int .i64 0, .int .i64 0, .int .i64 0] 62 (0, 0))).setIfInBounds h.size (.cells #[.int .i64 a, .int .i64 b, .int .i64 c] 62 (0, 0))) := by
  rw [stE_at _ (get_new h _)]; simp [splice]
theorem box_fr (h : Hp) (o o' : Obj) (ho : frz (some o) = (0, 0)) (ho' : frz (some o') = (0, 0)) : Fr h ((h.push o).setIfInBounds h.size o') [] ∧ ((h.push o).setIfInBounds h.size o')[h.size]? = some o' :=
  ⟨(Fr.push h o [] ho).set_new (Nat.le_refl _) o' ho', get_set (get_new h o)⟩

theorem look_J3 {h : Hp} {p pm pn q3 q8 : Nat} {fv : Value} {hops : Bool} {M : List (Int × Mark)} {its : List Item} {ck : Int} {bl : List Nat} {order : List Int} {bo : List Nat} (H : SrAt h p pm pn fv hops M its ck bl order bo)
    {sum id w edge to wg : Int} (g3 : h[q3]? = some (.cells #[.int .i64 sum, .int .i64 id] 134 (0, 0))) (g8 : h[q8]? = some (.cells #[.int .i64 edge, .int .i64 to, .int .i64 wg] 62 (0, 0)))
    (hlen : its.length < 1099511627776) (hck : 0 ≤ ck ∧ ck < 1099511627776) (h0 : 0 ≤ sum) (hw : 0 ≤ w) (hf : sum + w ≤ 1099511627776)
    (n3 : q3 ∉ SB p pm pn bl bo) (n8 : q8 ∉ SB p pm pn bl bo) {t27 : Value} {I1 : List Value → Hp → Prop} {μ1 : List Value → Hp → Nat} {h_3 : Hp}
    (skip : ∀ k, gget M to = some k → k.sum ≤ sum + w → ∀ h', SrAt h' p pm pn fv hops M its ck bl order bo → Fr h h' [] → f71.J1 t27 I1 h' μ1 h_3)
    (take : (∀ k, gget M to = some k → sum + w < k.sum) → ∀ h' bl', SrAt h' p pm pn fv hops (gset M to ⟨sum + w, id, edge, false⟩) (siftUp ltOffer (its ++ [⟨sum + w, to, ck⟩]) its.length) (ck + 1) bl' order bo → Fr h h' (pm :: pn :: bl) → (∀ b ∈ bl', b ∈ bl ∨ h.size ≤ b) → f71.J1 t27 I1 h' μ1 h_3) :
    f71.J3 (.pointer (some ⟨p, 0, none⟩)) h (.pointer (some ⟨q8, 0, none⟩)) (.pointer (some ⟨q3, 0, none⟩)) (.int .i64 w) t27 I1 μ1 h_3 := by
  obtain ⟨ov, e, o⟩ := H.top
  have key : ∀ z : Mark, (∀ k, gget M to = some k → z = k) → f71.J2 (.bool (gget M to).isSome) (.pointer (some ⟨h.size, 0, none⟩)) ((h.push (.cells #[.int .i64 0, .int .i64 0, .int .i64 0, .bool false] 93 (0, 0))).setIfInBounds h.size (.cells #[.int .i64 z.sum, .int .i64 z.from_, .int .i64 z.edge, .bool z.done] 93 (0, 0))) (.pointer (some ⟨q3, 0, none⟩)) (.int .i64 w) t27 I1 μ1 h_3 (.pointer (some ⟨p, 0, none⟩)) (.pointer (some ⟨q8, 0, none⟩)) := fun z hz => by
    obtain ⟨f, g⟩ := box_fr h (.cells #[.int .i64 0, .int .i64 0, .int .i64 0, .bool false] 93 (0, 0)) (.cells #[.int .i64 z.sum, .int .i64 z.from_, .int .i64 z.edge, .bool z.done] 93 (0, 0)) rfl rfl
    generalize (h.push (.cells #[.int .i64 0, .int .i64 0, .int .i64 0, .bool false] 93 (0, 0))).setIfInBounds h.size (.cells #[.int .i64 z.sum, .int .i64 z.from_, .int .i64 z.edge, .bool z.done] 93 (0, 0)) = h9 at *
    have H9 := H.fr f (by simp)
    have fs := f.size
    refine look_J2 H9 (f.get g3 (by simp)) (f.get g8 (by simp)) g hz hlen hck h0 hw hf n3 n8 (fun k hk hle => skip k hk hle h9 H9 f) fun hk h' bl' H' f' hb => take hk h' bl' H' (f.trans f' (by simp) (fun c _ hc => hc)) fun b hb' => (hb b hb').imp_right fun h => by omega
  have hval : ∃ z : Mark, (∀ k, gget M to = some k → z = k) ∧ ((gget M to).map Mark.val).getD (.agg #[.int .i64 0, .int .i64 0, .int .i64 0, .bool false]) = z.val := by
    cases hg : gget M to with
    | none => exact ⟨⟨0, 0, 0, false⟩, ⟨fun k hk => by simp at hk, rfl⟩⟩
    | some k => exact ⟨k, ⟨fun k' hk => Option.some.inj hk, rfl⟩⟩
  obtain ⟨z, hz, hv⟩ := hval
  have kz := key z hz
  unfold f71.J3
  constructor
  · simp only [nilE_ptr, bnd_some, fldE_ptr, Nat.zero_add, ldS_at e, ldS_at g8, List.getElem?_toArray, List.getElem?_cons_succ, List.getElem?_cons_zero]
    refine H.look (ok := true) ?_
    simp only [if_true, hv, extE_tuple, List.getElem?_toArray, List.getElem?_cons_succ, List.getElem?_cons_zero, bnd_some, nw_eq, ptr0_eq, Mark.val, new_box4]
    exact kz
  · have f := Fr.push h (.cells #[.int .i64 0, .int .i64 0, .int .i64 0, .bool false] 93 (0, 0)) []
    simp only [nilE_ptr, bnd_some, fldE_ptr, Nat.zero_add, ldS_at e, ldS_at g8, List.getElem?_toArray, List.getElem?_cons_succ, List.getElem?_cons_zero, nw_eq, ptr0_eq]
    refine (H.fr f (by simp)).look (ok := true) ?_
    simp only [if_true, hv, extE_tuple, List.getElem?_toArray, List.getElem?_cons_succ, List.getElem?_cons_zero, bnd_some, Mark.val, new_box4]
    exact kz

def LInv (l : List Arc) (st : List Seen) (at_ : Seen) (start : Int) (hops : Bool) (nr0 : List Seen) (log0 : List (Seen × Arc)) (p pm pn : Nat) (fv : Value) (order : List Int) (bo : List Nat) (n0 : Nat) (ck0 : Int) (bl0 : List Nat) (h2 : Hp) (vs : List Value) (h : Hp) : Prop :=
  ∃ (j : Nat) (M : List (Int × Mark)) (its : List Item) (ck : Int) (bl : List Nat) (nr : List Seen), vs = [.int .i64 j] ∧ j ≤ l.length ∧ SrAt h p pm pn fv hops M its ck bl order bo ∧ Sim start hops st nr its M (log0 ++ (l.take j).map fun a => (at_, a)) ∧ (∀ t ∈ nr, at_.sum ≤ t.sum) ∧
    arcsL hops st at_.sum (l.drop j) nr = arcsL hops st at_.sum l nr0 ∧ its.length ≤ n0 + j ∧ 0 ≤ ck ∧ ck ≤ ck0 + j ∧ Fr h2 h (pm :: pn :: bl0) ∧ ∀ b ∈ bl, b ∈ bl0 ∨ h2.size ≤ b
/-- What a look tells. -/
def lookC (S : Sr) (st : List Seen) (at_ : Seen) (nr : List Seen) : Int := if (S.of at_.id).2 ≠ 0 then (S.of at_.id).2 else (arcsL S.hops st at_.sum (S.of at_.id).1 nr).1

set_option maxHeartbeats 2000000 in
theorem look_spec {h0 h : Hp} {fv : Value} {S : Sr} {Sh : List Int → List Nat → Hp → Prop} (A : ArcsOk h0 fv S.of Sh) {a : List Int} {B : List Nat} (hs : Sh a B h) (ha : a.length ≤ 1048576)
    {p pm pn : Nat} {M : List (Int × Mark)} {its : List Item} {ck : Int} {bl : List Nat} {order : List Int} {bo : List Nat} (H : SrAt h p pm pn fv S.hops M its ck bl order bo) (hd : ∀ b ∈ SB p pm pn bl bo, h0.size ≤ b ∧ b ∉ B)
    {start : Int} {st nr : List Seen} {log : List (Seen × Arc)} (sim : Sim start S.hops st nr its M log) {at_ : Seen} (hm : at_ ∈ st) (hat : ∀ s ∈ st, s.sum ≤ at_.sum) (hnr : ∀ t ∈ nr, at_.sum ≤ t.sum) (hh : S.hops = true → at_.sum + 1 ≤ st.length) (hst : st.length ≤ 4096)
    (hlen : its.length ≤ 8589934592) (hck : 0 ≤ ck ∧ ck ≤ 8589934592) {R : Value → Hp → Prop}
    (hR : ∀ h' B' M' its' ck' bl', Sh (a ++ [at_.id]) B' h' → SrAt h' p pm pn fv S.hops M' its' ck' bl' order bo → Fr h h' (pm :: pn :: (bl ++ B)) → (∀ b ∈ B', b ∈ B ∨ h.size ≤ b) → (∀ b ∈ SB p pm pn bl' bo, h0.size ≤ b ∧ b ∉ B') → (∀ b ∈ bl', b ∈ bl ∨ h.size ≤ b) →
      (lookC S st at_ nr = 0 → Sim start S.hops st (arcsL S.hops st at_.sum (S.of at_.id).1 nr).2 its' M' (log ++ (S.of at_.id).1.map fun a => (at_, a)) ∧ (S.of at_.id).2 = 0 ∧ its'.length ≤ its.length + 1048576 ∧ 0 ≤ ck' ∧ ck' ≤ ck + 1048576) → R (.int .i64 (lookC S st at_ nr)) h') :
    CallsH Tryd.prog 71 #[.pointer (some ⟨p, 0, none⟩), .agg #[.int .i64 at_.sum, .int .i64 at_.id]] h R := by
  obtain ⟨ov, e, o⟩ := H.top
  have hlt := H.lt
  have ltB := A.lt hs
  refine f71.ok ?_
  unfold f71.T
  simp only [nw_eq, cells_agg, ptr0_eq]
  have f1 := Fr.push h (.cells #[.int .i64 at_.sum, .int .i64 at_.id] 134 (0, 0)) []
  have g3 := get_new h (.cells #[.int .i64 at_.sum, .int .i64 at_.id] 134 (0, 0))
  generalize h.push (.cells #[.int .i64 at_.sum, .int .i64 at_.id] 134 (0, 0)) = h1 at *
  have e1 := f1.get e (by simp)
  simp only [nilE_ptr, bnd_some, fldE_ptr, Nat.zero_add, ldS_at e1, ldS_at g3, List.getElem?_toArray, List.getElem?_cons_succ, List.getElem?_cons_zero]
  have hs1 := A.fr hs f1 (by simp)
  refine A.call at_.id hs1 ha fun h2 v B' hs2 f2 hB' rv => ?_
  have s1 := f1.size
  have s2 := f2.size
  have q3B : h.size ∉ B := fun hb => by have := (ltB.2 _ hb).2; omega
  have g3' := f2.get g3 q3B
  have F2 : Fr h h2 B := f1.trans f2 (by simp) (fun c _ hc => hc)
  have H2 := H.fr F2 fun b hb => (hd b hb).2
  have lt2 := H2.lt
  have ltB' := A.lt hs2
  have hB'' : ∀ b ∈ B', b ∈ B ∨ h.size ≤ b := fun b hb => (hB' b hb).imp_right fun h => by omega
  have dis : ∀ (bl' : List Nat), (∀ b ∈ bl', b ∈ bl ∨ h2.size ≤ b) → ∀ b ∈ SB p pm pn bl' bo, h0.size ≤ b ∧ b ∉ B' := fun bl' hb' b hb => by
    have : b ∈ SB p pm pn bl bo ∨ h2.size ≤ b := by
      simp only [SB, List.mem_cons, List.mem_append] at hb ⊢
      rcases hb with h | h | h | h | h
      · exact .inl (.inl h)
      · exact .inl (.inr (.inl h))
      · exact .inl (.inr (.inr (.inl h)))
      · exact (hb' b h).imp_left fun h => .inr (.inr (.inr (.inl h)))
      · exact .inl (.inr (.inr (.inr (.inr h))))
    rcases this with h | h
    · refine ⟨(hd b h).1, fun hb' => ?_⟩
      rcases hB'' b hb' with h' | h'
      · exact (hd b h).2 h'
      · have := hlt b h; omega
    · exact ⟨by have := ltB.1; omega, fun hb' => by have := (ltB'.2 b hb').2; omega⟩
  simp only [extE_tuple, List.getElem?_toArray, List.getElem?_cons_succ, List.getElem?_cons_zero, bnd_some, bin_neq, condT_bool]
  by_cases hc : (S.of at_.id).2 = 0
  · have hd0 : decide ((S.of at_.id).2 ≠ 0) = false := by simp [hc]
    simp only [hd0, Bool.false_eq_true, if_false]
    have hlk : lookC S st at_ nr = (arcsL S.hops st at_.sum (S.of at_.id).1 nr).1 := by simp [lookC, hc]
    have hal := A.len at_.id
    generalize hl : (S.of at_.id).1 = l at *
    obtain ⟨av, cv, rfl, xv⟩ := id rv
    simp only [lenE_sl, bnd_some, List.length_map]
    have fin : ∀ h' M' its' ck' bl' nr' (j : Nat), SrAt h' p pm pn fv S.hops M' its' ck' bl' order bo → Fr h2 h' (pm :: pn :: bl) → (∀ b ∈ bl', b ∈ bl ∨ h2.size ≤ b) → j ≤ l.length → Sim start S.hops st nr' its' M' (log ++ (l.take j).map fun a => (at_, a)) → (lookC S st at_ nr = 0 → j = l.length ∧ (arcsL S.hops st at_.sum l nr).2 = nr') → its'.length ≤ its.length + j → 0 ≤ ck' → ck' ≤ ck + j → R (.int .i64 (lookC S st at_ nr)) h' :=
      fun h' M' its' ck' bl' nr' j H' f' hb' hj sim' hz hi hc0 hc1 => by
        refine hR h' B' M' its' ck' bl' (A.fr hs2 f' fun b hb => ?_) H' (F2.trans f' (fun c _ hc => by simp [hc]) (fun c _ hc => by simp only [List.mem_cons] at hc; rcases hc with h | h | h <;> simp [h])) hB'' (dis bl' hb') (fun b hb => (hb' b hb).imp_right fun h => by omega) fun h0' => ?_
        · exact dis bl (fun b hb => .inl hb) b (by simp only [SB, List.mem_cons, List.mem_append] at hb ⊢; rcases hb with h | h | h <;> simp [h])
        · obtain ⟨rfl, e2⟩ := hz h0'
          rw [List.take_length] at sim'
          rw [e2]
          exact ⟨sim', hc, by omega, hc0, by omega⟩
    unfold f71.L1
    refine ⟨LInv l st at_ start S.hops nr log p pm pn fv order bo its.length ck bl h2, muI l.length, ⟨0, M, its, ck, bl, nr, rfl, by omega, H2, by simpa using sim, hnr, rfl, by omega, hck.1, by omega, Fr.refl _ _, fun b hb => .inl hb⟩, ?_⟩
    intro t28 t29 t30 t8 t31 t32 t34 t35 t36 t37 t33 t9 t39 t40 t38 t42 t43 t44 t45 t46 t41 t4 t48 t49 t50 t51 t52 t53 t54 t47 t55 t56 t10 t11 t57 t58 t59 t60 t61 t62 t63 t64 t65 t66 t67 t68 t69 t70 t71 t72 t73 t74 t75 t76 t77 t78 t79 t80 t81 t82 t83 t84 t85 t86 t87 t88 t89 t90 t91 t92 t93 t94 t27 h3
    rintro ⟨j, M3, its3, ck3, bl3, nr3, hv, hj, H3, sim3, hnr3, har, hi3, hc30, hc31, f3, hb3⟩
    obtain rfl : t27 = .int .i64 j := by simpa using hv
    simp only [bin_lss, bnd_some, condT_bool]
    have s3 := f3.size
    have hx0 : ∀ b ∈ pm :: pn :: bl, b ∈ SB p pm pn bl bo := fun b hb => by simp only [SB, List.mem_cons, List.mem_append] at hb ⊢; rcases hb with h | h | h <;> simp [h]
    have q3S : h.size ∉ pm :: pn :: bl := fun hb => by have := hlt _ (hx0 _ hb); omega
    have g3'' := f3.get g3' q3S
    by_cases hlt' : j < l.length
    · have hdec : decide ((j : Int) < (l.length : Int)) = true := by simp; omega
      have w1 : IntKind.i64.wrap ((j : Int) + 1) = ((j + 1 : Nat) : Int) := by rw [i64_id (by omega) (by omega)]; omega
      have rv3 := rv.fr f3 fun b hb hb' => (dis bl (fun b hb => .inl hb) b (hx0 b hb')).2 hb
      obtain ⟨bb, oo, ei, hbl, rd⟩ := rv3.rowv.get (i := j) (x := (l[j]).enc) (by simp [hlt']) .i64
      have rall := (rd h3 (Fr.refl _ _)).2
      simp only [Arc.enc, List.length_map] at ei rall
      simp only [hdec, if_true, ei, rall, bnd_some, nw_eq, ptr0_eq, new_box3]
      obtain ⟨f5, g8⟩ := box_fr h3 (.cells #[.int .i64 0, .int .i64 0, .int .i64 0] 62 (0, 0)) (.cells #[.int .i64 l[j].edge, .int .i64 l[j].to, .int .i64 l[j].weight] 62 (0, 0)) rfl rfl
      generalize (h3.push (.cells #[.int .i64 0, .int .i64 0, .int .i64 0] 62 (0, 0))).setIfInBounds h3.size (.cells #[.int .i64 l[j].edge, .int .i64 l[j].to, .int .i64 l[j].weight] 62 (0, 0)) = h5 at *
      have H5 := H3.fr f5 (by simp)
      obtain ⟨ov5, e5, o5⟩ := H5.top
      have lt3 := H3.lt
      have lg3 := lt_of_get g3
      have s5 := f5.size
      have g35 := f5.get g3'' (by simp)
      have n8 : h3.size ∉ SB p pm pn bl3 bo := fun hb => by have := lt3 _ hb; omega
      have n3 : h.size ∉ SB p pm pn bl3 bo := fun hb => by
        simp only [SB, List.mem_cons, List.mem_append] at hb
        have hx : ∀ b ∈ SB p pm pn bl bo, b ≠ h.size := fun b hb => by have := hlt b hb; omega
        simp only [SB, List.mem_cons, List.mem_append] at hx
        rcases hb with h | h | h | h | h
        · exact hx _ (.inl h) rfl
        · exact hx _ (.inr (.inl h)) rfl
        · exact hx _ (.inr (.inr (.inl h))) rfl
        · rcases hb3 _ h with h | h
          · exact hx _ (.inr (.inr (.inr (.inl h)))) rfl
          · omega
        · exact hx _ (.inr (.inr (.inr (.inr h)))) rfl
      have hdr : l.drop j = l[j] :: l.drop (j + 1) := List.drop_eq_getElem_cons hlt'
      have hlog : (log ++ (l.take j).map fun a => (at_, a)) ++ [(at_, l[j])] = log ++ (l.take (j + 1)).map fun a => (at_, a) := by
        rw [List.take_add_one, List.getElem?_eq_getElem hlt', Option.toList_some, List.map_append, List.append_assoc]; rfl
      have hat0 := (sim3.top at_ (by simp [hm])).1
      have mu := fun h' => muI_lt h3 h' hlt'
      have step : 0 ≤ wt S.hops l[j] → wt S.hops l[j] ≤ 1099511627776 - at_.sum → f71.J3 (.pointer (some ⟨p, 0, none⟩)) h5 (.pointer (some ⟨h3.size, 0, none⟩)) (.pointer (some ⟨h.size, 0, none⟩)) (.int .i64 (wt S.hops l[j])) (.int .i64 (j : Int)) (LInv l st at_ start S.hops nr log p pm pn fv order bo its.length ck bl h2) (muI l.length) h3 := fun hw0 hwf => by
        have hne0 : ¬ wt S.hops l[j] < 0 := by omega
        have hnef : ¬ 1099511627776 - at_.sum < wt S.hops l[j] := by omega
        rw [hdr] at har
        simp only [arcsL, if_neg hne0, if_neg hnef] at har
        refine look_J3 H5 g35 g8 (by omega) ⟨hc30, by omega⟩ hat0 hw0 (by omega) n3 n8 (fun k hk hle h' H' f' => ?_) fun hk h' bl' H' f' hb' => ?_
        · obtain ⟨sim', en⟩ := sim3.skip hm hk hle
          rw [hlog] at sim'
          rw [en] at har
          unfold f71.J1
          simp only [bin_add, bnd_some, w1]
          exact ⟨⟨j + 1, M3, its3, ck3, bl3, nr3, rfl, by omega, H', sim', hnr3, har, by omega, hc30, by omega, f3.trans (f5.then f') (fun _ _ h => h) (by simp), hb3⟩, mu h'⟩
        · obtain ⟨sim', hlow⟩ := sim3.take hm hat hnr3 hh hw0 hwf hk ck3
          rw [hlog] at sim'
          unfold f71.J1
          simp only [bin_add, bnd_some, w1]
          refine ⟨⟨j + 1, _, _, ck3 + 1, bl', _, rfl, by omega, H', sim', hlow, har, ?_, by omega, by omega, f3.trans (f5.trans f' (by simp) (fun c _ hc => hc)) (fun _ _ h => h) (fun c hc hm' => ?_), fun b hb => ?_⟩, mu h'⟩
          · rw [siftUp_len _ (by simp)]; simp; omega
          · simp only [List.mem_cons] at hm' ⊢
            rcases hm' with h | h | h
            · exact .inl h
            · exact .inr (.inl h)
            · rcases hb3 _ h with h | h
              · exact .inr (.inr h)
              · omega
          · rcases hb' b hb with h | h
            · exact hb3 b h
            · exact .inr (by omega)
      simp only [fldE_ptr, bnd_some, Nat.zero_add, ldS_at g8, ldS_at e5, nilE_ptr, List.getElem?_toArray, List.getElem?_cons_succ, List.getElem?_cons_zero, condT_bool]
      cases hop : S.hops
      · simp only [Bool.false_eq_true, if_false, bin_lss, bnd_some, condT_bool]
        have hwe : wt S.hops l[j] = l[j].weight := by simp [wt, hop]
        by_cases hneg : l[j].weight < 0
        · simp only [hneg, decide_true, if_true]
          have har' : (arcsL S.hops st at_.sum l nr).1 = 90 := by rw [← har, hdr]; simp [arcsL, hwe, hneg]
          have := fin h5 M3 its3 ck3 bl3 nr3 j H5 (f3.trans f5 (fun _ _ h => h) (by simp)) hb3 hj sim3 (fun h0' => by rw [hlk, har'] at h0'; cases h0') hi3 hc30 hc31
          rwa [hlk, har'] at this
        · simp only [hneg, decide_false, Bool.false_eq_true, if_false, ldS_at g35, List.getElem?_toArray, List.getElem?_cons_zero, bnd_some, bin_sub, bin_gtr, condT_bool]
          have hatt := (sim3.top at_ (by simp [hm])).2.1
          have w2 : IntKind.i64.wrap (1099511627776 - at_.sum) = 1099511627776 - at_.sum := i64_id (by omega) (by omega)
          rw [w2]
          by_cases hfar : 1099511627776 - at_.sum < l[j].weight
          · have hfar' : decide (l[j].weight > 1099511627776 - at_.sum) = true := decide_eq_true hfar
            simp only [hfar', if_true]
            have har' : (arcsL S.hops st at_.sum l nr).1 = 91 := by rw [← har, hdr]; simp [arcsL, hwe, hneg, hfar]
            have := fin h5 M3 its3 ck3 bl3 nr3 j H5 (f3.trans f5 (fun _ _ h => h) (by simp)) hb3 hj sim3 (fun h0' => by rw [hlk, har'] at h0'; cases h0') hi3 hc30 hc31
            rwa [hlk, har'] at this
          · have hfar' : decide (l[j].weight > 1099511627776 - at_.sum) = false := decide_eq_false hfar
            simp only [hfar', Bool.false_eq_true, if_false]
            have := step (by omega) (by omega)
            rw [hwe, hop] at this
            exact this
      · have hwe : wt S.hops l[j] = 1 := by simp [wt, hop]
        have := hh hop
        have := step (by omega) (by omega)
        rw [hwe, hop] at this
        simpa only [if_true] using this
    · have hdec : decide ((j : Int) < (l.length : Int)) = false := by simp; omega
      obtain rfl : j = l.length := by omega
      simp only [hdec, Bool.false_eq_true, if_false]
      have har' : arcsL S.hops st at_.sum l nr = (0, nr3) := by rw [← har]; simp [arcsL]
      have := fin h3 M3 its3 ck3 bl3 nr3 l.length H3 f3 hb3 (by omega) sim3 (fun _ => ⟨rfl, by rw [har']⟩) hi3 hc30 hc31
      rwa [hlk, har'] at this
  · have hd0 : decide ((S.of at_.id).2 ≠ 0) = true := by simp [hc]
    simp only [hd0, if_true]
    have hlk : lookC S st at_ nr = (S.of at_.id).2 := by simp [lookC, hc]
    have := hR h2 B' M its ck bl hs2 H2 (F2.mono fun c _ hc => by simp [hc]) hB'' (dis bl fun b hb => .inl hb) (fun b hb => .inl hb) (fun h0' => absurd (hlk ▸ h0') hc)
    rwa [hlk] at this
end Go.Proofs.YtkiakofohkecaaaDoor
