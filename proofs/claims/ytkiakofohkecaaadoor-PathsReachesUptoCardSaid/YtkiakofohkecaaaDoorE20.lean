/- The program's run, whole; a new search; the program's Hops and Reach. No condition but that the memory is as told. -/
import Derived.Test.YtkiakofohkecaaaDoorE19
namespace Go.Proofs.YtkiakofohkecaaaDoor
open Go Go.Fw

theorem fill_zmark : (fillS [(0, 1), (1, 1), (2, 1), (3, 1)] #[(.int .i64 0), (.int .i64 0), (.int .i64 0), (.bool false)] []).map Value.agg = some (Mark.val ⟨0, 0, 0, false⟩) := by kernel_rfl

set_option maxHeartbeats 1000000 in
theorem run_spec {h0 hs : Hp} {S : Sr} {Sh : List Int → List Nat → Hp → Prop} {a0 : List Int} {B0 : List Nat} {p pm pn : Nat} {fv t2 t3 : Value} {start : Int}
    (A : ArcsOk h0 fv S.of Sh) (hsh : Sh a0 B0 hs) (H : SrAt hs p pm pn fv S.hops [] [] 0 [] [] []) (hd : ∀ b ∈ SB p pm pn [] [], h0.size ≤ b ∧ b ∉ B0) (ha : a0.length ≤ 1000000) {L : List (Nat × Obj)} (ov : FnOk L t2 S.over) (asx : FnOk L t3 S.asks) (hL : Has hs L) (hLd : ∀ x ∈ L, x.1 ∉ p :: pm :: pn :: B0)
    {R : Value → Hp → Prop} (hR : ∀ h' B', RunEnd h0 hs S Sh a0 B0 p pm pn fv start h' B' → R (.tuple #[.bool (searchF S start).hit, .int .i64 (searchF S start).code]) h') :
    CallsH Tryd.prog 49 #[.pointer (some ⟨p, 0, none⟩), .int .i64 start, t2, t3] hs R := by
  obtain ⟨ovv, e, o⟩ := H.top
  have hlt := H.lt
  have ltB := A.lt hsh
  refine f49.ok ?_
  unfold f49.T
  simp only [nilE_ptr, bnd_some, fldE_ptr, Nat.zero_add, ldS_at e, List.getElem?_toArray, List.getElem?_cons_succ, List.getElem?_cons_zero, fill_zmark]
  refine H.mark fun h1 H1 f1 => ?_
  obtain ⟨ov1, e1, o1⟩ := H1.top
  simp only [nilE_ptr, bnd_some, fldE_ptr, Nat.zero_add, ldS_at e1, List.getElem?_toArray, List.getElem?_cons_succ, List.getElem?_cons_zero, fill_offer]
  refine H1.push (by simp) (by simp) fun h2 bl2 H2 f2 hb2 => ?_
  have f1s := f1.size
  have F2 : Fr hs h2 [pm, pn] := f1.trans f2 (fun c _ hc => by simp at hc; simp [hc]) (fun c _ hc => by simp at hc; simp [hc])
  have hbl2 : ∀ b ∈ bl2, hs.size ≤ b := fun b hb => by rcases hb2 b hb with h | h; simp at h; omega
  have dis2 : ∀ b ∈ SB p pm pn bl2 [], h0.size ≤ b ∧ b ∉ B0 := fun b hb => by
    have : b ∈ SB p pm pn [] [] ∨ hs.size ≤ b := by
      simp only [SB, List.mem_cons, List.mem_append, List.not_mem_nil, or_false] at hb ⊢
      rcases hb with h | h | h | h
      · simp [h]
      · simp [h]
      · simp [h]
      · exact .inr (hbl2 b h)
    rcases this with h | h
    · exact hd b h
    · exact ⟨by have := ltB.1; omega, fun hb => by have := (ltB.2 b hb).2; omega⟩
  have I0 : RunInv h0 hs S Sh a0 B0 p pm pn fv start [] h2 := by
    refine ⟨[], [⟨start, 0⟩], _, _, 0 + 1, bl2, [], [], B0, by simpa using A.fr hsh F2 fun b hb => hd b (by simp [SB] at hb ⊢; rcases hb with h | h <;> simp [h]), H2, Sim.start start S.hops, search_start S start, by simp, by simp, ?_, by simp, dis2, F2.mono fun c _ hc => by simp at hc; rcases hc with h | h <;> simp [h], fun b hb => hbl2 b (by simpa using hb), fun b hb => .inl hb⟩
    rw [siftUp_len _ (by simp)]; simp
  generalize hit0 : siftUp ltOffer ([] ++ [(⟨0, start, 0⟩ : Item)]) ([] : List Item).length = its0 at *
  unfold f49.L1
  refine ⟨RunInv h0 hs S Sh a0 B0 p pm pn fv start, muR p pn, I0, ?_⟩
  intro t28 t29 t30 t31 t32 t27 t33 t34 t10 t11 t35 t36 t37 t38 t39 t40 t41 t42 t43 t12 t44 t45 t46 t47 t48 t49 t50 t51 t52 t53 t54 t55 t56 t57 t58 t59 t60 t61 t62 t63 t64 t65 t66 t67 t68 t69 t70 t71 t72 t73 t74 t75 t76 t77 t78 t79 t80 t81 t82 t83 t84 t85 t86 t87 t88 t13 t89 t90 t91 t8 t9 h3
  rintro ⟨st, nr, its, M, ck, bl, bo, a, B, I⟩
  obtain ⟨ov3, e3, o3⟩ := I.sr.top
  have lt3 := I.sr.lt
  have hLd' : ∀ x ∈ L, x.1 < hs.size := fun x hx => lt_of_get (hL x hx)
  have hL3 : Has h3 L := hL.fr I.fr hLd
  have hLd3 : ∀ x ∈ L, x.1 ∉ SB p pm pn bl bo := fun x hx hb => by
    have h1 := hLd x hx
    have h2 := hLd' x hx
    simp only [SB, List.mem_cons] at hb
    simp only [List.mem_cons, not_or] at h1
    rcases hb with h | h | h | h
    · exact h1.1 h
    · exact h1.2.1 h
    · exact h1.2.2.1 h
    · have := I.new _ h; omega
  have hn1 := I.n1
  have hn3 := I.n3
  simp only [nilE_ptr, bnd_some, fldE_ptr, Nat.zero_add, ldS_at e3, List.getElem?_toArray, List.getElem?_cons_succ, List.getElem?_cons_zero]
  refine I.sr.pop (by omega) (fun h4 hi H4 f4 => ?_) fun h4 x rest hi H4 f4 => ?_
  · simp only [extE_tuple, List.getElem?_toArray, List.getElem?_cons_succ, List.getElem?_cons_zero, bnd_some, nw_eq, ptr0_eq, new_box2, unE_not, Bool.not_false, condT_bool, if_true]
    obtain ⟨f6, _⟩ := box_fr h4 (.cells #[.int .i64 0, .int .i64 0] 134 (0, 0)) (.cells #[.int .i64 0, .int .i64 0] 134 (0, 0)) rfl rfl
    generalize (h4.push (.cells #[.int .i64 0, .int .i64 0] 134 (0, 0))).setIfInBounds h4.size (.cells #[.int .i64 0, .int .i64 0] 134 (0, 0)) = h6 at *
    have sim := I.sim
    rw [hi] at sim
    have hnr := sim.empty
    have F6 : Fr h3 h6 [] := f4.then f6
    have hfd : searchF S start = ⟨st, a, 0, false⟩ := by
      rw [← I.rest, hnr]
      cases 4096 - st.length <;> simp [restF]
    have := hR h6 B ⟨by rw [hfd]; exact A.fr I.sh F6 (by simp), I.fr.trans F6 (fun _ _ h => h) (by simp), I.newB, fun _ => ⟨nr, [], M, ck, bl, bo, logF S st, by rw [hfd]; exact H4.fr f6 (by simp), by rw [hfd]; exact sim, I.dis, I.new, by rw [hfd]; rfl, fun _ => hnr⟩⟩
    rwa [hfd] at this
  · have sim := I.sim
    rw [hi] at sim
    obtain ⟨k, hk⟩ := sim.mark x (by simp)
    simp only [extE_tuple, List.getElem?_toArray, List.getElem?_cons_succ, List.getElem?_cons_zero, bnd_some, nw_eq, ptr0_eq, new_box2, unE_not, Bool.not_true, condT_bool, Bool.false_eq_true, if_false]
    obtain ⟨f6, g6⟩ := box_fr h4 (.cells #[.int .i64 0, .int .i64 0] 134 (0, 0)) (.cells #[.int .i64 x.key, .int .i64 x.tag] 134 (0, 0)) rfl rfl
    generalize (h4.push (.cells #[.int .i64 0, .int .i64 0] 134 (0, 0))).setIfInBounds h4.size (.cells #[.int .i64 x.key, .int .i64 x.tag] 134 (0, 0)) = h6 at *
    have H6 := H4.fr f6 (by simp)
    obtain ⟨ov6, e6, o6⟩ := H6.top
    have f4s := f4.size
    have lg6 := lt_of_get g6
    have f6s := f6.size
    obtain ⟨fb, gb⟩ := box_fr h6 (.cells #[.int .i64 0, .int .i64 0, .int .i64 0, .bool false] 93 (0, 0)) (.cells #[.int .i64 k.sum, .int .i64 k.from_, .int .i64 k.edge, .bool k.done] 93 (0, 0)) rfl rfl
    have key : f49.J1 (.pointer (some ⟨h6.size, 0, none⟩)) ((h6.push (.cells #[.int .i64 0, .int .i64 0, .int .i64 0, .bool false] 93 (0, 0))).setIfInBounds h6.size (.cells #[.int .i64 k.sum, .int .i64 k.from_, .int .i64 k.edge, .bool k.done] 93 (0, 0))) (.pointer (some ⟨h4.size, 0, none⟩)) (RunInv h0 hs S Sh a0 B0 p pm pn fv start) (muR p pn) h3 (.pointer (some ⟨p, 0, none⟩)) R t2 t3 :=
      run_round A I ha ov asx hL3 hLd3 hR hi hk (H6.fr fb (by simp)) ((f4.trans f6 (fun _ _ h => h) (by simp)).trans fb (fun _ _ h => h) (by simp)) (fb.get g6 (by simp)) gb (by omega) (by omega) (by omega)
    constructor
    · simp only [nilE_ptr, bnd_some, fldE_ptr, Nat.zero_add, ldS_at e6, ldS_at g6, List.getElem?_toArray, List.getElem?_cons_succ, List.getElem?_cons_zero]
      refine H6.look (ok := false) ?_
      simp only [Bool.false_eq_true, if_false, hk, Option.map_some, Option.getD_some, Mark.val, new_box4, bnd_some, nw_eq, ptr0_eq]
      exact key
    · have f := Fr.push h6 (.cells #[.int .i64 0, .int .i64 0, .int .i64 0, .bool false] 93 (0, 0)) []
      simp only [nilE_ptr, bnd_some, fldE_ptr, Nat.zero_add, ldS_at e6, ldS_at g6, List.getElem?_toArray, List.getElem?_cons_succ, List.getElem?_cons_zero, nw_eq, ptr0_eq]
      refine (H6.fr f (by simp)).look (ok := false) ?_
      simp only [Bool.false_eq_true, if_false, hk, Option.map_some, Option.getD_some, Mark.val, new_box4, bnd_some]
      exact key

theorem fill_sr {f : Value} (hf : f.cells = #[f]) (b : Bool) (m : Nat) : (fillS [(0, 1), (1, 1), (2, 1), (3, 1), (4, 1)] #[.nilFunc, (.bool false), (.map none), (.pointer none), (.slice none 0 0)] [(0, f), (1, .bool b), (2, .map (some m))]).map Value.agg = some (.agg #[f, .bool b, .map (some m), .pointer none, .slice none 0 0]) := by
  simp [fillS, Instr.fill, hf]
theorem news_spec {h : Hp} {fv : Value} (hf : fv.cells = #[fv]) (hops : Bool) {R : Value → Hp → Prop} (hR : ∀ h' p pm pn, SrAt h' p pm pn fv hops [] [] 0 [] [] [] → Fr h h' [] → (∀ b ∈ SB p pm pn [] [], h.size ≤ b) → R (.pointer (some ⟨p, 0, none⟩)) h') :
    CallsH Tryd.prog 48 #[fv, .bool hops] h R := by
  refine f48.ok ?_
  unfold f48.T
  simp only [nwM_eq, fill_sr hf, bnd_some, nw_eq, cells_agg, ptr0_eq, Array.size_push]
  have f1 := Fr.push h (.map #[] 0) []
  have m1 := MapAt.new h .i64
  have z1 : (h.push (.map #[] 0)).size = h.size + 1 := by simp
  generalize h.push (.map #[] 0) = h1 at *
  have f2 := Fr.push h1 (.cells #[fv, .bool hops, .map (some h.size), .pointer none, .slice none 0 0] 97 (0, 0)) []
  have g2 := get_new h1 (.cells #[fv, .bool hops, .map (some h.size), .pointer none, .slice none 0 0] 97 (0, 0))
  have z2 : (h1.push (.cells #[fv, .bool hops, .map (some h.size), .pointer none, .slice none 0 0] 97 (0, 0))).size = h.size + 2 := by simp [z1]
  rw [z1] at g2
  generalize h1.push (.cells #[fv, .bool hops, .map (some h.size), .pointer none, .slice none 0 0] 97 (0, 0)) = h2 at *
  refine new_spec fun H => ?_
  have f3 := Fr.push h2 (.cells #[.func (.func 68) #[] #[], .slice none 0 0, .int .i64 0] 152 (0, 0)) []
  generalize h2.push (.cells #[.func (.func 68) #[] #[], .slice none 0 0, .int .i64 0] 152 (0, 0)) = h3 at *
  have g3 := f3.get g2 (by simp)
  have st4 : stE 1 h3 (.pointer (some ⟨h.size + 1, 3, none⟩)) (.pointer (some ⟨h2.size, 0, none⟩)) = some (h3.setIfInBounds (h.size + 1) (.cells #[fv, .bool hops, .map (some h.size), .pointer (some ⟨h2.size, 0, none⟩), .slice none 0 0] 97 (0, 0))) := by
    rw [stE_at _ g3]; simp [splice]
  simp only [nilE_ptr, bnd_some, fldE_ptr, Nat.zero_add, st4]
  have g4 := get_set (o' := .cells #[fv, .bool hops, .map (some h.size), .pointer (some ⟨h2.size, 0, none⟩), .slice none 0 0] 97 (0, 0)) g3
  have f4 : Fr h3 (h3.setIfInBounds (h.size + 1) (.cells #[fv, .bool hops, .map (some h.size), .pointer (some ⟨h2.size, 0, none⟩), .slice none 0 0] 97 (0, 0))) [h.size + 1] := Fr.set _ _ _ (fun _ => by simp) (by rw [g3]; rfl)
  generalize h3.setIfInBounds (h.size + 1) (.cells #[fv, .bool hops, .map (some h.size), .pointer (some ⟨h2.size, 0, none⟩), .slice none 0 0] 97 (0, 0)) = h4 at *
  have F3 : Fr h h3 [] := (f1.then f2).then f3
  have F : Fr h h4 [] := F3.trans f4 (fun _ _ h => h) (fun c hc hm => by simp at hm; omega)
  refine hR h4 (h.size + 1) h.size h2.size ⟨⟨_, g4, .nil _ _ _⟩, ((m1.fr f2 (by simp)).fr f3 (by simp)).fr f4 (by simp), H.fr f4 (by simp; omega) (by simp), ⟨by omega, by omega, by omega, by simp, by simp⟩⟩ F fun b hb => ?_
  simp [SB] at hb; omega

/-! ## the functions that are handed in -/
set_option maxRecDepth 100000 in
theorem over_to {q E : Nat} {fz : Nat × Nat} {to : Int} : FnOk [(q, .cells #[.int .i64 to] E fz)] (.func (.func 50) #[] #[.pointer (some ⟨q, 0, none⟩)]) (fun id => decide (id = to)) := ⟨fun h k K hL hK => by
  have e : okF Tryd.prog 50 = true := by kernel_rfl
  have g := hL _ (List.mem_singleton.2 rfl)
  simp only [callV, e]
  refine f50.ok (t0 := .int .i64 k) (t1 := .pointer (some ⟨q, 0, none⟩)) ?_
  unfold f50.T
  simpa [ldS_at g] using hK⟩
set_option maxRecDepth 100000 in
theorem asks_most {q E : Nat} {fz : Nat × Nat} {most : Int} : FnOk [(q, .cells #[.int .i64 most] E fz)] (.func (.func 54) #[] #[.pointer (some ⟨q, 0, none⟩)]) (fun s => decide (s < most)) := ⟨fun h k K hL hK => by
  have e : okF Tryd.prog 54 = true := by kernel_rfl
  have g := hL _ (List.mem_singleton.2 rfl)
  simp only [callV, e]
  refine f54.ok (t0 := .int .i64 k) (t1 := .pointer (some ⟨q, 0, none⟩)) ?_
  unfold f54.T
  simpa [ldS_at g] using hK⟩
set_option maxRecDepth 100000 in
theorem always_ok {L : List (Nat × Obj)} : FnOk L (.func (.func 51) #[] #[]) (fun _ => true) := ⟨fun h k K _ hK => by
  have e : okF Tryd.prog 51 = true := by kernel_rfl
  simp only [callV, e]
  refine f51.ok (t0 := .int .i64 k) ?_
  unfold f51.T
  simpa using hK⟩
set_option maxRecDepth 100000 in
theorem never_ok {L : List (Nat × Obj)} : FnOk L (.func (.func 53) #[] #[]) (fun _ => false) := ⟨fun h k K _ hK => by
  have e : okF Tryd.prog 53 = true := by kernel_rfl
  simp only [callV, e]
  refine f53.ok (t0 := .int .i64 k) ?_
  unfold f53.T
  simpa using hK⟩
end Go.Proofs.YtkiakofohkecaaaDoor
