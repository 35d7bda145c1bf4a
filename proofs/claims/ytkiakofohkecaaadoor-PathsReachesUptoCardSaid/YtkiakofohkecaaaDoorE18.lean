/- The program's run, its parts: a thing is taken from the search's heap, a node is settled. No condition but that the memory is as told. -/
import Derived.Test.YtkiakofohkecaaaDoorE17
namespace Go.Proofs.YtkiakofohkecaaaDoor
open Go Go.Fw

section
variable {h h' : Hp} {p pm pn : Nat} {fv : Value} {hops : Bool} {M : List (Int × Mark)} {its : List Item} {ck : Int} {bl : List Nat} {order : List Int} {bo S : List Nat}
theorem SrAt.pop (H : SrAt h p pm pn fv hops M its ck bl order bo) (hlen : its.length < 1099511627776) {R : Value → Hp → Prop}
    (h0 : ∀ h', its = [] → SrAt h' p pm pn fv hops M [] ck bl order bo → Fr h h' [] → R (.tuple #[.agg #[.int .i64 0, .int .i64 0], .bool false]) h')
    (hR : ∀ h' x rest, its = x :: rest → SrAt h' p pm pn fv hops M (popped ltOffer its) ck bl order bo → Fr h h' (pn :: bl) → R (.tuple #[.agg #[.int .i64 x.key, .int .i64 x.tag], .bool true]) h') :
    CallsH Tryd.prog 70 #[.pointer (some ⟨pn, 0, none⟩)] h R := by
  refine pop_spec lessOk68 (L := []) (by simp [Has]) (by simp) (by simp) H.heap hlen (fun h' hi f => h0 h' hi (hi ▸ H.fr f (by simp)) f) fun h' b cap x rest hi hb H' f => ?_
  subst hb
  obtain ⟨ov, e, o⟩ := H.top
  obtain ⟨n1, n2, n3, n4, n5⟩ := H.ne
  refine hR h' x rest hi ⟨⟨ov, f.get e ?_, o.fr f fun c hc => ?_⟩, H.map.fr f ?_, .inr ⟨b, cap, rfl, H'⟩, H.ne⟩ f
  · simp; exact ⟨n2, fun hp => (n4 b (by simp)).1 hp.symm⟩
  · simp; exact ⟨(n5 c hc).2.2, fun hp => (n4 b (by simp)).2.2 (hp ▸ hc)⟩
  · simp; exact ⟨n3, fun hp => (n4 b (by simp)).2.1 hp.symm⟩

/-- The order grows. -/
theorem SrAt.ord (H : SrAt h p pm pn fv hops M its ck bl order bo) (hlen : order.length ≤ 1048576) {k : Int} {K : Hp → Prop}
    (hK : ∀ h' bo', SrAt h' p pm pn fv hops M its ck bl (order ++ [k]) bo' → Fr h h' (p :: bo) → (∀ b ∈ bo', b ∈ bo ∨ h.size ≤ b) → K h') :
    (bnd (nilE (.pointer (some ⟨p, 0, none⟩))) fun t69_1 =>
     bnd (fldE 4 t69_1) fun t70_1 =>
     bnd (ldS h t70_1) fun t71_1 =>
     bnd (fillR 1 #[(.int .i64 0)] [(0, .int .i64 k)]) fun c =>
     nw h c 2 (fun b => .slice (some ⟨b, 0, none⟩) 1 1) fun t74_1 h_9 =>
     efS Tryd.prog (Go.Builtin.append_ #[28, 28] 28 #[t71_1, t74_1]) h_9 fun t75_1 h_10 =>
     bnd (nilE (.pointer (some ⟨p, 0, none⟩))) fun t76_1 =>
     bnd (fldE 4 t76_1) fun t77_1 =>
     bnd (stE 1 h_10 t77_1 t75_1) fun h_11 => K h_11) := by
  obtain ⟨ov, e, o⟩ := H.top
  obtain ⟨n1, n2, n3, n4, n5⟩ := H.ne
  have hlt := H.lt
  simp only [nilE_ptr, bnd_some, fldE_ptr, Nat.zero_add, ldS_at e, List.getElem?_toArray, List.getElem?_cons_succ, List.getElem?_cons_zero, fill_int, nw_eq]
  have f1 := Fr.push h (.cells #[.int .i64 k] 2 (0, 0)) []
  have g1 := get_new h (.cells #[.int .i64 k] 2 (0, 0))
  generalize h.push (.cells #[.int .i64 k] 2 (0, 0)) = h1 at *
  refine own_app elem28 (o.fr f1 (by simp)) (seg_one g1) (by simp) (by simp [ints]; omega) (by simp [ints]; omega) fun h2 ov' bo' o' f2 hb => ?_
  have f1s := f1.size
  have F2 : Fr h h2 bo := f1.trans f2 (by simp) (fun c _ hc => hc)
  have np : p ∉ bo := fun hp => (n5 p hp).1 rfl
  have e2 := F2.get e np
  have st3 : stE 1 h2 (.pointer (some ⟨p, 4, none⟩)) ov' = some (h2.setIfInBounds p (.cells #[fv, .bool hops, .map (some pm), .pointer (some ⟨pn, 0, none⟩), ov'] 97 (0, 0))) := by
    rw [stE_at _ e2]; simp [splice, o'.cells, o'.one]
  have e3 := get_set (o' := .cells #[fv, .bool hops, .map (some pm), .pointer (some ⟨pn, 0, none⟩), ov'] 97 (0, 0)) e2
  have f3 : Fr h2 (h2.setIfInBounds p (.cells #[fv, .bool hops, .map (some pm), .pointer (some ⟨pn, 0, none⟩), ov'] 97 (0, 0))) [p] := Fr.set _ _ _ (fun _ => by simp) (by rw [e2]; rfl)
  simp only [st3, bnd_some]
  generalize h2.setIfInBounds p (.cells #[fv, .bool hops, .map (some pm), .pointer (some ⟨pn, 0, none⟩), ov'] 97 (0, 0)) = h3 at *
  have F3 : Fr h h3 (p :: bo) := F2.trans f3 (fun c _ hc => by simp [hc]) (fun c _ hc => by simp at hc; simp [hc])
  have hb' : ∀ b ∈ bo', b ∈ bo ∨ h.size ≤ b := fun b hb' => (hb b hb').imp_right fun h => by omega
  have lp := lt_of_get e
  have np' : p ∉ bo' := fun hp => by rcases hb' p hp with h | h; exact np h; omega
  refine hK h3 bo' ⟨⟨ov', e3, by simpa [ints] using o'.fr f3 fun b hb hb2 => by simp at hb2; subst hb2; exact np' hb⟩, H.map.fr F3 ?_, H.heap.fr F3 ?_ ?_, n1, n2, n3, fun b hb => ⟨(n4 b hb).1, (n4 b hb).2.1, fun hbo => ?_⟩, fun b hb => ?_⟩ F3 hb'
  · simp; exact ⟨n1.symm, fun hp => (n5 pm hp).2.1 rfl⟩
  · simp; exact ⟨n2.symm, fun hp => (n5 pn hp).2.2 rfl⟩
  · intro b hb; simp; exact ⟨(n4 b hb).1, (n4 b hb).2.2⟩
  · rcases hb' b hbo with h | h
    · exact (n4 b hb).2.2 h
    · have := hlt b (by simp [SB, hb]); omega
  · rcases hb' b hb with h | h
    · exact n5 b h
    · have := hlt p (by simp [SB]); have := hlt pm (by simp [SB]); have := hlt pn (by simp [SB]); exact ⟨by omega, by omega, by omega⟩

def olen (h : Hp) (p : Nat) : Nat :=
  match h[p]? with
  | some (.cells c _ _) => (match (c[4]? : Option Value) with
    | some (.slice _ n _) => n
    | _ => 0)
  | _ => 0
def ilen (h : Hp) (p : Nat) : Nat :=
  match h[p]? with
  | some (.cells c _ _) => (match (c[1]? : Option Value) with
    | some (.slice _ n _) => n
    | _ => 0)
  | _ => 0
theorem SrAt.olen (H : SrAt h p pm pn fv hops M its ck bl order bo) : olen h p = order.length := by
  obtain ⟨ov, e, o⟩ := H.top
  rcases o with ⟨rfl, hx, _⟩ | ⟨b, cap, rfl, _, _⟩
  · simp [ints] at hx; subst hx; simp [Proofs.YtkiakofohkecaaaDoor.olen, e]
  · simp [Proofs.YtkiakofohkecaaaDoor.olen, e, ints]
theorem SrAt.ilen (H : SrAt h p pm pn fv hops M its ck bl order bo) : ilen h pn = its.length := by
  rcases H.heap with ⟨rfl, _, e⟩ | ⟨b, cap, _, H⟩
  · simp [Proofs.YtkiakofohkecaaaDoor.ilen, e]
  · simp [Proofs.YtkiakofohkecaaaDoor.ilen, H.top]
def muR (p pn : Nat) (_ : List Value) (h : Hp) : Nat := (4097 - olen h p) * 1048578 + ilen h pn
end

/-- A function value that tells f of a number, where the blocks L are there. -/
structure FnOk (L : List (Nat × Obj)) (g : Value) (f : Int → Bool) : Prop where
  call : ∀ (h : Hp) (k : Int) (K : Value → Hp → Prop), Has h L → K (.bool (f k)) h → callV Tryd.prog g #[.int .i64 k] h K

theorem run_J1 {h : Hp} {p pm pn q10 q12 : Nat} {fv t2 t3 : Value} {hops : Bool} {M : List (Int × Mark)} {its : List Item} {ck : Int} {bl : List Nat} {order : List Int} {bo : List Nat} (H : SrAt h p pm pn fv hops M its ck bl order bo)
    {key tag : Int} {k : Mark} (g10 : h[q10]? = some (.cells #[.int .i64 key, .int .i64 tag] 134 (0, 0))) (g12 : h[q12]? = some (.cells #[.int .i64 k.sum, .int .i64 k.from_, .int .i64 k.edge, .bool k.done] 93 (0, 0)))
    (n10 : q10 ∉ SB p pm pn bl bo) (n12 : q12 ∉ SB p pm pn bl bo) (nq : q10 ≠ q12) (ho : order.length ≤ 4096) {L : List (Nat × Obj)} {over asks : Int → Bool} (ov : FnOk L t2 over) (asx : FnOk L t3 asks) (hL : Has h L) (hLd : ∀ x ∈ L, x.1 ≠ q12 ∧ x.1 ∉ SB p pm pn bl bo)
    {I1 : List Value → Hp → Prop} {μ1 : List Value → Hp → Nat} {h_3 : Hp} {R : Value → Hp → Prop}
    (stale : k.done = true ∨ k.sum ≠ key → I1 [] h ∧ μ1 [] h < μ1 [] h_3)
    (full : k.done = false → k.sum = key → order.length = 4096 → R (.tuple #[.bool false, .int .i64 92]) h)
    (settle : k.done = false → k.sum = key → order.length < 4096 → ∀ h' bo', SrAt h' p pm pn fv hops (gset M tag { k with done := true }) its ck bl (order ++ [tag]) bo' → Fr h h' (q12 :: pm :: p :: bo) → (∀ b ∈ bo', b ∈ bo ∨ h.size ≤ b) →
      (over tag = true → R (.tuple #[.bool true, .int .i64 0]) h') ∧
      (over tag = false → asks key = false → I1 [] h' ∧ μ1 [] h' < μ1 [] h_3) ∧
      (over tag = false → asks key = true → ∀ K : Value → Hp → Prop, (∀ (c : Int) h'', (c ≠ 0 → R (.tuple #[.bool false, .int .i64 c]) h'' → K (.int .i64 c) h'') ∧ (c = 0 → (I1 [] h'' ∧ μ1 [] h'' < μ1 [] h_3) → K (.int .i64 c) h'')) → CallsH Tryd.prog 71 #[.pointer (some ⟨p, 0, none⟩), .agg #[.int .i64 key, .int .i64 tag]] h' K)) :
    f49.J1 (.pointer (some ⟨q12, 0, none⟩)) h (.pointer (some ⟨q10, 0, none⟩)) I1 μ1 h_3 (.pointer (some ⟨p, 0, none⟩)) R t2 t3 := by
  obtain ⟨ovv, e, o⟩ := H.top
  unfold f49.J1
  simp only [fldE_ptr, Nat.zero_add, bnd_some, ldS_at g12, ldS_at g10, List.getElem?_toArray, List.getElem?_cons_succ, List.getElem?_cons_zero, isB_bool, asB_bool, Option.map_some]
  cases hk : k.done
  · simp only [beq_self_eq_true, cond_true, cond_false, bnd_some, ldS_at g12, ldS_at g10, List.getElem?_toArray, List.getElem?_cons_succ, List.getElem?_cons_zero, bin_neq, condT_bool]
    by_cases hs : k.sum = key
    · have hne : decide (k.sum ≠ key) = false := by simp [hs]
      simp only [ne_eq, hs, not_true_eq_false, decide_false, Bool.false_eq_true, if_false, nilE_ptr, bnd_some, fldE_ptr, Nat.zero_add, ldS_at e, List.getElem?_toArray, List.getElem?_cons_succ, List.getElem?_cons_zero, o.lenE, bin_eql, condT_bool]
      have hol : (ints order).length = order.length := by simp [ints]
      rw [hol]
      by_cases hf : order.length = 4096
      · have hd : decide ((order.length : Int) = 4096) = true := by simp; omega
        simp only [hd, if_true]
        exact full hk hs hf
      · have hd : decide ((order.length : Int) = 4096) = false := by simp; omega
        have st7 : stE 1 h (.pointer (some ⟨q12, 3, none⟩)) (.bool true) = some (h.setIfInBounds q12 (.cells #[.int .i64 k.sum, .int .i64 k.from_, .int .i64 k.edge, .bool true] 93 (0, 0))) := by
          rw [stE_at _ g12]; simp [splice, hk]
        have e7 := get_set (o' := .cells #[.int .i64 k.sum, .int .i64 k.from_, .int .i64 k.edge, .bool true] 93 (0, 0)) g12
        have f7 : Fr h (h.setIfInBounds q12 (.cells #[.int .i64 k.sum, .int .i64 k.from_, .int .i64 k.edge, .bool true] 93 (0, 0))) [q12] := Fr.set _ _ _ (fun _ => by simp) (by rw [g12]; rfl)
        simp only [hd, Bool.false_eq_true, if_false, st7, bnd_some]
        generalize h.setIfInBounds q12 (.cells #[.int .i64 k.sum, .int .i64 k.from_, .int .i64 k.edge, .bool true] 93 (0, 0)) = h7 at *
        have H7 := H.fr f7 (fun b hb hb' => by simp at hb'; subst hb'; exact n12 hb)
        obtain ⟨ov7, e7', o7⟩ := H7.top
        have g107 := f7.get g10 (by simpa using nq)
        have l7 : ldA 4 h7 (.pointer (some ⟨q12, 0, none⟩)) = some (Mark.val { k with done := true }) := by rw [ldA_at e7]; simp [Mark.val]
        simp only [nilE_ptr, bnd_some, fldE_ptr, Nat.zero_add, ldS_at e7', ldS_at g107, List.getElem?_toArray, List.getElem?_cons_succ, List.getElem?_cons_zero, l7]
        refine H7.mark fun h8 H8 f8 => ?_
        have hx : ∀ b, b ∉ SB p pm pn bl bo → b ∉ [pm] := fun b hb => by simp [SB] at hb ⊢; exact hb.2.1
        have g108 := f8.get g107 (hx _ n10)
        have F8 : Fr h h8 (q12 :: pm :: p :: bo) := f7.trans f8 (fun c _ hc => by simp at hc; simp [hc]) (fun c _ hc => by simp at hc; simp [hc])
        have ord := H8.ord (k := tag) (by omega) (K := fun h_11 =>
          bnd (fldE 1 (.pointer (some ⟨q10, 0, none⟩))) fun t79_1 =>
          bnd (ldS h_11 t79_1) fun t80_1 =>
          callV Tryd.prog t2 #[t80_1] h_11 fun t81_1 h_12 =>
          condT t81_1 (
          R (.tuple #[(.bool true), (.int .i64 0)]) h_12) (
          bnd (fldE 0 (.pointer (some ⟨q10, 0, none⟩))) fun t83_1 =>
          bnd (ldS h_12 t83_1) fun t84_1 =>
          callV Tryd.prog t3 #[t84_1] h_12 fun t85_1 h_13 =>
          condT t85_1 (
          bnd (ldA 2 h_13 (.pointer (some ⟨q10, 0, none⟩))) fun t87_1 =>
          CallsH Tryd.prog 71 #[(.pointer (some ⟨p, 0, none⟩)), t87_1] h_13 fun t88_1 h_14 =>
          bnd (binE .neq t88_1 (.int .i64 0)) fun t90_1 =>
          condT t90_1 (
          R (.tuple #[(.bool false), t88_1]) h_14) (
          (I1 [] h_14 ∧ μ1 [] h_14 < μ1 [] h_3))) (
          (I1 [] h_13 ∧ μ1 [] h_13 < μ1 [] h_3)))) fun h11 bo' H11 f11 hb11 => ?_
        · simp only [nilE_ptr, bnd_some, fldE_ptr, Nat.zero_add, ldS_at g108, List.getElem?_toArray, List.getElem?_cons_succ, List.getElem?_cons_zero] at ord ⊢
          exact ord
        · have g11 := f11.get g108 (fun hb => n10 (by simp only [SB, List.mem_cons, List.mem_append] at hb ⊢; rcases hb with h | h <;> simp [h]))
          have F11 : Fr h h11 (q12 :: pm :: p :: bo) := F8.trans f11 (fun _ _ h => h) (fun c _ hc => by simp only [List.mem_cons] at hc ⊢; rcases hc with h | h <;> simp [h])
          have fs8 := F8.size
          obtain ⟨s1, s2, s3⟩ := settle hk hs (by omega) h11 bo' H11 F11 (fun b hb => (hb11 b hb).imp_right fun h => by omega)
          have hL11 : Has h11 L := hL.fr F11 fun x hx hb => by
            simp only [List.mem_cons] at hb
            have := (hLd x hx).2
            simp only [SB, List.mem_cons, List.mem_append, not_or] at this
            rcases hb with h | h | h | h
            · exact (hLd x hx).1 h
            · exact this.2.1 h
            · exact this.1 h
            · exact this.2.2.2.2 h
          simp only [fldE_ptr, bnd_some, Nat.zero_add, ldS_at g11, List.getElem?_toArray, List.getElem?_cons_succ, List.getElem?_cons_zero]
          refine ov.call h11 tag _ hL11 ?_
          cases hov : over tag
          · simp only [condT_bool, Bool.false_eq_true, if_false, bnd_some, ldS_at g11, List.getElem?_toArray, List.getElem?_cons_zero]
            refine asx.call h11 key _ hL11 ?_
            have l11 : ldA 2 h11 (.pointer (some ⟨q10, 0, none⟩)) = some (.agg #[.int .i64 key, .int .i64 tag]) := by rw [ldA_at g11]; simp
            cases has : asks key
            · simp only [condT_bool, Bool.false_eq_true, if_false]
              exact s2 hov has
            · simp only [condT_bool, if_true, l11, bnd_some]
              refine s3 hov has _ fun c h'' => ⟨fun hc hR => ?_, fun hc hI => ?_⟩
              · simpa [hc] using hR
              · simpa [hc] using hI
          · simp only [condT_bool, if_true]
            exact s1 hov
    · have hne : decide (¬ k.sum = key) = true := by simp [hs]
      simp only [ne_eq, hne, if_true]
      exact stale (.inr hs)
  · simp only [isB_undef, show (true == false) = false from rfl, cond_false, cond_true, bnd_some, condT_bool, if_true]
    exact stale (.inl hk)
end Go.Proofs.YtkiakofohkecaaaDoor
