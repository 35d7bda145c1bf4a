/- The rows as they are shown answer as the search needs it; the search as it lies in memory; one arc is looked at. No condition but that the memory is as told. -/
import Derived.Test.YtkiakofohkecaaaDoorE15
namespace Go.Proofs.YtkiakofohkecaaaDoor
open Go Go.Fw

set_option maxRecDepth 100000 in
theorem shown_ok {h0 : Hp} {rows : List NRow} {tail : Bool} {v : Value} {q : Nat} {Em : Nat} {fm : Nat × Nat} (net : NetOk h0 v rows) (hm : h0[2]? = some (.cells #[.int .i64 (-71), .int .i64 (-72), .int .i64 (-73)] Em fm)) :
    ArcsOk h0 (.func (.func 19) #[.pointer (some ⟨q, 0, none⟩)] #[]) (ofL rows tail) (ShownS h0 rows tail v q) where
  one := rfl
  cells := rfl
  nil := rfl
  fr := fun ⟨gs, bla, blg, e1, e2, H⟩ f hS => ⟨gs, bla, blg, e1, e2, H.fr f fun b hb => by have := hS b hb; rwa [e2] at this⟩
  lt := fun ⟨gs, bla, blg, e1, e2, H⟩ => ⟨H.base.size, fun b hb => H.lt b (by rwa [e2] at hb)⟩
  len := fun id => ofL_len net tail id
  call := fun {h a B} id {K} ⟨gs, bla, blg, e1, e2, H⟩ ha hK => by
    have e : okF Tryd.prog 19 = true := by kernel_rfl
    simp only [callV, e]
    refine arcs_spec net hm H (by rw [e1] at ha; simpa using ha) id fun h' g bla' blg' u hg H' f hb1 hb2 hb3 hu => ?_
    refine hK h' u (q :: bla' ++ blg' ++ (gs ++ [g]).map (·.b)) ⟨gs ++ [g], bla', blg', by rw [e1, ← hg]; simp, rfl, H'⟩ (f.mono fun c _ hc => by rw [e2]; simp only [List.mem_append] at hc ⊢; exact .inl hc) (fun b hb => ?_) ?_
    · rw [e2]
      simp only [List.cons_append, List.mem_cons, List.mem_append, List.map_append, List.map_cons, List.map_nil, List.not_mem_nil, or_false] at hb ⊢
      rcases hb with hb | (hb | hb) | hb | hb
      · exact .inl (.inl hb)
      · exact (hb2 b hb).imp_left fun h => .inr (.inl (.inl h))
      · exact (hb3 b hb).imp_left fun h => .inr (.inl (.inr h))
      · exact .inl (.inr (.inr hb))
      · exact .inr (by rw [hb]; exact hb1)
    · obtain ⟨a', c, e, hx⟩ := hu
      refine ⟨a', c, e, fun hne => ?_⟩
      obtain ⟨b, o, e, hb, s⟩ := hx hne
      exact ⟨b, o, e, by simp at hb; simp [hb], s⟩

def less68 : Value := .func (.func 68) #[] #[]
/-- The search's struct at p, its marks at pm, its heap's struct at pn. -/
structure SrAt (h : Hp) (p pm pn : Nat) (fv : Value) (hops : Bool) (M : List (Int × Mark)) (its : List Item) (ck : Int) (bl : List Nat) (order : List Int) (bo : List Nat) : Prop where
  top : ∃ ov, h[p]? = some (.cells #[fv, .bool hops, .map (some pm), .pointer (some ⟨pn, 0, none⟩), ov] 97 (0, 0)) ∧ OwnS h 2 1 ov (ints order) bo
  map : MapAt h pm .i64 (M.map fun x => (x.1, x.2.val))
  heap : HeapE h pn less68 its ck bl
  ne : p ≠ pm ∧ p ≠ pn ∧ pm ≠ pn ∧ (∀ b ∈ bl, b ≠ p ∧ b ≠ pm ∧ b ∉ bo) ∧ ∀ b ∈ bo, b ≠ p ∧ b ≠ pm ∧ b ≠ pn
def SB (p pm pn : Nat) (bl bo : List Nat) : List Nat := p :: pm :: pn :: (bl ++ bo)

section
variable {h h' : Hp} {p pm pn : Nat} {fv : Value} {hops : Bool} {M : List (Int × Mark)} {its : List Item} {ck : Int} {bl : List Nat} {order : List Int} {bo S : List Nat}
theorem SrAt.fr (H : SrAt h p pm pn fv hops M its ck bl order bo) (f : Fr h h' S) (hS : ∀ b ∈ SB p pm pn bl bo, b ∉ S) : SrAt h' p pm pn fv hops M its ck bl order bo := by
  obtain ⟨ov, e, o⟩ := H.top
  exact ⟨⟨ov, f.get e (hS p (by simp [SB])), o.fr f fun b hb => hS b (by simp [SB, hb])⟩, H.map.fr f (hS pm (by simp [SB])), H.heap.fr f (hS pn (by simp [SB])) fun b hb => hS b (by simp [SB, hb]), H.ne⟩
theorem SrAt.lt (H : SrAt h p pm pn fv hops M its ck bl order bo) : ∀ b ∈ SB p pm pn bl bo, b < h.size := by
  obtain ⟨ov, e, o⟩ := H.top
  intro b hb
  simp only [SB, List.mem_cons, List.mem_append] at hb
  rcases hb with rfl | rfl | rfl | hb | hb
  · exact lt_of_get e
  · exact H.map.lt
  · exact H.heap.lt.1
  · exact (H.heap.lt.2 b hb).1
  · exact o.lt b hb

/-- A mark is written. -/
theorem SrAt.mark (H : SrAt h p pm pn fv hops M its ck bl order bo) {k : Int} {m : Mark} {K : Unit → Hp → Prop}
    (hK : ∀ h', SrAt h' p pm pn fv hops (gset M k m) its ck bl order bo → Fr h h' [pm] → K () h') : efS Tryd.prog (Instr.mapUpdate 94 (.map (some pm)) (.int .i64 k) m.val) h K := by
  refine upd_rule (kt := 2) (et := 93) (by kernel_rfl) (by kernel_rfl) H.map fun h' m' f => hK h' ?_ f
  obtain ⟨ov, e, o⟩ := H.top
  obtain ⟨n1, n2, n3, n4, n5⟩ := H.ne
  rw [mset_map] at m'
  exact ⟨⟨ov, f.get e (by simpa using n1), o.fr f fun b hb => by simpa using (n5 b hb).2.1⟩, m', H.heap.fr f (by simpa using n3.symm) fun b hb => by simpa using (n4 b hb).2.1, H.ne⟩
/-- A mark is read. -/
theorem SrAt.look (H : SrAt h p pm pn fv hops M its ck bl order bo) {k : Int} {ok : Bool} {K : Value → Prop}
    (hK : K (if ok then .tuple #[((gget M k).map Mark.val).getD (.agg #[.int .i64 0, .int .i64 0, .int .i64 0, .bool false]), .bool (gget M k).isSome] else ((gget M k).map Mark.val).getD (.agg #[.int .i64 0, .int .i64 0, .int .i64 0, .bool false]))) : rdS Tryd.prog (Instr.lookup 94 (.map (some pm)) (.int .i64 k) ok) h K := by
  refine look_rule (kt := 2) (et := 93) (by kernel_rfl) (by kernel_rfl) (z := .agg #[.int .i64 0, .int .i64 0, .int .i64 0, .bool false]) (by kernel_rfl) H.map ok ?_
  rw [mget_map]
  simpa using hK
/-- A thing is pushed. -/
theorem SrAt.push (H : SrAt h p pm pn fv hops M its ck bl order bo) (hlen : its.length < 1099511627776) (hck : 0 ≤ ck ∧ ck < 1099511627776) {k t : Int} {R : Value → Hp → Prop}
    (hR : ∀ h' bl', SrAt h' p pm pn fv hops M (siftUp ltOffer (its ++ [⟨k, t, ck⟩]) its.length) (ck + 1) bl' order bo → Fr h h' (pn :: bl) → (∀ b ∈ bl', b ∈ bl ∨ h.size ≤ b) → R (.tuple #[]) h') :
    CallsH Tryd.prog 69 #[.pointer (some ⟨pn, 0, none⟩), .agg #[.int .i64 k, .int .i64 t]] h R := by
  refine push_spec lessOk68 (L := []) (by simp [Has]) (by simp) (by simp) H.heap hlen hck k t fun h' b cap H' f hb => ?_
  obtain ⟨ov, e, o⟩ := H.top
  obtain ⟨n1, n2, n3, n4, n5⟩ := H.ne
  have hb' : ∀ c ∈ [b], c ∈ bl ∨ h.size ≤ c := fun c hc => by
    obtain rfl : c = b := by simpa using hc
    rcases hb with rfl | hb
    · exact .inl (by simp)
    · exact .inr hb
  refine hR h' [b] ⟨⟨ov, f.get e ?_, o.fr f fun c hc => ?_⟩, H.map.fr f ?_, .inr ⟨b, cap, rfl, H'⟩, n1, n2, n3, fun c hc => ?_, n5⟩ f hb'
  · simp; exact ⟨n2, fun hp => (n4 p hp).1 rfl⟩
  · simp; exact ⟨(n5 c hc).2.2, fun hp => (n4 c hp).2.2 hc⟩
  · simp; exact ⟨n3, fun hp => (n4 pm hp).2.1 rfl⟩
  · have lp := lt_of_get e
    have lm := H.map.lt
    rcases hb' c hc with h | h
    · exact n4 c h
    · exact ⟨by omega, by omega, fun hb => by have := o.lt c hb; omega⟩
end
theorem fill_mark (a b c : Int) : (fillS [(0, 1), (1, 1), (2, 1), (3, 1)] #[(.int .i64 0), (.int .i64 0), (.int .i64 0), (.bool false)] [(0, .int .i64 a), (1, .int .i64 b), (2, .int .i64 c)]).map Value.agg = some (Mark.val ⟨a, b, c, false⟩) := by kernel_rfl
theorem fill_offer (a b : Int) : (fillS [(0, 1), (1, 1)] #[(.int .i64 0), (.int .i64 0)] [(0, .int .i64 a), (1, .int .i64 b)]).map Value.agg = some (.agg #[.int .i64 a, .int .i64 b]) := by kernel_rfl

theorem look_J2 {h : Hp} {p pm pn q3 q8 q10 : Nat} {fv : Value} {hops : Bool} {M : List (Int × Mark)} {its : List Item} {ck : Int} {bl : List Nat} {order : List Int} {bo : List Nat} (H : SrAt h p pm pn fv hops M its ck bl order bo)
    {sum id w edge to wg : Int} {z : Mark} (g3 : h[q3]? = some (.cells #[.int .i64 sum, .int .i64 id] 134 (0, 0))) (g8 : h[q8]? = some (.cells #[.int .i64 edge, .int .i64 to, .int .i64 wg] 62 (0, 0))) (g10 : h[q10]? = some (.cells #[.int .i64 z.sum, .int .i64 z.from_, .int .i64 z.edge, .bool z.done] 93 (0, 0)))
    (hz : ∀ k, gget M to = some k → z = k) (hlen : its.length < 1099511627776) (hck : 0 ≤ ck ∧ ck < 1099511627776) (h0 : 0 ≤ sum) (hw : 0 ≤ w) (hf : sum + w ≤ 1099511627776)
    (n3 : q3 ∉ SB p pm pn bl bo) (n8 : q8 ∉ SB p pm pn bl bo) {t27 : Value} {I1 : List Value → Hp → Prop} {μ1 : List Value → Hp → Nat} {h_3 : Hp}
    (skip : ∀ k, gget M to = some k → k.sum ≤ sum + w → f71.J1 t27 I1 h μ1 h_3)
    (take : (∀ k, gget M to = some k → sum + w < k.sum) → ∀ h' bl', SrAt h' p pm pn fv hops (gset M to ⟨sum + w, id, edge, false⟩) (siftUp ltOffer (its ++ [⟨sum + w, to, ck⟩]) its.length) (ck + 1) bl' order bo → Fr h h' (pm :: pn :: bl) → (∀ b ∈ bl', b ∈ bl ∨ h.size ≤ b) → f71.J1 t27 I1 h' μ1 h_3) :
    f71.J2 (.bool (gget M to).isSome) (.pointer (some ⟨q10, 0, none⟩)) h (.pointer (some ⟨q3, 0, none⟩)) (.int .i64 w) t27 I1 μ1 h_3 (.pointer (some ⟨p, 0, none⟩)) (.pointer (some ⟨q8, 0, none⟩)) := by
  obtain ⟨ov, e, o⟩ := H.top
  have w1 : IntKind.i64.wrap (sum + w) = sum + w := i64_id (by omega) (by omega)
  unfold f71.J2
  have rest : (∀ k, gget M to = some k → sum + w < k.sum) → efS Tryd.prog (Instr.mapUpdate 94 (.map (some pm)) (.int .i64 to) (Mark.val ⟨sum + w, id, edge, false⟩)) h fun _ h_6 =>
      bnd (nilE (.pointer (some ⟨p, 0, none⟩))) fun t83_1 =>
      bnd (fldE 3 t83_1) fun t84_1 =>
      bnd (ldS h_6 t84_1) fun t85_1 =>
      bnd (fldE 0 (.pointer (some ⟨q3, 0, none⟩))) fun t86_1 =>
      bnd (ldS h_6 t86_1) fun t87_1 =>
      bnd (binE .add t87_1 (.int .i64 w)) fun t89_1 =>
      bnd (fldE 1 (.pointer (some ⟨q8, 0, none⟩))) fun t90_1 =>
      bnd (ldS h_6 t90_1) fun t91_1 =>
      bnd ((fillS [(0, 1), (1, 1)] #[(.int .i64 0), (.int .i64 0)] [(0, t89_1), (1, t91_1)]).map .agg) fun t92_1 =>
      CallsH Tryd.prog 69 #[t85_1, t92_1] h_6 fun t93_1 h_7 =>
      (f71.J1 t27 I1 h_7 μ1 h_3) := fun hk => by
    refine H.mark fun h' H' f => ?_
    obtain ⟨ov', e', o'⟩ := H'.top
    have g3' := f.get g3 (by simp [SB] at n3 ⊢; omega)
    have g8' := f.get g8 (by simp [SB] at n8 ⊢; omega)
    simp only [nilE_ptr, bnd_some, fldE_ptr, Nat.zero_add, ldS_at e', ldS_at g3', ldS_at g8', List.getElem?_toArray, List.getElem?_cons_succ, List.getElem?_cons_zero, bin_add, w1, fill_offer]
    refine H'.push hlen hck fun h'' bl' H'' f' hb => ?_
    have fs := f.size
    refine take hk h'' bl' H'' (f.trans f' (fun c _ hc => by simp at hc; simp [hc]) (fun c _ hc => by simp at hc ⊢; rcases hc with h | h <;> simp [h])) fun b hb' => (hb b hb').imp_right fun h => by omega
  cases hg : gget M to with
  | none =>
    have := rest (fun k hk => by rw [hg] at hk; cases hk)
    simp only [Option.isSome_none, isB_bool, asB_bool, Option.map_some, bnd_some, condT_bool, cond_false, Bool.false_eq_true, if_false, isB_undef, show (false == true) = false from rfl]
    simpa only [nilE_ptr, bnd_some, fldE_ptr, Nat.zero_add, ldS_at e, ldS_at g3, ldS_at g8, List.getElem?_toArray, List.getElem?_cons_succ, List.getElem?_cons_zero, bin_add, w1, fill_mark] using this
  | some k =>
    obtain rfl := hz k hg
    simp only [Option.isSome_some, isB_bool, beq_self_eq_true, asB_bool, Option.map_some, cond_true, bnd_some, fldE_ptr, Nat.zero_add, ldS_at g10, ldS_at g3, List.getElem?_toArray, List.getElem?_cons_succ, List.getElem?_cons_zero, bin_add, w1, bin_leq, condT_bool]
    by_cases hle : z.sum ≤ sum + w
    · simp only [hle, decide_true, if_true]
      exact skip z hg hle
    · have := rest (fun k hk => by rw [hg] at hk; obtain rfl := Option.some.inj hk; omega)
      simp only [hle, decide_false, Bool.false_eq_true, if_false]
      simpa only [nilE_ptr, bnd_some, fldE_ptr, Nat.zero_add, ldS_at e, ldS_at g3, ldS_at g8, List.getElem?_toArray, List.getElem?_cons_succ, List.getElem?_cons_zero, bin_add, w1, fill_mark] using this
end Go.Proofs.YtkiakofohkecaaaDoor
