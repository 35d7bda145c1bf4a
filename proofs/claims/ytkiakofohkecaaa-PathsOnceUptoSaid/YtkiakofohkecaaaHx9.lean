/- PathsSorted: what is pushed comes out sorted, equal ones as they came; the law tells true and leaves the memory that it was given alone. Condition: at most 1048576 keys. -/
import Derived.Test.YtkiakofohkecaaaHx8
namespace Go.Proofs.Ytkiakofohkecaaa
open Go Go.Fw

def orig (ks : List Int) : List Item := (List.range ks.length).map fun j => ⟨ks.getD j 0, j, j⟩
theorem orig_len (ks : List Int) : (orig ks).length = ks.length := by simp [orig]
theorem orig_get (ks : List Int) {i : Nat} (hi : i < ks.length) : (orig ks)[i]? = some ⟨ks[i], i, i⟩ := by simp [orig, hi]
theorem orig_mem {ks : List Int} {x : Item} (hx : x ∈ orig ks) : ∃ j : Nat, j < ks.length ∧ x.tag = j ∧ x.when = j ∧ ks[j]? = some x.key := by
  obtain ⟨j, hj, rfl⟩ := List.mem_map.1 hx
  have : j < ks.length := by simpa using hj
  exact ⟨j, this, rfl, rfl, by simp [this]⟩
theorem orig_nodup (ks : List Int) : ((orig ks).map (·.tag)).Nodup := by
  have e : (orig ks).map (·.tag) = (List.range ks.length).map (fun j : Nat => (j : Int)) := by simp [orig]
  rw [e]
  exact List.Pairwise.map _ (fun a b hab e => hab (Int.ofNat_inj.1 e)) List.nodup_range
theorem orig_take (ks : List Int) {i : Nat} (hi : i < ks.length) : (orig ks).take (i + 1) = (orig ks).take i ++ [⟨ks[i], i, i⟩] := by
  rw [List.take_add_one, orig_get ks hi]; rfl

/-- Which have come out. -/
def seenRow (n : Nat) (done : List Item) : List (List Value) := (List.range n).map fun j : Nat => [.bool (done.any fun x => x.tag == (j : Int))]
theorem seenRow_len (n : Nat) (done : List Item) : (seenRow n done).length = n := by simp [seenRow]
theorem seenRow_get {n : Nat} (done : List Item) {j : Nat} (hj : j < n) : (seenRow n done)[j]? = some [.bool (done.any fun x => x.tag == (j : Int))] := by simp [seenRow, hj]
theorem seenRow_nil (n : Nat) : seenRow n [] = List.replicate n [.bool false] := by
  apply List.ext_getElem <;> simp [seenRow]
theorem seenRow_set {n : Nat} (done : List Item) {j : Nat} (x : Item) (hx : x.tag = j) : (seenRow n done).set j [.bool true] = seenRow n (done ++ [x]) := by
  apply List.ext_getElem?
  intro k
  rw [List.getElem?_set]
  by_cases h : j = k
  · subst h
    by_cases hk : j < n
    · simp [seenRow, hk, hx]
    · simp [seenRow, hk]
  · have hk : ((j : Int) == (k : Int)) = false := by simp; omega
    by_cases hk2 : k < n
    · simp [seenRow, h, hx, hk, hk2]
    · simp [seenRow, h, hk2]

theorem make_bools {h : Hp} {n : Nat} (hn : n ≤ 1048576) {K : Value → Hp → Prop} (k' : ∀ h', RowAt h' 4 1 h.size n (List.replicate n [.bool false]) → Fr h h' [] → h'.size = h.size + 1 → K (.slice (some ⟨h.size, 0, none⟩) n n) h') : efS Try.prog (Instr.makeSlice 39 (.int .i64 n) (.int .i64 n)) h K :=
  make_row (E := 4) (k := 1) (z := .bool false) (bytes := 1) (by kernel_rfl) (by kernel_rfl) (by simp) (by omega) (by omega) (fun r => k' _ (by simpa using r) (Fr.push h _ _) (by simp)) (by simp)

/-- The state between two pops. -/
structure Mid (ks : List Int) (done its : List Item) : Prop where
  perm : (done ++ its).Perm (orig ks)
  ok : HeapOk (aheadB ltUp) its
  last : ∀ l, done.getLast? = some l → ∀ y ∈ its, aheadB ltUp y l = false

theorem Mid.mem {ks : List Int} {done its : List Item} (m : Mid ks done its) {x : Item} (hx : x ∈ its) : ∃ j : Nat, j < ks.length ∧ x.tag = j ∧ x.when = j ∧ ks[j]? = some x.key := orig_mem (m.perm.mem_iff.1 (by simp [hx]))
theorem Mid.mem' {ks : List Int} {done its : List Item} (m : Mid ks done its) {x : Item} (hx : x ∈ done) : ∃ j : Nat, j < ks.length ∧ x.tag = j ∧ x.when = j ∧ ks[j]? = some x.key := orig_mem (m.perm.mem_iff.1 (by simp [hx]))
theorem Mid.fresh {ks : List Int} {done rest : List Item} {x : Item} (m : Mid ks done (x :: rest)) : done.any (fun y => y.tag == x.tag) = false := by
  have hn : ((done ++ x :: rest).map (·.tag)).Nodup := (m.perm.map _).nodup_iff.2 (orig_nodup ks)
  rw [List.map_append, List.nodup_append] at hn
  rw [List.any_eq_false]
  intro y hy
  have := hn.2.2 y.tag (List.mem_map_of_mem hy) x.tag (by simp)
  simpa using this
theorem Mid.next {ks : List Int} {done rest : List Item} {x : Item} (m : Mid ks done (x :: rest)) : Mid ks (done ++ [x]) (popped ltUp (x :: rest)) := by
  have hp := pop_perm ltUp x rest
  refine ⟨?_, pop_ok ord_up m.ok, fun l hl y hy => ?_⟩
  · rw [List.append_assoc]
    exact (List.Perm.append_left done hp).trans m.perm
  · obtain rfl : x = l := by simpa using hl
    have hy' : y ∈ x :: rest := hp.mem_iff.1 (by simp [hy])
    obtain ⟨j, hj, rfl⟩ := List.getElem_of_mem hy'
    have := root_first ord_up m.ok j hj
    rw [nth_get hj, nth_get (by simp)] at this
    exact this
theorem Mid.len {ks : List Int} {done its : List Item} (m : Mid ks done its) : done.length + its.length = ks.length := by
  have := m.perm.length_eq
  simpa [orig_len] using this

theorem ks_read {h : Hp} {v : Value} {ks : List Int} (r : RowV h 1 v (ks.map fun k => [.int .i64 k])) {j : Nat} {k : Int} (hj : ks[j]? = some k) :
    ∃ b o, idxE 1 v (.int .i64 j) = some (.pointer (some ⟨b, o, none⟩)) ∧ ∀ h', Fr h h' [] → ldS h' (.pointer (some ⟨b, o, none⟩)) = some (.int .i64 k) := by
  obtain ⟨b, o, e, _, hr⟩ := r.get (i := j) (x := [.int .i64 k]) (by simp [hj]) .i64
  exact ⟨b, o, e, fun h' f => by simpa using (hr h' f).1 0 (by omega)⟩

/-- What stands between two turns of the second loop. -/
def SInv (h : Hp) (ks : List Int) (p sb q : Nat) (bl : List Nat) (l : List Value) (h' : Hp) : Prop :=
  ∃ (i : Nat) (done its : List Item) (lk lt : Int), l = [.int .i64 i] ∧ done.length = i ∧ HeapE h' p (.func (.func 13) #[] #[]) its ks.length bl ∧ Mid ks done its ∧ RowAt h' 4 1 sb ks.length (seenRow ks.length done) ∧
    h'[q]? = some (.cells #[.int .i64 lk, .int .i64 lt] 26 (0, 0)) ∧ (∀ x, done.getLast? = some x → lk = x.key ∧ lt = x.tag) ∧ Fr h h' []
/-- How many turns are left. -/
def muI (n : Nat) (l : List Value) (_ : Hp) : Nat := match l with | .int _ m :: _ => n - m.toNat | _ => 0
theorem muI_lt {n i : Nat} (h h' : Hp) (hi : i < n) : muI n [.int .i64 ((i + 1 : Nat) : Int)] h' < muI n [.int .i64 (i : Int)] h := by simp only [muI, Int.toNat_natCast]; omega

theorem sorted_L2 {h h5 : Hp} {v : Value} {ks : List Int} (r : RowV h 1 v (ks.map fun k => [.int .i64 k])) (hn : ks.length ≤ 1048576) {p sb q : Nat} {its0 : List Item} {bl : List Nat} (hp : h.size ≤ p) (hbl : ∀ b ∈ bl, h.size ≤ b)
    (H : HeapE h5 p (.func (.func 13) #[] #[]) its0 ks.length bl) (M : Mid ks [] its0) (hs : RowAt h5 4 1 sb ks.length (seenRow ks.length [])) (hsb : h.size ≤ sb ∧ sb ≠ p ∧ sb ∉ bl) (hq : h5[q]? = some (.cells #[.int .i64 0, .int .i64 0] 26 (0, 0))) (hq' : h.size ≤ q ∧ q ≠ p ∧ q ∉ bl ∧ q ≠ sb) (f5 : Fr h h5 [])
    {R : Value → Hp → Prop} (hR : ∀ h', Fr h h' [] → R (.bool true) h') : f4.L2 h5 v (.pointer (some ⟨p, 0, none⟩)) (.slice (some ⟨sb, 0, none⟩) ks.length ks.length) R (.pointer (some ⟨q, 0, none⟩)) := by
  have hlen : lenE v = some (.int .i64 ks.length) := by obtain ⟨a, cap, rfl, _⟩ := r; simp
  unfold f4.L2
  refine ⟨SInv h ks p sb q bl, muI ks.length, ⟨0, [], its0, 0, 0, rfl, rfl, H, M, hs, hq, by simp, f5⟩, ?_⟩
  intro t32 t33 t34 t35 t39 t40 t38 t41 t42 t8 t9 t43 t44 t45 t46 t47 t48 t49 t50 t51 t52 t53 t54 t55 t56 t57 t58 t59 t60 t61 t62 t63 t64 t65 t66 t67 t68 t69 t70 t71 t72 t73 t74 t75 t76 t77 t78 t79 t80 t81 t82 t83 t84 t85 t86 t87 t88 t89 t90 t91 t92 t93 t94 t95 t96 t2 t97 t98 t99 t100 t101 t36 t37 t7 h6
  rintro ⟨i, done, its, lk, lt, hl, hd, H1, M1, hs1, hq1, hlast, f6⟩
  obtain rfl : t7 = .int .i64 i := by simpa using hl
  have hml := M1.len
  have hi : i ≤ ks.length := by omega
  simp only [hlen, bin_lss, bnd_some, condT_bool]
  by_cases hlt : i < ks.length
  · have hdec : decide ((i : Int) < (ks.length : Int)) = true := by simp; omega
    simp only [hdec, if_true]
    have hLt := H1.lt
    have hqlt := lt_of_get hq1
    have hslt := hs1.lt
    refine pop_spec (L := []) lessOk13 (by simp [Has]) (by simp) (by simp) H1 (by omega) (fun h' e _ => ?_) (fun h7 b cap x rest e hb H7 f7 => ?_)
    · subst e; simp at hml; omega
    subst e hb
    have hpp := hLt.2 b (by simp)
    simp at hsb hbl hq'
    obtain ⟨j, hj, ht, hw, hkj⟩ := M1.mem (x := x) (by simp)
    have hfresh := M1.fresh
    have M2 := M1.next
    have f07 : Fr h h7 [] := f6.trans f7 (by simp) (fun c hc hm => by simp at hm; omega)
    have f09 := (f07.new (.cells #[.int .i64 0, .int .i64 0] 26 (0, 0))).set_new f07.size (.cells #[.int .i64 x.key, .int .i64 x.tag] 26 (0, 0))
    have f79 := ((Fr.refl h7 []).new (.cells #[.int .i64 0, .int .i64 0] 26 (0, 0))).set_new (Nat.le_refl _) (.cells #[.int .i64 x.key, .int .i64 x.tag] 26 (0, 0))
    have g8 := get_new h7 (.cells #[.int .i64 0, .int .i64 0] 26 (0, 0))
    have e9 : stE 2 (h7.push (.cells #[.int .i64 0, .int .i64 0] 26 (0, 0))) (.pointer (some ⟨h7.size, 0, none⟩)) (.agg #[.int .i64 x.key, .int .i64 x.tag]) = some ((h7.push (.cells #[.int .i64 0, .int .i64 0] 26 (0, 0))).setIfInBounds h7.size (.cells #[.int .i64 x.key, .int .i64 x.tag] 26 (0, 0))) := by
      rw [stE_at _ g8]; simp [splice]
    have g9 := get_set (o' := .cells #[.int .i64 x.key, .int .i64 x.tag] 26 (0, 0)) g8
    simp only [extE_tuple, List.getElem?_toArray, List.getElem?_cons_succ, List.getElem?_cons_zero, bnd_some, nw_eq, ptr0_eq, e9]
    have hsz7 := f7.size
    generalize hq8 : h7.size = q8 at *
    generalize (h7.push (.cells #[.int .i64 0, .int .i64 0] 26 (0, 0))).setIfInBounds q8 (.cells #[.int .i64 x.key, .int .i64 x.tag] 26 (0, 0)) = h9 at *
    have hs9 := (hs1.fr f7 (by simp; omega)).fr f79 (by simp)
    have hq9 := f79.get (f7.get hq1 (by simp; omega)) (by simp)
    have H9 : HeapE h9 p _ _ _ [b] := HeapE.fr (.inr ⟨b, cap, rfl, H7⟩) f79 (by simp) (by simp)
    have ls : ldS h9 (.pointer (some ⟨sb, j, none⟩)) = some (.bool false) := by
      have := hs9.one (seenRow_get done hj) (j := 0) (by omega)
      rw [ht] at hfresh
      simpa [hfresh] using this
    obtain ⟨kb, ko, ke, kr⟩ := ks_read r hkj
    have lk9 := kr h9 f09
    obtain ⟨h10, s10, r10, f10, z10⟩ := hs9.put (i := j) (o := 0) (vs := [.bool true]) (v := .bool true) (seenRow_get done hj) (by simp) (by simp) (by simp)
    have s10' : stE 1 h9 (.pointer (some ⟨sb, j, none⟩)) (.bool true) = some h10 := by simpa using s10
    have r10' : RowAt h10 4 1 sb ks.length (seenRow ks.length (done ++ [x])) := by
      rw [← seenRow_set done x ht]
      simpa using r10
    have g10 := f10.get g9 (by simp; omega)
    have hq10 := f10.get hq9 (by simp; omega)
    have e11 : stE 2 h10 (.pointer (some ⟨q, 0, none⟩)) (.agg #[.int .i64 x.key, .int .i64 x.tag]) = some (h10.setIfInBounds q (.cells #[.int .i64 x.key, .int .i64 x.tag] 26 (0, 0))) := by
      rw [stE_at _ hq10]; simp [splice]
    have g11 := get_set (o' := .cells #[.int .i64 x.key, .int .i64 x.tag] 26 (0, 0)) hq10
    have f11 : Fr h10 _ [q] := Fr.set h10 q (.cells #[.int .i64 x.key, .int .i64 x.tag] 26 (0, 0)) (fun _ => by simp) (by rw [hq10]; rfl)
    have w1 : IntKind.i64.wrap ((i : Int) + 1) = ((i + 1 : Nat) : Int) := by rw [wrap_id (by omega) (by omega)]; omega
    have h0j : ¬ ((j : Int) < 0) := by omega
    have hjn : ¬ ((j : Int) ≥ (ks.length : Int)) := by omega
    have hjn' : (j : Int) < (ks.length : Int) := by omega
    have inv : SInv h ks p sb q [b] [.int .i64 ((i + 1 : Nat) : Int)] (h10.setIfInBounds q (.cells #[.int .i64 x.key, .int .i64 x.tag] 26 (0, 0))) := by
      refine ⟨i + 1, done ++ [x], _, x.key, x.tag, rfl, by simp; omega, (H9.fr f10 (by simp; omega) (by simp; omega)).fr f11 (by simp; omega) (by simp; omega), M2, r10'.fr f11 (by simp; omega), g11, by simp, ?_⟩
      exact (f09.news f10 (by simp; omega)).news f11 (by simp; omega)
    rcases Nat.eq_zero_or_pos i with hi0 | hi0
    · have hgt : decide ((i : Int) > 0) = false := by simp; omega
      rw [ht] at inv e11 g9 g10
      have mu := muI_lt h6 (h10.setIfInBounds q (.cells #[.int .i64 x.key, .int .i64 (j : Int)] 26 (0, 0))) hlt
      simp only [hi0] at w1 inv mu
      simp [ldS_at g9, ht, h0j, hlen, hjn, hjn', ls, ke, lk9, hi0, isB_undef, s10', ldA_at g10, e11, w1]
      exact ⟨inv, mu⟩
    · obtain ⟨l, hl9⟩ : ∃ l, done.getLast? = some l := by
        cases e : done.getLast? with
        | some l => exact ⟨l, rfl⟩
        | none => rw [List.getLast?_eq_none_iff] at e; subst e; simp at hd; omega
      obtain ⟨rfl, rfl⟩ := hlast l hl9
      obtain ⟨j', hj', ht', hw', _⟩ := M1.mem' (List.mem_of_getLast? hl9)
      have hno := M1.last l hl9 x (by simp)
      simp [aheadB, ltUp] at hno
      have hk1 : ¬ x.key < l.key := by omega
      rw [ht] at inv e11 g9 g10
      have mu := muI_lt h6 (h10.setIfInBounds q (.cells #[.int .i64 x.key, .int .i64 (j : Int)] 26 (0, 0))) hlt
      by_cases hk : l.key = x.key
      · have hk2 : ¬ (j : Int) < l.tag := by omega
        simp [ldS_at g9, ldS_at hq9, ht, h0j, hlen, hjn, hjn', ls, ke, lk9, hi0, hk, hk2, isB_undef, s10', ldA_at g10, e11, w1]
        exact ⟨inv, mu⟩
      · simp [ldS_at g9, ldS_at hq9, ht, h0j, hlen, hjn, hjn', ls, ke, lk9, hi0, hk, hk1, isB_undef, s10', ldA_at g10, e11, w1]
        exact ⟨inv, mu⟩
  · have hdec : decide ((i : Int) < (ks.length : Int)) = false := by simp; omega
    simp only [hdec, Bool.false_eq_true, if_false]
    obtain rfl : its = [] := List.eq_nil_of_length_eq_zero (by omega)
    have hLt := H1.lt
    refine pop_spec (L := []) lessOk13 (by simp [Has]) (by simp) (by simp) H1 (by simp) (fun h7 _ f7 => ?_) (fun h7 b cap x rest e => by cases e)
    have g8 := get_new h7 (.cells #[.int .i64 0, .int .i64 0] 26 (0, 0))
    have e9 : stE 2 (h7.push (.cells #[.int .i64 0, .int .i64 0] 26 (0, 0))) (.pointer (some ⟨h7.size, 0, none⟩)) (.agg #[.int .i64 0, .int .i64 0]) = some ((h7.push (.cells #[.int .i64 0, .int .i64 0] 26 (0, 0))).setIfInBounds h7.size (.cells #[.int .i64 0, .int .i64 0] 26 (0, 0))) := by
      rw [stE_at _ g8]; simp [splice]
    have f79 := ((Fr.refl h7 []).new (.cells #[.int .i64 0, .int .i64 0] 26 (0, 0))).set_new (Nat.le_refl _) (.cells #[.int .i64 0, .int .i64 0] 26 (0, 0))
    simp only [extE_tuple, List.getElem?_toArray, List.getElem?_cons_succ, List.getElem?_cons_zero, bnd_some, nw_eq, ptr0_eq, e9, unE_not, Bool.not_false, isB_bool, beq_self_eq_true, guardT_true, cond_true]
    refine len_spec ((H1.fr f7 (by simp) (by simp)).fr f79 (by simp) (by simp)) ?_
    simp
    exact hR _ ((f6.then f7).then f79)

theorem sorted_spec {h : Hp} {v : Value} {ks : List Int} (r : RowV h 1 v (ks.map fun k => [.int .i64 k])) (hn : ks.length ≤ 1048576) {R : Value → Hp → Prop} (hR : ∀ h', Fr h h' [] → R (.bool true) h') : CallsH Try.prog 4 #[v] h R := by
  have hlen : lenE v = some (.int .i64 ks.length) := by obtain ⟨a, cap, rfl, _⟩ := r; simp
  refine f4.ok ?_
  unfold f4.T
  refine new_spec fun H0 => ?_
  have f1 := Fr.push h (.cells #[.func (.func 13) #[] #[], .slice none 0 0, .int .i64 0] 45 (0, 0)) []
  generalize h.push (.cells #[.func (.func 13) #[] #[], .slice none 0 0, .int .i64 0] 45 (0, 0)) = h1 at *
  simp only [nil_p_some, bnd_some, condT_bool, Bool.false_eq_true, if_false]
  unfold f4.L1
  refine ⟨fun l h' => ∃ (i : Nat) (its : List Item) (bl : List Nat), l = [.int .i64 i] ∧ i ≤ ks.length ∧ HeapE h' h.size (.func (.func 13) #[] #[]) its i bl ∧ its.Perm ((orig ks).take i) ∧ HeapOk (aheadB ltUp) its ∧ Fr h h' [] ∧ (∀ b ∈ bl, h.size ≤ b),
    muI ks.length, ⟨0, [], [], rfl, by omega, H0, by simp, fun j _ hj => by simp at hj, f1, by simp⟩, ?_⟩
  intro t15 t16 t17 t18 t21 t22 t23 t24 t25 t26 t27 t28 t19 t20 t4 h2
  rintro ⟨i, its, bl, hl, hi, H, hP, hO, f, hbl⟩
  obtain rfl : t4 = .int .i64 i := by simpa using hl
  have hil : its.length = i := by have := hP.length_eq; simp [orig_len] at this; omega
  simp only [hlen, bin_lss, bnd_some, condT_bool]
  by_cases hlt : i < ks.length
  · have hdec : decide ((i : Int) < (ks.length : Int)) = true := by simp; omega
    have w1 : IntKind.i64.wrap ((i : Int) + 1) = ((i + 1 : Nat) : Int) := by rw [wrap_id (by omega) (by omega)]; omega
    obtain ⟨kb, ko, ke, kr⟩ := ks_read r (j := i) (k := ks[i]) (by simp [hlt])
    simp only [hdec, if_true, ke, bnd_some, kr h2 f, fill_entry]
    refine push_spec (L := []) lessOk13 (by simp [Has]) (by simp) (by simp) H (by omega) (by omega) _ _ fun h3 b cap H3 f3 hb => ?_
    simp only [bin_add, bnd_some, w1]
    have f3' : Fr h h3 [] := f.news f3 (fun c hc => by
      rcases List.mem_cons.1 hc with rfl | hc
      · exact Nat.le_refl _
      · exact hbl c hc)
    refine ⟨⟨i + 1, _, [b], rfl, by omega, .inr ⟨b, cap, rfl, by simpa using H3⟩, ?_, push_ok ord_up hO _, f3', fun c hc => ?_⟩, muI_lt h2 h3 hlt⟩
    · refine (push_perm ltUp its _).trans ?_
      rw [orig_take ks hlt]
      exact (hP.cons _).trans (List.perm_append_singleton _ _).symm
    · obtain rfl : c = b := by simpa using hc
      rcases hb with rfl | hb
      · exact hbl c (by simp)
      · have := f.size; omega
  · have hdec : decide ((i : Int) < (ks.length : Int)) = false := by simp; omega
    obtain rfl : i = ks.length := by omega
    simp only [hdec, Bool.false_eq_true, if_false]
    have hLt := H.lt
    refine make_bools hn fun h4 r4 f4' z4 => ?_
    simp only [nw_eq, ptr0_eq]
    have f45 := Fr.push h4 (.cells #[.int .i64 0, .int .i64 0] 26 (0, 0)) []
    have hsz := f.size
    rw [← seenRow_nil] at r4
    refine sorted_L2 r hn (Nat.le_refl _) hbl ((H.fr f4' (by simp) (by simp)).fr f45 (by simp) (by simp)) ⟨by simpa [List.take_of_length_le (Nat.le_of_eq (orig_len ks))] using hP, hO, by simp⟩ (r4.fr f45 (by simp)) ⟨hsz, by omega, fun hc => by have := hLt.2 _ hc; omega⟩ (get_new h4 _)
      ⟨by omega, by omega, fun hc => by have := hLt.2 _ hc; omega, by omega⟩ ((f.then f4').then f45) hR
end Go.Proofs.Ytkiakofohkecaaa
