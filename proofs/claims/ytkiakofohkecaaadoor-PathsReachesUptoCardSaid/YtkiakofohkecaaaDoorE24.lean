/- The reference's search, whole. No condition but that the memory is as told. -/
import Derived.Test.YtkiakofohkecaaaDoorE23
namespace Go.Proofs.YtkiakofohkecaaaDoor
open Go Go.Fw

section
variable {S : Sr} {k : List Seen → List Seen → List Int → Fd} {at_ : Seen} {st nr : List Seen} {a : List Int} {fd : Fd}
theorem settle_over (h : S.over at_.id = true) (e : settleF S k at_ st nr a = fd) : fd = ⟨st ++ [at_], a, 0, true⟩ := by rw [← e]; simp [settleF, h]
theorem settle_pass (h : S.over at_.id = false) (h2 : S.asks at_.sum = false) (e : settleF S k at_ st nr a = fd) : k (st ++ [at_]) nr a = fd := by rw [← e]; simp [settleF, h, h2]
theorem settle_code (h : S.over at_.id = false) (h2 : S.asks at_.sum = true) (h3 : (S.of at_.id).2 ≠ 0) (e : settleF S k at_ st nr a = fd) : fd = ⟨st ++ [at_], a ++ [at_.id], (S.of at_.id).2, false⟩ := by rw [← e]; simp [settleF, h, h2, h3]
theorem settle_bad (h : S.over at_.id = false) (h2 : S.asks at_.sum = true) (h3 : (S.of at_.id).2 = 0) (h4 : (arcsL S.hops (st ++ [at_]) at_.sum (S.of at_.id).1 nr).1 ≠ 0) (e : settleF S k at_ st nr a = fd) : fd = ⟨st ++ [at_], a ++ [at_.id], (arcsL S.hops (st ++ [at_]) at_.sum (S.of at_.id).1 nr).1, false⟩ := by rw [← e]; simp [settleF, h, h2, h3, h4]
theorem settle_good (h : S.over at_.id = false) (h2 : S.asks at_.sum = true) (h3 : (S.of at_.id).2 = 0) (h4 : (arcsL S.hops (st ++ [at_]) at_.sum (S.of at_.id).1 nr).1 = 0) (e : settleF S k at_ st nr a = fd) : k (st ++ [at_]) (arcsL S.hops (st ++ [at_]) at_.sum (S.of at_.id).1 nr).2 (a ++ [at_.id]) = fd := by rw [← e]; simp [settleF, h, h2, h3, h4]
end
def slen (h : Hp) (p : Nat) : Nat :=
  match h[p]? with
  | some (.cells c _ _) => (match (c[0]? : Option Value) with
    | some (.slice _ n _) => n
    | _ => 0)
  | _ => 0
def muS (n : Nat) (_ : List Value) (h : Hp) : Nat := 4096 - slen h (n + 3)

structure RefI (hS : Hp) (n : Nat) (rows : List NRow) (v : Value) (tail : Bool) (w : WantI) (fd : Fd) (st nr : List Seen) (a : List Int) (at_ : Seen) (sv av nv : Value) (bs ba bn : List Nat) (h : Hp) : Prop where
  b : RefB hS n v tail w at_ sv av 0 false h
  l : RefL n sv av st a bs ba h
  near : OwnS h 105 2 nv (nr.map Seen.enc) bn
  nb : ∀ b ∈ bn, n + 5 ≤ b ∧ b ∉ bs ∧ b ∉ ba
  nd : (ids nr).Nodup
  n1 : nr.length ≤ st.length * 1048576
  n2 : st.length ≤ 4095
  n3 : a.length ≤ st.length
  at0 : 0 ≤ at_.sum ∧ at_.sum ≤ 1099511627776
  nr0 : ∀ s ∈ nr, 0 ≤ s.sum ∧ s.sum ≤ 1099511627776
  eq : settleF (srW (ofL rows tail) w) (restF (srW (ofL rows tail) w) (4095 - st.length)) at_ st nr a = fd
def RefInv (hS : Hp) (n : Nat) (rows : List NRow) (v : Value) (tail : Bool) (w : WantI) (fd : Fd) (vs : List Value) (h : Hp) : Prop :=
  ∃ st nr a at_ sv av nv bs ba bn, vs = [nv] ∧ RefI hS n rows v tail w fd st nr a at_ sv av nv bs ba bn h

theorem slen_of {hS h : Hp} {n : Nat} {v sv av : Value} {tail : Bool} {w : WantI} {at_ : Seen} {st : List Seen} {a : List Int} {bs ba : List Nat} {c : Int} {d : Bool} (H : RefB hS n v tail w at_ sv av c d h) (L : RefL n sv av st a bs ba h) : slen h (n + 3) = st.length := by
  rcases L.os with ⟨rfl, hx, _⟩ | ⟨b, cap, rfl, _, _⟩
  · simp at hx; subst hx; simp [slen, H.e7]
  · simp [slen, H.e7]

set_option maxHeartbeats 2000000 in
theorem ref_round {hS h7 : Hp} {n : Nat} {rows : List NRow} {v : Value} {tail : Bool} {w : WantI} {fd : Fd} {st nr : List Seen} {a : List Int} {at_ : Seen} {sv av nv : Value} {bs ba bn : List Nat} (net : NetOk hS v rows) (I : RefI hS n rows v tail w fd st nr a at_ sv av nv bs ba bn h7) {R : Value → Hp → Prop}
    (ret : ∀ h' sv av bs ba, RefL n sv av fd.settled fd.asked bs ba h' → Fr hS h' [] → R (.agg #[sv, av, .int .i64 fd.code, .bool fd.hit]) h') :
    bnd (fldE 0 (.pointer (some ⟨n + 3, 0, none⟩))) fun t18_1 =>
    bnd (ldS h7 t18_1) fun t19_1 =>
    bnd (ldA 2 h7 (.pointer (some ⟨n + 4, 0, none⟩))) fun t20_1 =>
    bnd (fillR 2 #[(.int .i64 0), (.int .i64 0)] [(0, t20_1)]) fun c =>
    nw h7 c 105 (fun b => .slice (some ⟨b, 0, none⟩) 1 1) fun t21_1 h_8 =>
    efS Tryd.prog (Go.Builtin.append_ #[98, 98] 98 #[t19_1, t21_1]) h_8 fun t22_1 h_9 =>
    bnd (fldE 0 (.pointer (some ⟨n + 3, 0, none⟩))) fun t23_1 =>
    bnd (stE 1 h_9 t23_1 t22_1) fun h_10 =>
    bnd (fldE 0 (.pointer (some ⟨n + 1, 0, none⟩))) fun t24_1 =>
    bnd (ldS h_10 t24_1) fun t25_1 =>
    bnd (bif isB t25_1 true then fldE 0 (.pointer (some ⟨n + 4, 0, none⟩)) else some undef) fun t27_1 =>
    bnd (bif isB t25_1 true then ldS h_10 t27_1 else some undef) fun t28_1 =>
    bnd (bif isB t25_1 true then fldE 1 (.pointer (some ⟨n + 1, 0, none⟩)) else some undef) fun t29_1 =>
    bnd (bif isB t25_1 true then ldS h_10 t29_1 else some undef) fun t30_1 =>
    bnd (bif isB t25_1 true then binE .eql t28_1 t30_1 else some undef) fun t31_1 =>
    bnd ((asB t25_1).map fun t => bif t then t31_1 else (.bool false)) fun t32_1 =>
    condT t32_1 (
    bnd (fldE 3 (.pointer (some ⟨n + 3, 0, none⟩))) fun t33_1 =>
    bnd (stE 1 h_10 t33_1 (.bool true)) fun h_11 =>
    bnd (ldA 4 h_11 (.pointer (some ⟨n + 3, 0, none⟩))) fun t34_1 =>
    bnd (stE 4 h_11 (.pointer (some ⟨n + 2, 0, none⟩)) t34_1) fun h_12 =>
    bnd (ldA 4 h_12 (.pointer (some ⟨n + 2, 0, none⟩))) fun r6 =>
    R r6 h_12) (
    bnd (fldE 2 (.pointer (some ⟨n + 1, 0, none⟩))) fun t35_1 =>
    bnd (ldS h_10 t35_1) fun t36_1 =>
    bnd (binE .lss t36_1 (.int .i64 0)) fun t37_1 =>
    bnd (bif isB t37_1 false then fldE 1 (.pointer (some ⟨n + 4, 0, none⟩)) else some undef) fun t39_1 =>
    bnd (bif isB t37_1 false then ldS h_10 t39_1 else some undef) fun t40_1 =>
    bnd (bif isB t37_1 false then fldE 2 (.pointer (some ⟨n + 1, 0, none⟩)) else some undef) fun t41_1 =>
    bnd (bif isB t37_1 false then ldS h_10 t41_1 else some undef) fun t42_1 =>
    bnd (bif isB t37_1 false then binE .lss t40_1 t42_1 else some undef) fun t43_1 =>
    bnd ((asB t37_1).map fun t => bif t then (.bool true) else t43_1) fun t44_1 =>
    condT t44_1 (
    bnd (fldE 1 (.pointer (some ⟨n + 3, 0, none⟩))) fun t45_1 =>
    bnd (ldS h_10 t45_1) fun t46_1 =>
    bnd (fldE 0 (.pointer (some ⟨n + 4, 0, none⟩))) fun t47_1 =>
    bnd (ldS h_10 t47_1) fun t48_1 =>
    bnd (fillR 1 #[(.int .i64 0)] [(0, t48_1)]) fun c_1 =>
    nw h_10 c_1 2 (fun b => .slice (some ⟨b, 0, none⟩) 1 1) fun t49_1 h_20 =>
    efS Tryd.prog (Go.Builtin.append_ #[28, 28] 28 #[t46_1, t49_1]) h_20 fun t50_1 h_21 =>
    bnd (fldE 1 (.pointer (some ⟨n + 3, 0, none⟩))) fun t51_1 =>
    bnd (stE 1 h_21 t51_1 t50_1) fun h_22 =>
    bnd (ldA 2 h_22 (.pointer (some ⟨n, 0, none⟩))) fun t53_1 =>
    bnd (fldE 0 (.pointer (some ⟨n + 4, 0, none⟩))) fun t54_1 =>
    bnd (ldS h_22 t54_1) fun t55_1 =>
    CallsH Tryd.prog 32 #[t53_1, t55_1] h_22 fun t56_1 h_23 =>
    bnd (extE 0 t56_1) fun t57_1 =>
    bnd (extE 1 t56_1) fun t58_1 =>
    bnd (binE .neq t58_1 (.int .i64 0)) fun t60_1 =>
    condT t60_1 (
    bnd (fldE 2 (.pointer (some ⟨n + 3, 0, none⟩))) fun t62_1 =>
    bnd (stE 1 h_23 t62_1 t58_1) fun h_24 =>
    bnd (ldA 4 h_24 (.pointer (some ⟨n + 3, 0, none⟩))) fun t63_1 =>
    bnd (stE 4 h_24 (.pointer (some ⟨n + 2, 0, none⟩)) t63_1) fun h_25 =>
    bnd (ldA 4 h_25 (.pointer (some ⟨n + 2, 0, none⟩))) fun r6_3 =>
    R r6_3 h_25) (
    (f52.L2 nv h_23 t57_1 (.pointer (some ⟨n + 1, 0, none⟩)) (.pointer (some ⟨n + 3, 0, none⟩)) (.pointer (some ⟨n + 2, 0, none⟩)) R (.pointer (some ⟨n + 4, 0, none⟩)) (RefInv hS n rows v tail w fd) (muS n) h7))) (
    (f52.J1 nv h_10 (.pointer (some ⟨n + 3, 0, none⟩)) (.pointer (some ⟨n + 2, 0, none⟩)) R (.pointer (some ⟨n + 4, 0, none⟩)) (RefInv hS n rows v tail w fd) (muS n) nv h7))) := by
  have hb := I.b
  have hL := I.l
  have hn0 := hb.n0
  have hlt7 := hb.lt
  have hn1 := I.n1
  have hn2 := I.n2
  have hn3 := I.n3
  have hat := I.at0
  have heq := I.eq
  have l9 : ldA 2 h7 (.pointer (some ⟨n + 4, 0, none⟩)) = some (.agg #[.int .i64 at_.id, .int .i64 at_.sum]) := by rw [ldA_at hb.e9]; simp
  simp only [fldE_ptr, Nat.zero_add, bnd_some, ldS_at hb.e7, List.getElem?_toArray, List.getElem?_cons_succ, List.getElem?_cons_zero, l9, fill_seen1, nw_eq]
  have f8 := Fr.push h7 (.cells #[.int .i64 at_.id, .int .i64 at_.sum] 105 (0, 0)) []
  have g8 := get_new h7 (.cells #[.int .i64 at_.id, .int .i64 at_.sum] 105 (0, 0))
  generalize h7.push (.cells #[.int .i64 at_.id, .int .i64 at_.sum] 105 (0, 0)) = h8 at *
  have sg8 : Seg h8 2 h7.size 0 [at_.enc] := by
    refine ⟨_, _, _, g8, by simp, by simp [Seen.enc], fun i j y hi hj => ?_⟩
    obtain rfl : i = 0 := by
      have := (List.getElem?_eq_some_iff.1 hi).1
      simpa using this
    obtain rfl : at_.enc = y := by simpa using hi
    simp [Seen.enc]
  refine own_app (ys := [at_.enc]) elem98 (hL.os.fr f8 (by simp)) sg8 (by simp [Seen.enc]) (by simp; omega) (by simp; omega) fun h9 sv' bs' os9 f9 nb9 => ?_
  have f8s := f8.size
  have f9s := f9.size
  have F9 : Fr h7 h9 bs := f8.trans f9 (by simp) (fun c _ hc => hc)
  have H9 := hb.fr' F9 hL.new.1
  have hdis := hL.new.2.2
  have oa9 := hL.oa.fr F9 fun b hb hb' => hdis b hb' hb
  have near9 := I.near.fr F9 fun b hb hb' => (I.nb b hb).2.1 hb'
  have nbs : ∀ b ∈ bs', n + 5 ≤ b := fun b hb => by rcases nb9 b hb with h | h; exact hL.new.1 b h; omega
  have ltb := hL.oa.lt
  have ltn := I.near.lt
  have L9 : RefL n sv' av (st ++ [at_]) a bs' ba h9 := ⟨by simpa using os9, oa9, nbs, hL.new.2.1, fun b hb hb' => by rcases nb9 b hb with h | h; exact hdis b h hb'; (have := ltb b hb'; omega)⟩
  have nn9 : ∀ b ∈ bn, n + 5 ≤ b ∧ b ∉ bs' ∧ b ∉ ba := fun b hb => ⟨(I.nb b hb).1, fun hb' => by rcases nb9 b hb' with h | h; exact (I.nb b hb).2.1 h; (have := ltn b hb; omega), (I.nb b hb).2.2⟩
  simp only [H9.st0 os9.cells os9.one, bnd_some]
  obtain ⟨H10, f10⟩ := H9.put7 sv' av 0 false
  generalize h9.setIfInBounds (n + 3) (.cells #[sv', av, .int .i64 0, .bool false] 100 (0, 0)) = h10 at *
  have L10 := L9.fr' f10 fun b hb => by simp at hb; subst hb; exact L9.low (by omega)
  have near10 := near9.fr f10 fun b hb hb' => by simp at hb'; have := (nn9 b hb).1; omega
  have hl1 : (st ++ [at_]).length = st.length + 1 := by simp
  have mu7 : muS n [nv] h7 = 4096 - st.length := by simp only [muS, slen_of hb hL]
  -- the next node
  have J1c : ∀ (nv' : Value) (h' : Hp) (nr' : List Seen) (a' : List Int) (av' : Value) (ba' bn' : List Nat), RefB hS n v tail w at_ sv' av' 0 false h' → RefL n sv' av' (st ++ [at_]) a' bs' ba' h' → OwnS h' 105 2 nv' (nr'.map Seen.enc) bn' → (∀ b ∈ bn', n + 5 ≤ b ∧ b ∉ bs' ∧ b ∉ ba') → (ids nr').Nodup → nr'.length ≤ (st.length + 1) * 1048576 → a'.length ≤ st.length + 1 → (∀ s ∈ nr', 0 ≤ s.sum ∧ s.sum ≤ 1099511627776) →
      restF (srW (ofL rows tail) w) (4095 - st.length) (st ++ [at_]) nr' a' = fd →
      f52.J1 nv' h' (.pointer (some ⟨n + 3, 0, none⟩)) (.pointer (some ⟨n + 2, 0, none⟩)) R (.pointer (some ⟨n + 4, 0, none⟩)) (RefInv hS n rows v tail w fd) (muS n) nv h7 := by
    intro nv' h' nr' a' av' ba' bn' H' L' N' hnn hnd hlen hla hns hfd
    refine ref_J1 (S := srW (ofL rows tail) w) H' L' N' hnn (by omega) hnd (by omega) (by rw [hl1, show 4096 - (st.length + 1) = 4095 - st.length by omega]; exact hfd) ret fun h1 h2 h3 h'' nv'' bn'' H'' L'' N'' hnn'' => ?_
    have hmem : ∀ s ∈ nr'.eraseIdx (leastI nr'), s ∈ nr' := fun s hs => List.mem_of_mem_eraseIdx hs
    refine ⟨⟨st ++ [at_], nr'.eraseIdx (leastI nr'), a', snth nr' (leastI nr'), sv', av', nv'', bs', ba', bn'', rfl, H'', L'', N'', hnn'', ?_, ?_, by omega, by omega, hns _ (snth_mem h2), fun s hs => hns s (hmem s hs), h3⟩, ?_⟩
    · exact hnd.sublist ((List.eraseIdx_sublist _ _).map _)
    · rw [hl1]; have := (List.eraseIdx_sublist nr' (leastI nr')).length_le; omega
    · rw [mu7]; simp only [muS, slen_of H'' L'', hl1]; omega
  -- an end
  have retF : ∀ (h' : Hp) (a' : List Int) (av' : Value) (ba' : List Nat) (c : Int) (d : Bool), RefB hS n v tail w at_ sv' av' c d h' → RefL n sv' av' (st ++ [at_]) a' bs' ba' h' → fd = ⟨st ++ [at_], a', c, d⟩ →
      bnd (ldA 4 h' (.pointer (some ⟨n + 3, 0, none⟩))) fun t111_1 =>
      bnd (stE 4 h' (.pointer (some ⟨n + 2, 0, none⟩)) t111_1) fun h_13 =>
      bnd (ldA 4 h_13 (.pointer (some ⟨n + 2, 0, none⟩))) fun r6_1 => R r6_1 h_13 := by
    intro h' a' av' ba' c d H' L' hfd
    refine H'.ret L' fun h'' L'' f'' => ?_
    have := ret h'' sv' av' bs' ba' (by rw [hfd]; exact L'') f''
    rwa [hfd] at this
  have hcond : ∀ X Y : Prop, (((w.aim && decide (at_.id = w.to)) = true → X) ∧ ((w.aim && decide (at_.id = w.to)) = false → Y)) →
      bnd (bif isB (.bool w.aim) true then some (.pointer (some ⟨n + 4, 0, none⟩)) else some undef) fun t27_1 =>
      bnd (bif isB (.bool w.aim) true then ldS h10 t27_1 else some undef) fun t28_1 =>
      bnd (bif isB (.bool w.aim) true then some (.pointer (some ⟨n + 1, 1, none⟩)) else some undef) fun t29_1 =>
      bnd (bif isB (.bool w.aim) true then ldS h10 t29_1 else some undef) fun t30_1 =>
      bnd (bif isB (.bool w.aim) true then binE .eql t28_1 t30_1 else some undef) fun t31_1 =>
      bnd ((asB (.bool w.aim)).map fun t => bif t then t31_1 else (.bool false)) fun t32_1 => condT t32_1 X Y := by
    intro X Y h
    cases ha : w.aim
    · rw [ha] at h
      simpa using h.2 rfl
    · rw [ha] at h
      by_cases ht : at_.id = w.to
      · simpa [ldS_at H10.e9, ldS_at H10.e5, ht] using h.1 (by simp [ht])
      · simpa [ldS_at H10.e9, ldS_at H10.e5, ht] using h.2 (by simp [ht])
  simp only [ldS_at H10.e5, List.getElem?_toArray, List.getElem?_cons_succ, List.getElem?_cons_zero, bnd_some]
  refine hcond _ _ ⟨fun hov => ?_, fun hov => ?_⟩
  · simp only [H10.st3, bnd_some]
    obtain ⟨H', f'⟩ := H10.put7 sv' av 0 true
    refine retF _ a av ba 0 true H' (L10.fr' f' fun b hb => by simp at hb; subst hb; exact L10.low (by omega)) ?_
    exact settle_over (S := srW (ofL rows tail) w) hov heq
  · have hcond2 : ∀ X Y : Prop, (((decide (w.most < 0) || decide (at_.sum < w.most)) = true → X) ∧ ((decide (w.most < 0) || decide (at_.sum < w.most)) = false → Y)) →
        bnd (binE .lss (.int .i64 w.most) (.int .i64 0)) fun t37_1 =>
        bnd (bif isB t37_1 false then some (.pointer (some ⟨n + 4, 1, none⟩)) else some undef) fun t39_1 =>
        bnd (bif isB t37_1 false then ldS h10 t39_1 else some undef) fun t40_1 =>
        bnd (bif isB t37_1 false then some (.pointer (some ⟨n + 1, 2, none⟩)) else some undef) fun t41_1 =>
        bnd (bif isB t37_1 false then ldS h10 t41_1 else some undef) fun t42_1 =>
        bnd (bif isB t37_1 false then binE .lss t40_1 t42_1 else some undef) fun t43_1 =>
        bnd ((asB t37_1).map fun t => bif t then (.bool true) else t43_1) fun t44_1 => condT t44_1 X Y := by
      intro X Y h
      by_cases hm : w.most < 0
      · simpa [hm] using h.1 (by simp [hm])
      · by_cases ht : at_.sum < w.most
        · simpa [ldS_at H10.e9, ldS_at H10.e5, hm, ht] using h.1 (by simp [ht])
        · simpa [ldS_at H10.e9, ldS_at H10.e5, hm, ht] using h.2 (by simp [hm, ht])
    refine hcond2 _ _ ⟨fun has => ?_, fun has => ?_⟩
    · simp only [ldS_at H10.e7, ldS_at H10.e9, List.getElem?_toArray, List.getElem?_cons_succ, List.getElem?_cons_zero, bnd_some, fill_int, nw_eq]
      have f20 := Fr.push h10 (.cells #[.int .i64 at_.id] 2 (0, 0)) []
      have g20 := get_new h10 (.cells #[.int .i64 at_.id] 2 (0, 0))
      generalize h10.push (.cells #[.int .i64 at_.id] 2 (0, 0)) = h20 at *
      refine own_app elem28 (L10.oa.fr f20 (by simp)) (seg_one g20) (by simp) (by simp [ints]; omega) (by simp [ints]; omega) fun h21 av' ba' oa21 f21 nb21 => ?_
      have F21 : Fr h10 h21 ba := f20.trans f21 (by simp) (fun c _ hc => hc)
      have f20s := f20.size
      have H21 := H10.fr' F21 L10.new.2.1
      have lt10 := H10.lt
      have lts := L10.os.lt
      have ltn := near10.lt
      have hdis' := L10.new.2.2
      have L21 : RefL n sv' av' (st ++ [at_]) (a ++ [at_.id]) bs' ba' h21 := ⟨L10.os.fr F21 hdis', by simpa [ints] using oa21, L10.new.1, fun b hb => by rcases nb21 b hb with h | h; exact L10.new.2.1 b h; omega, fun b hb hb' => by rcases nb21 b hb' with h | h; exact hdis' b hb h; (have := lts b hb; omega)⟩
      have near21 := near10.fr F21 fun b hb hb' => (nn9 b hb).2.2 hb'
      have nn21 : ∀ b ∈ bn, n + 5 ≤ b ∧ b ∉ bs' ∧ b ∉ ba' := fun b hb => ⟨(nn9 b hb).1, (nn9 b hb).2.1, fun hb' => by rcases nb21 b hb' with h | h; exact (nn9 b hb).2.2 h; (have := ltn b hb; omega)⟩
      simp only [H21.st1 oa21.cells oa21.one, bnd_some]
      obtain ⟨H22, f22⟩ := H21.put7 sv' av' 0 false
      generalize h21.setIfInBounds (n + 3) (.cells #[sv', av', .int .i64 0, .bool false] 100 (0, 0)) = h22 at *
      have L22 := L21.fr' f22 fun b hb => by simp at hb; subst hb; exact L21.low (by omega)
      have near22 := near21.fr f22 fun b hb hb' => by simp at hb'; have := (nn21 b hb).1; omega
      have ltn22 := near22.lt
      have l3 : ldA 2 h22 (.pointer (some ⟨n, 0, none⟩)) = some (.agg #[v, .bool tail]) := by rw [ldA_at H22.e3]; simp
      simp only [l3, ldS_at H22.e9, List.getElem?_toArray, List.getElem?_cons_zero, bnd_some]
      refine of_specB net H22.fr at_.id fun h23 v23 hB f23 => ?_
      obtain ⟨B0, rv0, hB0⟩ := hB
      obtain ⟨B1, rv, hB1⟩ := rowB_low rv0
      have H23 := H22.fr' f23 (by simp)
      have L23 := L22.fr' f23 (by simp)
      have near23 := near22.fr f23 (by simp)
      have hal := ofL_len net tail at_.id
      simp only [extE_tuple, List.getElem?_toArray, List.getElem?_cons_succ, List.getElem?_cons_zero, bnd_some, bin_neq, condT_bool]
      by_cases hc : (ofL rows tail at_.id).2 = 0
      · have hd : decide ((ofL rows tail at_.id).2 ≠ 0) = false := by simp [hc]
        simp only [hd, Bool.false_eq_true, if_false]
        refine ref_L2 H23 L23 near23 nn21 rv (fun b hb => ⟨(hB1 b hb).2, fun hb' => ?_⟩) (by omega) I.nd (by omega) hal hat I.nr0 (fun hbad h' L' f' => ?_) fun hgood h' nv' nr' bn' hnr' H' L' N' hnn hnd hlen hns => ?_
        · have h1 := (nn21 b hb').1
          have h2 := ltn22 b hb'
          rcases hB0 b (hB1 b hb).1 with h | h <;> omega
        · have e := settle_bad (S := srW (ofL rows tail) w) hov has hc hbad heq
          have := ret h' sv' av' bs' ba' (by rw [e]; exact L') f'
          rw [e] at this
          exact this
        · have e := settle_good (S := srW (ofL rows tail) w) hov has hc hgood heq
          exact J1c nv' h' nr' (a ++ [at_.id]) av' ba' bn' H' L' N' hnn hnd (by omega) (by simp; omega) hns (by rw [hnr']; exact e)
      · have hd : decide ((ofL rows tail at_.id).2 ≠ 0) = true := by simp [hc]
        simp only [hd, if_true, H23.st2, bnd_some]
        obtain ⟨H', f'⟩ := H23.put7 sv' av' (ofL rows tail at_.id).2 false
        exact retF _ (a ++ [at_.id]) av' ba' _ false H' (L23.fr' f' fun b hb => by simp at hb; subst hb; exact L23.low (by omega)) (settle_code (S := srW (ofL rows tail) w) hov has hc heq)
    · have q1 : nr.length ≤ (st.length + 1) * 1048576 := Nat.le_trans hn1 (Nat.mul_le_mul_right _ (Nat.le_succ _))
      have q2 : a.length ≤ st.length + 1 := Nat.le_succ_of_le hn3
      have q3 := settle_pass (S := srW (ofL rows tail) w) hov has heq
      have q4 := J1c nv h10 nr a av ba bn H10 L10 near10 nn9 I.nd q1 q2 I.nr0
      exact q4 q3
end Go.Proofs.YtkiakofohkecaaaDoor
