/- The reference's search, its parts: the next node; the arcs of a node. No condition but that the memory is as told. -/
import Derived.Test.YtkiakofohkecaaaDoorE22
namespace Go.Proofs.YtkiakofohkecaaaDoor
open Go Go.Fw

section
variable {hS h : Hp} {n : Nat} {v sv av nv : Value} {tail : Bool} {w : WantI} {at_ : Seen} {st nr : List Seen} {a : List Int} {bs ba bn : List Nat} {S : Sr} {fd : Fd} {R : Value → Hp → Prop} {I1 : List Value → Hp → Prop} {μ1 : List Value → Hp → Nat} {t8 : Value} {h_7 : Hp}

theorem ref_J1 (H : RefB hS n v tail w at_ sv av 0 false h) (L : RefL n sv av st a bs ba h) (N : OwnS h 105 2 nv (nr.map Seen.enc) bn) (hbn : ∀ b ∈ bn, n + 5 ≤ b ∧ b ∉ bs ∧ b ∉ ba) (hst : st.length ≤ 4096) (hnd : (ids nr).Nodup) (hlen : nr.length ≤ 8589934592) (hfd : restF S (4096 - st.length) st nr a = fd)
    (ret : ∀ h' sv av bs ba, RefL n sv av fd.settled fd.asked bs ba h' → Fr hS h' [] → R (.agg #[sv, av, .int .i64 fd.code, .bool fd.hit]) h')
    (next : st.length < 4096 → leastI nr < nr.length → settleF S (restF S (4095 - st.length)) (snth nr (leastI nr)) st (nr.eraseIdx (leastI nr)) a = fd → ∀ h' nv' bn', RefB hS n v tail w (snth nr (leastI nr)) sv av 0 false h' → RefL n sv av st a bs ba h' → OwnS h' 105 2 nv' ((nr.eraseIdx (leastI nr)).map Seen.enc) bn' → (∀ b ∈ bn', n + 5 ≤ b ∧ b ∉ bs ∧ b ∉ ba) → I1 [nv'] h' ∧ μ1 [nv'] h' < μ1 [t8] h_7) :
    f52.J1 nv h (.pointer (some ⟨n + 3, 0, none⟩)) (.pointer (some ⟨n + 2, 0, none⟩)) R (.pointer (some ⟨n + 4, 0, none⟩)) I1 μ1 t8 h_7 := by
  unfold f52.J1
  have hl : (nr.map Seen.enc).length = nr.length := by simp
  simp only [N.lenE, bnd_some, bin_eql, condT_bool, hl]
  by_cases hnr : nr = []
  · have hd : decide ((nr.length : Int) = 0) = true := by simp [hnr]
    simp only [hd, if_true]
    refine H.ret L fun h' L' f' => ?_
    have : fd = ⟨st, a, 0, false⟩ := by rw [← hfd, hnr]; cases 4096 - st.length <;> simp [restF]
    subst this
    exact ret h' sv av bs ba L' f'
  · have hpos : 0 < nr.length := List.length_pos_iff.2 hnr
    have hd : decide ((nr.length : Int) = 0) = false := by simp; omega
    simp only [hd, Bool.false_eq_true, if_false, fldE_ptr, bnd_some, Nat.zero_add, ldS_at H.e7, List.getElem?_toArray, List.getElem?_cons_zero, L.os.lenE, List.length_map, bin_eql, condT_bool]
    by_cases hf : st.length = 4096
    · have hd : decide ((st.length : Int) = 4096) = true := by simp; omega
      simp only [hd, if_true, H.st2, bnd_some]
      obtain ⟨H', f'⟩ := H.put7 sv av 92 false
      refine H'.ret (L.fr' f' fun b hb => by simp at hb; subst hb; exact L.low (by omega)) fun h' L' f' => ?_
      have : fd = ⟨st, a, 92, false⟩ := by rw [← hfd, hf]; simp [restF, hnr]
      subst this
      exact ret h' sv av bs ba L' f'
    · have hd : decide ((st.length : Int) = 4096) = false := by simp; omega
      simp only [hd, Bool.false_eq_true, if_false]
      refine next_spec N.rowv hpos (by omega) fun k hk => ?_
      have hkl := hk.1
      have hki := leastI_eq hnd hk
      subst hki
      obtain ⟨bb, oo, ei, _, rd⟩ := N.rowv.get (i := leastI nr) (x := (snth nr (leastI nr)).enc) (by rw [snth_get hkl]; simp [hkl]) .i64
      have rall := (rd h (Fr.refl _ _)).2
      simp only [Seen.enc] at rall
      have s9 : stE 2 h (.pointer (some ⟨n + 4, 0, none⟩)) (.agg #[.int .i64 (snth nr (leastI nr)).id, .int .i64 (snth nr (leastI nr)).sum]) = some (h.setIfInBounds (n + 4) (.cells #[.int .i64 (snth nr (leastI nr)).id, .int .i64 (snth nr (leastI nr)).sum] 105 (0, 0))) := by
        rw [stE_at _ H.e9]; simp [splice]
      simp only [ei, rall, s9, bnd_some]
      obtain ⟨H1, f1⟩ := H.put9 (snth nr (leastI nr))
      generalize h.setIfInBounds (n + 4) (.cells #[.int .i64 (snth nr (leastI nr)).id, .int .i64 (snth nr (leastI nr)).sum] 105 (0, 0)) = h1 at *
      have L1 := L.fr' f1 fun b hb => by simp at hb; subst hb; exact L.low (by omega)
      have N1 := N.fr f1 fun b hb hm => by simp at hm; have := (hbn b hb).1; omega
      have lt1 := H1.lt
      obtain ⟨b1, c1, hb1, sl1, sg1⟩ := N1.front (n := leastI nr) (by simpa using hkl)
      simp only [sl1, bnd_some]
      have y1 : ∀ xs : List Seen, ∀ x ∈ xs.map Seen.enc, ∀ u ∈ x, u.oneCell' = true := fun xs x hx => by obtain ⟨s, _, rfl⟩ := List.mem_map.1 hx; simp [Seen.enc]
      refine own_app elem98 (OwnS.nil h1 105 2) sg1 (fun x hx => y1 nr x (List.mem_of_mem_take hx)) (by simp; omega) (by simp; omega) fun h2 v2 bl2 o2 f2 n2 => ?_
      have N2 := N1.fr f2 (by simp)
      obtain ⟨b3, o3, c3, hb3, sl3, sg3⟩ := N2.behind (n := leastI nr) (by simpa using hkl)
      have w1 : IntKind.i64.wrap ((leastI nr : Int) + 1) = ((leastI nr + 1 : Nat) : Int) := by rw [i64_id (by omega) (by omega)]; omega
      simp only [bin_add, bnd_some, w1, sl3]
      refine own_app elem98 o2 sg3 (fun x hx => y1 nr x (List.mem_of_mem_drop hx)) (by simp; omega) (by simp; omega) fun h4 v4 bl4 o4 f4 n4 => ?_
      have f2s := f2.size
      have hbl2 : ∀ b ∈ bl2, h1.size ≤ b := fun b hb => by rcases n2 b hb with h | h; simp at h; exact h
      have F4 : Fr h1 h4 [] := f2.trans f4 (by simp) fun c hc hm => by have := hbl2 c hm; omega
      have hbl4 : ∀ b ∈ bl4, h1.size ≤ b := fun b hb => by rcases n4 b hb with h | h; exact hbl2 b h; omega
      have e4 : List.take (leastI nr) (List.map Seen.enc nr) ++ List.drop (leastI nr + 1) (List.map Seen.enc nr) = (nr.eraseIdx (leastI nr)).map Seen.enc := by
        rw [List.eraseIdx_eq_take_drop_succ, List.map_append, List.map_take, List.map_drop]
      simp only [List.nil_append, e4] at o4
      have hlL := L1.os.lt
      have hlA := L1.oa.lt
      refine next (by omega) hkl ?_ h4 v4 bl4 (H1.fr' F4 (by simp)) (L1.fr' F4 (by simp)) o4 fun b hb => ⟨by have := hbl4 b hb; omega, fun hb' => ?_, fun hb' => ?_⟩
      · rw [← hfd]
        obtain ⟨m, hm⟩ : ∃ m, 4096 - st.length = m + 1 := ⟨4095 - st.length, by omega⟩
        rw [hm, show 4095 - st.length = m by omega]
        simp only [restF, if_neg hnr]
      · have := hlL b hb'; have := hbl4 b hb; omega
      · have := hlA b hb'; have := hbl4 b hb; omega

/-- Where the arcs' loop stands. -/
def AInv (hS : Hp) (n : Nat) (v : Value) (tail : Bool) (w : WantI) (at_ : Seen) (sv av : Value) (st : List Seen) (a : List Int) (bs ba : List Nat) (t57 : Value) (l : List Arc) (B1 : List Nat) (nr0 : List Seen) (m : Nat) (vs : List Value) (h : Hp) : Prop :=
  ∃ (j : Nat) (nv : Value) (nr : List Seen) (bn : List Nat), vs = [nv, .int .i64 j] ∧ j ≤ l.length ∧ RefB hS n v tail w at_ sv av 0 false h ∧ RefL n sv av st a bs ba h ∧ OwnS h 105 2 nv (nr.map Seen.enc) bn ∧ (∀ b ∈ bn, n + 5 ≤ b ∧ b ∉ bs ∧ b ∉ ba) ∧ (∀ b ∈ B1, b < h.size ∧ b ∉ bn) ∧ RowB h 3 t57 (l.map Arc.enc) B1 ∧
    arcsL w.hops st at_.sum (l.drop j) nr = arcsL w.hops st at_.sum l nr0 ∧ (ids nr).Nodup ∧ nr.length ≤ m + j ∧ ∀ s ∈ nr, 0 ≤ s.sum ∧ s.sum ≤ 1099511627776

set_option maxHeartbeats 2000000 in
theorem ref_L2 {l : List Arc} {t57 : Value} {B1 : List Nat} (H : RefB hS n v tail w at_ sv av 0 false h) (L : RefL n sv av st a bs ba h) (N : OwnS h 105 2 nv (nr.map Seen.enc) bn) (hbn : ∀ b ∈ bn, n + 5 ≤ b ∧ b ∉ bs ∧ b ∉ ba) (rv : RowB h 3 t57 (l.map Arc.enc) B1) (hB1 : ∀ b ∈ B1, b < h.size ∧ b ∉ bn)
    (hst : st.length ≤ 4096) (hnd : (ids nr).Nodup) (hlen : nr.length ≤ 4296015872) (hal : l.length ≤ 1048576) (hat : 0 ≤ at_.sum ∧ at_.sum ≤ 1099511627776) (hns : ∀ s ∈ nr, 0 ≤ s.sum ∧ s.sum ≤ 1099511627776)
    (bad : (arcsL w.hops st at_.sum l nr).1 ≠ 0 → ∀ h', RefL n sv av st a bs ba h' → Fr hS h' [] → R (.agg #[sv, av, .int .i64 (arcsL w.hops st at_.sum l nr).1, .bool false]) h')
    (good : (arcsL w.hops st at_.sum l nr).1 = 0 → ∀ h' nv' nr' bn', nr' = (arcsL w.hops st at_.sum l nr).2 → RefB hS n v tail w at_ sv av 0 false h' → RefL n sv av st a bs ba h' → OwnS h' 105 2 nv' (nr'.map Seen.enc) bn' → (∀ b ∈ bn', n + 5 ≤ b ∧ b ∉ bs ∧ b ∉ ba) → (ids nr').Nodup → nr'.length ≤ nr.length + 1048576 → (∀ s ∈ nr', 0 ≤ s.sum ∧ s.sum ≤ 1099511627776) →
      f52.J1 nv' h' (.pointer (some ⟨n + 3, 0, none⟩)) (.pointer (some ⟨n + 2, 0, none⟩)) R (.pointer (some ⟨n + 4, 0, none⟩)) I1 μ1 nv h_7) :
    f52.L2 nv h t57 (.pointer (some ⟨n + 1, 0, none⟩)) (.pointer (some ⟨n + 3, 0, none⟩)) (.pointer (some ⟨n + 2, 0, none⟩)) R (.pointer (some ⟨n + 4, 0, none⟩)) I1 μ1 h_7 := by
  obtain ⟨av', cv, rfl, xv⟩ := id rv
  unfold f52.L2
  refine ⟨AInv hS n v tail w at_ sv av st a bs ba (.slice av' (l.map Arc.enc).length cv) l B1 nr nr.length, muF l.length, ⟨0, nv, nr, bn, rfl, by omega, H, L, N, hbn, hB1, rv, rfl, hnd, by omega, hns⟩, ?_⟩
  intro t64_1 t65_1 t66_1 t67_1 t70_1 t71_1 t72_1 t73_1 t74_1 t75_1 t76_1 t13_1 t77_1 t78_1 t79_1 t80_1 t81_1 t82_1 t83_1 t84_1 t85_1 t86_1 t87_1 t88_1 t89_1 t90_1 t91_1 t92_1 t93_1 t94_1 t95_1 t96_1 t97_1 t98_1 t99_1 t100_1 t101_1 t102_1 t103_1 t104_1 t105_1 t106_1 t107_1 t8_1 t68_1 t69_1 t12_1 h3
  rintro ⟨j, nv3, nr3, bn3, hv, hj, H3, L3, N3, hbn3, hB3, rv3, har, hnd3, hlen3, hns3⟩
  obtain ⟨rfl, rfl⟩ : t8_1 = nv3 ∧ t12_1 = .int .i64 j := by simpa using hv
  have hll : (l.map Arc.enc).length = l.length := by simp
  simp only [lenE_sl, bnd_some, bin_lss, condT_bool]
  by_cases hlt : j < l.length
  · have hdec : decide ((j : Int) < ((l.map Arc.enc).length : Int)) = true := by simp; omega
    have w1 : IntKind.i64.wrap ((j : Int) + 1) = ((j + 1 : Nat) : Int) := by rw [i64_id (by omega) (by omega)]; omega
    obtain ⟨bb, oo, ei, hbl, rd⟩ := rv3.rowv.get (i := j) (x := (l[j]).enc) (by simp [hlt]) .i64
    have rall := (rd h3 (Fr.refl _ _)).2
    simp only [Arc.enc] at rall
    have hdr : l.drop j = l[j] :: l.drop (j + 1) := List.drop_eq_getElem_cons hlt
    rw [hdr] at har
    simp only [hdec, if_true, ei, rall, bnd_some, fldE_ptr, Nat.zero_add, ldS_at H3.e5, List.getElem?_toArray, List.getElem?_cons_succ, List.getElem?_cons_zero]
    refine weigh_spec fun h4 f4 => ?_
    have H4 := H3.fr' f4 (by simp)
    have L4 := L3.fr' f4 (by simp)
    have N4 := N3.fr f4 (by simp)
    have rv4 := rv3.fr f4 (by simp)
    have rd4 := (rd h4 f4).1 1 (by omega)
    simp only [Arc.enc, List.getElem?_cons_succ, List.getElem?_cons_zero] at rd4
    have f4s := f4.size
    simp only [bin_lss, bnd_some, condT_bool]
    by_cases hneg : wt w.hops l[j] < 0
    · have he : (arcsL w.hops st at_.sum l nr).1 = 90 := by rw [← har]; simp only [arcsL, if_pos hneg]
      simp only [hneg, decide_true, if_true, H4.st2, bnd_some]
      obtain ⟨H', f'⟩ := H4.put7 sv av 90 false
      refine H'.ret (L4.fr' f' fun b hb => by simp at hb; subst hb; exact L4.low (by omega)) fun h' L' f' => ?_
      have := bad (by rw [he]; decide) h' L' f'
      rwa [he] at this
    · have w2 : IntKind.i64.wrap (1099511627776 - at_.sum) = 1099511627776 - at_.sum := i64_id (by omega) (by omega)
      simp only [hneg, decide_false, Bool.false_eq_true, if_false, ldS_at H4.e9, List.getElem?_toArray, List.getElem?_cons_succ, List.getElem?_cons_zero, bnd_some, bin_sub, w2, bin_gtr, condT_bool]
      by_cases hfar : 1099511627776 - at_.sum < wt w.hops l[j]
      · have he : (arcsL w.hops st at_.sum l nr).1 = 91 := by rw [← har]; simp only [arcsL, if_neg hneg, if_pos hfar]
        have hfar' : decide (wt w.hops l[j] > 1099511627776 - at_.sum) = true := decide_eq_true hfar
        simp only [hfar', if_true, H4.st2, bnd_some]
        obtain ⟨H', f'⟩ := H4.put7 sv av 91 false
        refine H'.ret (L4.fr' f' fun b hb => by simp at hb; subst hb; exact L4.low (by omega)) fun h' L' f' => ?_
        have := bad (by rw [he]; decide) h' L' f'
        rwa [he] at this
      · have hfar' : decide (wt w.hops l[j] > 1099511627776 - at_.sum) = false := decide_eq_false hfar
        have w3 : IntKind.i64.wrap (at_.sum + wt w.hops l[j]) = at_.sum + wt w.hops l[j] := i64_id (by omega) (by omega)
        simp only [arcsL, if_neg hneg, if_neg hfar] at har
        simp only [hfar', Bool.false_eq_true, if_false, ldS_at H4.e7, ei, rd4, fldE_ptr, Nat.zero_add, List.getElem?_toArray, List.getElem?_cons_zero, bnd_some]
        refine settled_spec L4.os.rowv l[j].to (by omega) ?_
        simp only [unE_not, bnd_some, condT_bool]
        by_cases hs : ∃ s ∈ st, s.id = l[j].to
        · have hd : decide (∃ s ∈ st, s.id = l[j].to) = true := decide_eq_true hs
          rw [if_pos hs] at har
          simp only [hd, Bool.not_true, Bool.false_eq_true, if_false]
          unfold f52.J2
          simp only [bin_add, bnd_some, w1]
          exact ⟨⟨j + 1, t8_1, nr3, bn3, rfl, by omega, H4, L4, N4, hbn3, fun b hb => ⟨by have := (hB3 b hb).1; omega, (hB3 b hb).2⟩, rv4, har, hnd3, by omega, hns3⟩, by simp only [muF, Int.toNat_natCast]; omega⟩
        · have hd : decide (∃ s ∈ st, s.id = l[j].to) = false := decide_eq_false hs
          rw [if_neg hs] at har
          simp only [hd, Bool.not_false, if_true, ei, rd4, fldE_ptr, bnd_some, ldS_at H4.e9, List.getElem?_toArray, List.getElem?_cons_succ, List.getElem?_cons_zero, Nat.zero_add, bin_add, w3]
          refine sight_spec N4 l[j].to (at_.sum + wt w.hops l[j]) (by omega) fun h5 v5 bl5 N5 f5 n5 => ?_
          have f5s := f5.size
          have lt4 := H4.lt
          have hlL := L4.os.lt
          have hlA := L4.oa.lt
          unfold f52.J2
          simp only [bin_add, bnd_some, w1]
          refine ⟨⟨j + 1, v5, _, bl5, rfl, by omega, H4.fr' f5 fun b hb => (hbn3 b hb).1, L4.fr' f5 fun b hb => (hbn3 b hb).2, N5, fun b hb => ?_, fun b hb => ⟨by have := (hB3 b hb).1; omega, fun hb' => ?_⟩, rv4.fr f5 fun b hb => (hB3 b hb).2, har, sight_nodup hnd3 _ _, by have := sight_len nr3 l[j].to (at_.sum + wt w.hops l[j]); omega, fun s hs' => ?_⟩, by simp only [muF, Int.toNat_natCast]; omega⟩
          · rcases n5 b hb with h | h
            · exact hbn3 b h
            · exact ⟨by omega, fun hb => by have := hlL b hb; omega, fun hb => by have := hlA b hb; omega⟩
          · rcases n5 b hb' with h | h
            · exact (hB3 b hb).2 h
            · have := (hB3 b hb).1; omega
          · rcases sight_mem hs' with h | rfl
            · exact hns3 s h
            · simp only; omega
  · have hdec : decide ((j : Int) < ((l.map Arc.enc).length : Int)) = false := by simp; omega
    obtain rfl : j = l.length := by omega
    simp only [hdec, Bool.false_eq_true, if_false]
    have har' : arcsL w.hops st at_.sum l nr = (0, nr3) := by rw [← har]; simp [arcsL]
    exact good (by rw [har']) h3 t8_1 nr3 bn3 (by rw [har']) H3 L3 N3 hbn3 hnd3 (by omega) hns3
end
end Go.Proofs.YtkiakofohkecaaaDoor
