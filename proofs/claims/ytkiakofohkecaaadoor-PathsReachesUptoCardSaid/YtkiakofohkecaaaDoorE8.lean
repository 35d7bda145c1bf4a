/- The heap of offers: its order, a new heap, its frame; lists of ids compared. No condition but that the memory is as told. -/
import Derived.Test.YtkiakofohkecaaaDoorE7
namespace Go.Proofs.YtkiakofohkecaaaDoor
open Go Go.Fw

theorem HeapE.fr {h h' : Hp} {p : Nat} {less : Value} {its : List Item} {ck : Int} {bl S : List Nat} (H : HeapE h p less its ck bl) (f : Fr h h' S) (hp : p ∉ S) (hb : ∀ b ∈ bl, b ∉ S) : HeapE h' p less its ck bl := by
  rcases H with ⟨rfl, rfl, top⟩ | ⟨b, cap, rfl, H⟩
  · exact .inl ⟨rfl, rfl, f.get top hp⟩
  · exact .inr ⟨b, cap, rfl, f.get H.top hp, H.row.fr f (hb b (by simp)), H.ne⟩
theorem HeapE.lt {h : Hp} {p : Nat} {less : Value} {its : List Item} {ck : Int} {bl : List Nat} (H : HeapE h p less its ck bl) : p < h.size ∧ ∀ b ∈ bl, b < h.size ∧ b ≠ p := by
  rcases H with ⟨rfl, rfl, top⟩ | ⟨b, cap, rfl, H⟩
  · exact ⟨lt_of_get top, by simp⟩
  · refine ⟨lt_of_get H.top, fun c hc => ?_⟩
    obtain rfl : c = b := by simpa using hc
    exact ⟨H.row.lt, H.ne.symm⟩

/-- By the sum, then by the id. -/
def ltOffer (a b : Item) : Bool := decide (a.key < b.key) || (decide (a.key = b.key) && decide (a.tag < b.tag))
theorem ord_offer : Ord (aheadB ltOffer) := ⟨fun a b c h1 h2 => by simp [aheadB, ltOffer] at *; omega, fun a b h => by simp [aheadB, ltOffer] at *; omega⟩

theorem two_boxes (h : Hp) (c d : Array Value) : let h2 := (h.push (.cells c 134 (0, 0))).push (.cells d 134 (0, 0)); Fr h h2 [] ∧ h2[h.size]? = some (.cells c 134 (0, 0)) ∧ h2[h.size + 1]? = some (.cells d 134 (0, 0)) := by
  refine ⟨(Fr.push h _ []).new _, get_push (get_new h _), ?_⟩
  have := get_new (h.push (.cells c 134 (0, 0))) (.cells d 134 (0, 0))
  rwa [Array.size_push] at this

set_option maxRecDepth 100000 in
theorem lessOk68 : LessOk [] (.func (.func 68) #[] #[]) ltOffer := ⟨rfl, rfl, fun h a b K _ hK => by
  obtain ⟨f, e1, e2⟩ := two_boxes h #[.int .i64 a.key, .int .i64 a.tag] #[.int .i64 b.key, .int .i64 b.tag]
  have e : okF Tryd.prog 68 = true := by kernel_rfl
  have fin := hK _ f
  simp only [callV, e]
  refine f68.ok (t0 := .agg #[.int .i64 a.key, .int .i64 a.tag]) (t1 := .agg #[.int .i64 b.key, .int .i64 b.tag]) ?_
  unfold f68.T
  simp only [nw_eq, cells_agg, ptr0_eq, Array.size_push]
  generalize (h.push (.cells #[.int .i64 a.key, .int .i64 a.tag] 134 (0, 0))).push (.cells #[.int .i64 b.key, .int .i64 b.tag] 134 (0, 0)) = hh at *
  by_cases h1 : a.key < b.key
  · simpa [ldS_at e1, ldS_at e2, h1, isB_undef, ltOffer] using fin
  · by_cases h2 : a.key = b.key
    · simpa [ldS_at e1, ldS_at e2, h1, h2, isB_undef, ltOffer] using fin
    · simpa [ldS_at e1, ldS_at e2, h1, h2, isB_undef, ltOffer] using fin⟩

theorem fill_heap (f : Value) (hf : f.cells = #[f]) : (fillS [(0, 1), (1, 1), (2, 1)] #[.nilFunc, (.slice none 0 0), (.int .i64 0)] [(0, f)]).map Value.agg = some (.agg #[f, .slice none 0 0, .int .i64 0]) := by
  simp [fillS, Instr.fill, hf]
theorem new_spec {h : Hp} {g : FuncId} {fi ca : Array Value} {R : Value → Hp → Prop} (hR : HeapE (h.push (.cells #[.func (.func g) fi ca, .slice none 0 0, .int .i64 0] 152 (0, 0))) h.size (.func (.func g) fi ca) [] 0 [] → R (.pointer (some ⟨h.size, 0, none⟩)) (h.push (.cells #[.func (.func g) fi ca, .slice none 0 0, .int .i64 0] 152 (0, 0)))) :
    CallsH Tryd.prog 67 #[.func (.func g) fi ca] h R := by
  refine f67.ok ?_
  unfold f67.T
  simp only [nil_f_some, bnd_some, condT_bool, Bool.false_eq_true, if_false, fill_heap (.func (.func g) fi ca) rfl, nw_eq, cells_agg, ptr0_eq]
  exact hR (.inl ⟨rfl, rfl, get_new h _⟩)

/-- How many turns are left. -/
def muI (n : Nat) (l : List Value) (_ : Hp) : Nat := match l with | .int _ m :: _ => n - m.toNat | _ => 0
theorem muI_lt {n i : Nat} (h h' : Hp) (hi : i < n) : muI n [.int .i64 ((i + 1 : Nat) : Int)] h' < muI n [.int .i64 (i : Int)] h := by simp only [muI, Int.toNat_natCast]; omega

def ints (l : List Int) : List (List Value) := l.map fun k => [.int .i64 k]
theorem ints_read {h : Hp} {v : Value} {ks : List Int} (r : RowV h 1 v (ints ks)) {j : Nat} {k : Int} (hj : ks[j]? = some k) :
    ∃ b o, idxE 1 v (.int .i64 j) = some (.pointer (some ⟨b, o, none⟩)) ∧ ldS h (.pointer (some ⟨b, o, none⟩)) = some (.int .i64 k) := by
  obtain ⟨b, o, e, _, hr⟩ := r.get (i := j) (x := [.int .i64 k]) (by simp [ints, hj]) .i64
  exact ⟨b, o, e, by simpa using (hr h (Fr.refl _ _)).1 0 (by omega)⟩
theorem ints_len {h : Hp} {v : Value} {ks : List Int} (r : RowV h 1 v (ints ks)) : lenE v = some (.int .i64 ks.length) := by obtain ⟨a, cap, rfl, _⟩ := r; simp [ints]

def IInv (a b : List Int) (h : Hp) (l : List Value) (h' : Hp) : Prop := ∃ i : Nat, l = [.int .i64 i] ∧ i ≤ a.length ∧ a.take i = b.take i ∧ h' = h
theorem ids_spec {h : Hp} {v w : Value} {a b : List Int} (ra : RowV h 1 v (ints a)) (rb : RowV h 1 w (ints b)) (hn : a.length ≤ 1099511627776) {R : Value → Hp → Prop} (hR : R (.bool (decide (a = b))) h) : CallsH Tryd.prog 24 #[v, w] h R := by
  refine f24.ok ?_
  unfold f24.T
  simp only [ints_len ra, ints_len rb, bnd_some, bin_neq, condT_bool]
  by_cases hl : a.length = b.length
  · have hl' : decide (¬ ((a.length : Int) = (b.length : Int))) = false := by simp; omega
    simp only [ne_eq, hl', Bool.false_eq_true, if_false]
    unfold f24.L1
    refine ⟨IInv a b h, muI a.length, ⟨0, rfl, by omega, by simp, rfl⟩, ?_⟩
    intro t11 t12 t13 t14 t17 t18 t19 t20 t21 t22 t23 t24 t25 t4 t15 t16 t5 h1
    rintro ⟨i, hi, hle, ht, rfl⟩
    obtain rfl : t5 = .int .i64 i := by simpa using hi
    simp only [ints_len ra, bin_lss, bnd_some, condT_bool]
    by_cases hlt : i < a.length
    · have hdec : decide ((i : Int) < (a.length : Int)) = true := by simp; omega
      have w1 : IntKind.i64.wrap ((i : Int) + 1) = ((i + 1 : Nat) : Int) := by rw [i64_id (by omega) (by omega)]; omega
      obtain ⟨b1, o1, e1, r1⟩ := ints_read ra (j := i) (k := a[i]) (by simp [hlt])
      obtain ⟨b2, o2, e2, r2⟩ := ints_read rb (j := i) (k := b[i]) (by simp [← hl, hlt])
      by_cases hab : a[i] = b[i]
      · have inv : IInv a b h1 [.int .i64 ((i + 1 : Nat) : Int)] h1 := ⟨i + 1, rfl, by omega, by rw [List.take_add_one, List.take_add_one, ht]; simp [hlt, ← hl, hab], rfl⟩
        have mu := muI_lt h1 h1 hlt
        simp only [hdec, if_true, e1, e2, r1, r2, bnd_some, bin_neq, ne_eq, hab, not_true_eq_false, decide_false, condT_bool, Bool.false_eq_true, if_false, bin_add, w1]
        exact ⟨inv, mu⟩
      · have hne : decide (a = b) = false := decide_eq_false fun e => hab (by subst e; rfl)
        rw [hne] at hR
        simpa [hdec, e1, e2, r1, r2, hab, hlt] using hR
    · have hdec : decide ((i : Int) < (a.length : Int)) = false := by simp; omega
      obtain rfl : i = a.length := by omega
      have he : a = b := by rw [List.take_length, hl, List.take_length] at ht; exact ht
      have hd : decide (a = b) = true := decide_eq_true he
      rw [hd] at hR
      simpa [hdec] using hR
  · have hl' : decide (¬ ((a.length : Int) = (b.length : Int))) = true := by simp; omega
    have hne : decide (a = b) = false := decide_eq_false fun e => hl (by rw [e])
    rw [hne] at hR
    simpa [hl'] using hR
end Go.Proofs.YtkiakofohkecaaaDoor
