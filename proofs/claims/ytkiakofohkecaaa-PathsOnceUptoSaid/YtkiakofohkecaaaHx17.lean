/- PathsOnce: the order that is read off a list of answers, and one step of each kind. No condition but that the state is as told. -/
import Derived.Test.YtkiakofohkecaaaHx16
namespace Go.Proofs.Ytkiakofohkecaaa
open Go Go.Fw

def and7 (a : Int) : Int := IntKind.i64.wrap ((BitVec.ofInt IntKind.i64.bits a &&& BitVec.ofInt IntKind.i64.bits 7).toNat : Nat)
theorem and7_le (a : Int) : 0 ≤ and7 a ∧ and7 a ≤ 7 := by
  have h : (BitVec.ofInt IntKind.i64.bits a &&& BitVec.ofInt IntKind.i64.bits 7).toNat ≤ 7 := by
    rw [BitVec.toNat_and]
    exact Nat.le_trans Nat.and_le_right (by decide)
  unfold and7
  rw [wrap_id (by omega) (by omega)]
  omega
def ltOf (as' : List Bool) (a b : Item) : Bool := as'.getD ((and7 a.key * 8 + and7 b.key).tmod as'.length).toNat false

theorem lessOk14 {h0 : Hp} {v : Value} {bs : List Bool} (r : RowV h0 1 v (bs.map fun b => [.bool b])) (hn : bs.length ≤ 1099511627776) (hone : v.oneCell' = true) :
    ∃ L, LessOk L (.func (.func 14) #[] #[.pointer (some ⟨h0.size, 0, none⟩)]) (ltOf bs) ∧ Has (h0.push (.cells #[v] 39 (0, 0))) L ∧ ∀ y ∈ L, y.1 < h0.size + 1 := by
  have e : okF Try.prog 14 = true := by kernel_rfl
  obtain ⟨a, cap, rfl, hx⟩ := r
  have el : (bs.map fun b => [Value.bool b]).length = bs.length := by simp
  rw [el] at *
  by_cases hb : bs = []
  · subst hb
    refine ⟨[(h0.size, .cells #[.slice a 0 cap] 39 (0, 0))], ⟨rfl, rfl, fun h x y K hL hK => ?_⟩, ?_, by simp⟩
    · have g := hL (h0.size, .cells #[.slice a 0 cap] 39 (0, 0)) (by simp)
      obtain ⟨f, e1, e2⟩ := two_boxes h #[.int .i64 x.key, .int .i64 x.tag] #[.int .i64 y.key, .int .i64 y.tag]
      have g2 := f.get g (by simp)
      simp only [callV, e]
      refine f14.ok (t0 := .agg #[.int .i64 x.key, .int .i64 x.tag]) (t1 := .agg #[.int .i64 y.key, .int .i64 y.tag]) (t2 := .pointer (some ⟨h0.size, 0, none⟩)) ?_
      unfold f14.T
      have := hK _ f
      simpa [ldS_at g2, ltOf] using this
    · intro y hy
      simp only [List.mem_singleton] at hy
      subst hy
      simp
  · obtain ⟨b, o, rfl, c, E, fz, hblk, _, _, hc⟩ := hx (by simpa using hb)
    have hlt := lt_of_get hblk
    refine ⟨[(h0.size, .cells #[.slice (some ⟨b, o, none⟩) bs.length cap] 39 (0, 0)), (b, .cells c E fz)], ⟨rfl, rfl, fun h x y K hL hK => ?_⟩, ?_, by simp; omega⟩
    · have g := hL (h0.size, .cells #[.slice (some ⟨b, o, none⟩) bs.length cap] 39 (0, 0)) (by simp)
      have gb := hL (b, .cells c E fz) (by simp)
      obtain ⟨f, e1, e2⟩ := two_boxes h #[.int .i64 x.key, .int .i64 x.tag] #[.int .i64 y.key, .int .i64 y.tag]
      have g2 := f.get g (by simp)
      have gb2 := f.get gb (by simp)
      have hlen : 0 < bs.length := List.length_pos_iff.2 hb
      have h1 := and7_le x.key
      have h2 := and7_le y.key
      have w1 : IntKind.i64.wrap (and7 x.key * 8) = and7 x.key * 8 := wrap_id (by omega) (by omega)
      have w2 : IntKind.i64.wrap (and7 x.key * 8 + and7 y.key) = and7 x.key * 8 + and7 y.key := wrap_id (by omega) (by omega)
      have t0 : 0 ≤ (and7 x.key * 8 + and7 y.key).tmod bs.length := Int.tmod_nonneg _ (by omega)
      have t1 : (and7 x.key * 8 + and7 y.key).tmod bs.length < bs.length := Int.tmod_lt_of_pos _ (by omega)
      have hj : ((and7 x.key * 8 + and7 y.key).tmod bs.length).toNat < bs.length := by omega
      have hcell : c[o + ((and7 x.key * 8 + and7 y.key).tmod bs.length).toNat]? = some (.bool (ltOf bs x y)) := by
        have := hc ((and7 x.key * 8 + and7 y.key).tmod bs.length).toNat 0 [.bool (ltOf bs x y)] (by simp [ltOf, hj]) (by omega)
        simpa using this
      simp only [callV, e]
      refine f14.ok (t0 := .agg #[.int .i64 x.key, .int .i64 x.tag]) (t1 := .agg #[.int .i64 y.key, .int .i64 y.tag]) (t2 := .pointer (some ⟨h0.size, 0, none⟩)) ?_
      unfold f14.T
      have hz : ¬ ((bs.length : Int) = 0) := by omega
      have := hK _ f
      have a1 : ∀ z, binE .and (.int .i64 z) (.int .i64 7) = some (.int .i64 (and7 z)) := fun z => bin_and .i64 z 7
      simp [ldS_at g2, ldS_at e1, ldS_at e2, ldS_at gb2, hb, a1, w1, w2, t0, t1, hcell]
      exact this
    · intro y hy
      simp only [List.mem_cons, List.not_mem_nil, or_false] at hy
      rcases hy with rfl | rfl
      · simp
      · exact get_push hblk

theorem elem41 : ElemOk Try.prog 41 3 1 8 := .of (z := .int .i64 0) (by kernel_rfl) (by kernel_rfl) (by kernel_rfl)
def tg (t : Int) : List Value := [.int .i64 t]

/-- What has gone in and has not come out. -/
def Bag (h : Hp) (p : Nat) (less : Value) (t7 : Value) (ss : List Step) (i n : Nat) (h' : Hp) : Prop :=
  ∃ (its : List Item) (ck : Int) (bl : List Nat) (tags : List Int) (ol : List Nat), (p ∉ ol ∧ ∀ b ∈ bl, b ∉ ol) ∧ HeapE h' p less its ck bl ∧ OwnS h' 3 1 t7 (tags.map tg) ol ∧ (its.map (·.tag)).Perm tags ∧ (∀ x ∈ its, ∃ j : Nat, j < i ∧ x.tag = j ∧ (ss[j]?).map (·.key) = some x.key) ∧
    0 ≤ ck ∧ ck ≤ i ∧ tags.length = n ∧ n ≤ i ∧ Fr h h' [] ∧ h.size ≤ p ∧ (∀ b ∈ bl, h.size ≤ b) ∧ (∀ b ∈ ol, h.size ≤ b)

/-- The place k of the tag t in the list; nought below: it was not found before n. -/
def Found (tags : List Int) (t : Int) (n : Nat) (k : Int) : Prop := (k = -1 ∧ t ∉ tags.take n) ∨ ∃ m : Nat, k = m ∧ m < n ∧ tags[m]? = some t

theorem Found.next {tags : List Int} {t : Int} {n : Nat} {k : Int} (f : Found tags t n k) {u : Int} (hu : tags[n]? = some u) : (u = t → Found tags t (n + 1) n) ∧ (u ≠ t → Found tags t (n + 1) k) := by
  refine ⟨fun e => .inr ⟨n, rfl, by omega, by rw [hu, e]⟩, fun e => ?_⟩
  rcases f with ⟨rfl, h⟩ | ⟨m, rfl, hm, ht⟩
  · refine .inl ⟨rfl, ?_⟩
    rw [List.take_add_one, hu]
    simp only [Option.toList_some, List.mem_append, List.mem_singleton, not_or]
    exact ⟨h, fun e' => e e'.symm⟩
  · exact .inr ⟨m, rfl, by omega, ht⟩
end Go.Proofs.Ytkiakofohkecaaa
