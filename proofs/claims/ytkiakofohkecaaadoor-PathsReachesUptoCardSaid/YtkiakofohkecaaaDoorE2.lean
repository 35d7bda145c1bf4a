/- The heap as it lies in memory; swap and ahead. No condition but that the heap struct is as told. -/
import Derived.Test.YtkiakofohkecaaaDoorE1
namespace Go.Proofs.YtkiakofohkecaaaDoor
open Go Go.Fw

structure Item where
  key : Int
  tag : Int
  when : Int
def Item.enc (x : Item) : List Value := [.int .i64 x.key, .int .i64 x.tag, .int .i64 x.when]
theorem Item.enc_len (x : Item) : x.enc.length = 3 := rfl

/-- The heap's struct at p: its items lie in block b. -/
structure HeapAt (h : Hp) (p : Nat) (less : Value) (its : List Item) (ck : Int) (b cap : Nat) : Prop where
  top : h[p]? = some (.cells #[less, .slice (some ⟨b, 0, none⟩) its.length cap, .int .i64 ck] 152 (0, 0))
  row : RowAt h 154 3 b cap (its.map Item.enc)
  ne : p ≠ b

def swp {α : Type} (l : List α) (i j : Nat) : List α :=
  match l[i]?, l[j]? with
  | some a, some b => (l.set i b).set j a
  | _, _ => l

theorem swap_spec {h : Hp} {p b cap : Nat} {less : Value} {its : List Item} {ck : Int} (H : HeapAt h p less its ck b cap) {i j : Nat} (hi : i < its.length) (hj : j < its.length) :
    CallsH Tryd.prog 82 #[.pointer (some ⟨p, 0, none⟩), .int .i64 i, .int .i64 j] h fun _ h' => HeapAt h' p less (swp its i j) ck b cap ∧ Fr h h' [b] ∧ h'.size = h.size := by
  have ei : (its.map Item.enc)[i]? = some its[i].enc := by simp [hi]
  have ej : (its.map Item.enc)[j]? = some its[j].enc := by simp [hj]
  obtain ⟨h1, s1, r1, f1, z1⟩ := H.row.set (i := i) (vs := its[j].enc) (by simpa using hi) rfl (by simp [Item.enc])
  obtain ⟨h2, s2, r2, f2, z2⟩ := r1.set (i := j) (vs := its[i].enc) (by simpa using hj) rfl (by simp [Item.enc])
  refine f82.ok ?_
  have top1 := f1.get H.top (by simp [H.ne])
  have top2 := f2.get top1 (by simp [H.ne])
  have li := H.row.all ei
  have lj := H.row.all ej
  unfold f82.T
  have hsw : swp its i j = (its.set i its[j]).set j its[i] := by simp [swp, hi, hj]
  simp [ldS_at H.top, hi, hj, li, lj, s1, s2]
  refine ⟨⟨?_, ?_, H.ne⟩, f1.then f2, by omega⟩
  · rw [top2, hsw]; simp
  · rw [hsw]; simpa [List.map_set] using r2

/-- These blocks hold these things. -/
def Has (h : Hp) (L : List (Nat × Obj)) : Prop := ∀ x ∈ L, h[x.1]? = some x.2
theorem Has.fr {h h' : Hp} {L : List (Nat × Obj)} {S : List Nat} (H : Has h L) (f : Fr h h' S) (d : ∀ x ∈ L, x.1 ∉ S) : Has h' L := fun x hx => f.get (H x hx) (d x hx)

/-- The function value tells lt, where the blocks L are there. -/
structure LessOk (L : List (Nat × Obj)) (less : Value) (lt : Item → Item → Bool) : Prop where
  one : less.oneCell' = true
  nil : nilE less = some less
  call : ∀ (h : Hp) (a b : Item) (K : Value → Hp → Prop), Has h L → (∀ h', Fr h h' [] → K (.bool (lt a b)) h') → callV Tryd.prog less #[.agg #[.int .i64 a.key, .int .i64 a.tag], .agg #[.int .i64 b.key, .int .i64 b.tag]] h K

def aheadB (lt : Item → Item → Bool) (a b : Item) : Bool := lt a b || (decide (a.when < b.when) && !lt b a)

theorem ahead_J1 {h : Hp} {p n7 n8 : Nat} {less : Value} {L : List (Nat × Obj)} {lt : Item → Item → Bool} (ok : LessOk L less lt) (hL : Has h L) {c1 c2 : Value} (top : h[p]? = some (.cells #[less, c1, c2] 152 (0, 0))) {x y : Item}
    (h7 : h[n7]? = some (.cells #[.int .i64 x.key, .int .i64 x.tag, .int .i64 x.when] 154 (0, 0))) (h8 : h[n8]? = some (.cells #[.int .i64 y.key, .int .i64 y.tag, .int .i64 y.when] 154 (0, 0))) {R : Value → Hp → Prop}
    (hR : ∀ h', Fr h h' [] → R (.bool (aheadB lt x y)) h') : f81.J1 (.pointer (some ⟨p, 0, none⟩)) h (.pointer (some ⟨n7, 0, none⟩)) (.pointer (some ⟨n8, 0, none⟩)) R := by
  unfold f81.J1
  simp [ldS_at top, ldA_at h7, ldA_at h8]
  refine ok.call h x y _ hL fun h1 f1 => ?_
  have top1 := f1.get top (by simp)
  have h71 := f1.get h7 (by simp)
  have h81 := f1.get h8 (by simp)
  have hL1 := hL.fr f1 (by simp)
  cases hxy : lt x y
  · simp [ldS_at h71, ldS_at h81]
    by_cases hw : x.when < y.when
    · simp [hw, ldS_at top1, ldA_at h71, ldA_at h81]
      refine ok.call h1 y x _ hL1 fun h2 f2 => ?_
      have := hR h2 (f1.then f2)
      simpa [aheadB, hxy, hw] using this
    · have := hR h1 f1
      simpa [aheadB, hxy, hw] using this
  · have := hR h1 f1
    simpa [aheadB, hxy] using this

theorem boxes {h h2 : Hp} (f : Fr h h2 []) {n7 n8 : Nat} {c1 c2 : Array Value} (e7 : h2[n7]? = some (.cells c1 154 (0, 0))) (e8 : h2[n8]? = some (.cells c2 154 (0, 0))) (z1 : c1.size = 3) (z2 : c2.size = 3) (hne : n7 ≠ n8) (h7 : h.size ≤ n7) (h8 : h.size ≤ n8) (x y : Item) :
    ∃ h3 h4, stE 3 h2 (.pointer (some ⟨n7, 0, none⟩)) (.agg x.enc.toArray) = some h3 ∧ stE 3 h3 (.pointer (some ⟨n8, 0, none⟩)) (.agg y.enc.toArray) = some h4 ∧ Fr h h3 [] ∧ Fr h h4 [] ∧
      h4[n7]? = some (.cells #[.int .i64 x.key, .int .i64 x.tag, .int .i64 x.when] 154 (0, 0)) ∧ h4[n8]? = some (.cells #[.int .i64 y.key, .int .i64 y.tag, .int .i64 y.when] 154 (0, 0)) := by
  have sp : ∀ (c : Array Value) (x : Item), c.size = 3 → splice c 0 x.enc = #[.int .i64 x.key, .int .i64 x.tag, .int .i64 x.when] := fun c x hc => by
    simp only [splice, Item.enc, List.take_zero, List.nil_append, List.length_cons, List.length_nil]
    rw [List.drop_eq_nil_of_le (by simp; omega)]
    rfl
  have e8' := get_set_ne (o' := .cells (splice c1 0 x.enc) 154 (0, 0)) e8 hne
  refine ⟨_, _, ?_, ?_, f.set_new h7 (.cells (splice c1 0 x.enc) 154 (0, 0)), (f.set_new h7 (.cells (splice c1 0 x.enc) 154 (0, 0))).set_new h8 (.cells (splice c2 0 y.enc) 154 (0, 0)), ?_, ?_⟩
  · rw [stE_at _ e7, if_pos (by simp [Item.enc, z1])]; rfl
  · rw [stE_at _ e8', if_pos (by simp [Item.enc, z2])]; rfl
  · rw [get_set_ne (get_set e7) hne.symm, sp c1 x z1]
  · rw [get_set e8', sp c2 y z2]

theorem ahead_spec {h : Hp} {p b cap : Nat} {less : Value} {its : List Item} {ck : Int} (H : HeapAt h p less its ck b cap) {L : List (Nat × Obj)} {lt : Item → Item → Bool} (ok : LessOk L less lt) (hL : Has h L) {i j : Nat} (hi : i < its.length) (hj : j < its.length) :
    CallsH Tryd.prog 81 #[.pointer (some ⟨p, 0, none⟩), .int .i64 i, .int .i64 j] h fun v h' => v = .bool (aheadB lt its[i] its[j]) ∧ Fr h h' [] := by
  have all : ∀ {h'}, Fr h h' [] → ∀ {i} (hi : i < its.length), ldA 3 h' (.pointer (some ⟨b, i * 3, none⟩)) = some (.agg its[i].enc.toArray) := fun f i hi => (H.row.fr f (by simp)).all (by simp [hi])
  have li := all (Fr.refl h []) hi
  have lj := all (Fr.refl h []) hj
  have f2 : Fr h ((h.push (.cells #[.int .i64 0, .int .i64 0, .int .i64 0] 154 (0, 0))).push (.cells #[.int .i64 0, .int .i64 0, .int .i64 0] 154 (0, 0))) [] := (Fr.push h _ []).new _
  have e7 := get_push (o' := .cells #[.int .i64 0, .int .i64 0, .int .i64 0] 154 (0, 0)) (get_new h (.cells #[.int .i64 0, .int .i64 0, .int .i64 0] 154 (0, 0)))
  have e8 := get_new (h.push (.cells #[.int .i64 0, .int .i64 0, .int .i64 0] 154 (0, 0))) (.cells #[.int .i64 0, .int .i64 0, .int .i64 0] 154 (0, 0))
  rw [Array.size_push] at e8
  obtain ⟨h3, h4, s3, s4, f3, f4, g7, g8⟩ := boxes f2 e7 e8 rfl rfl (by omega) (Nat.le_refl _) (by omega) its[i] its[j]
  obtain ⟨k3, k4, t3, t4, q3, q4, r8, r7⟩ := boxes f2 e8 e7 rfl rfl (by omega) (by omega) (Nat.le_refl _) its[i] its[j]
  have fin : ∀ {h4 : Hp}, Fr h h4 [] → ∀ h', Fr h4 h' [] → (Value.bool (aheadB lt its[i] its[j]) = .bool (aheadB lt its[i] its[j]) ∧ Fr h h' []) := fun f h' f' => ⟨rfl, f.then f'⟩
  have j1 := ahead_J1 (R := fun v h' => v = .bool (aheadB lt its[i] its[j]) ∧ Fr h h' []) ok (hL.fr f4 (by simp)) (f4.get H.top (by simp)) g7 g8 (fin f4)
  have j2 := ahead_J1 (R := fun v h' => v = .bool (aheadB lt its[i] its[j]) ∧ Fr h h' []) ok (hL.fr q4 (by simp)) (q4.get H.top (by simp)) r8 r7 (fin q4)
  have l3 := all f3 hj
  have l3' := all q3 hj
  refine f81.ok ?_
  unfold f81.T
  simp [ldS_at H.top, ldS_at (f3.get H.top (by simp)), ldS_at (q3.get H.top (by simp)), hi, hj, li, lj, s3, s4, t3, t4, l3, l3', j1, j2]
end Go.Proofs.YtkiakofohkecaaaDoor
