/- The heap as it lies in memory; swap and ahead. No condition but that the heap struct is as told. -/
import Derived.Test.YtkiakofohkecaaaDoorE1
namespace Go.Proofs.YtkiakofohkecaaaDoor
open Go Go.Fw

structure Item where
  key : Int
  tag : Int
  when : Int
def Item.enc (x : Item) : List Value := [.int .i64 x.key, .int .i64 x.tag, .int .i64 x.when]
theorem Item.enc_len (x : Item) : x.enc.length = 3 := rfl

/-- The heap's struct at p: its items lie in block b. -/
structure HeapAt (h : Hp) (p : Nat) (less : Value) (its : List Item) (ck : Int) (b cap : Nat) : Prop where
  top : h[p]? = some (.cells #[less, .slice (some ⟨b, 0, none⟩) its.length cap, .int .i64 ck] 152 (0, 0))
  row : RowAt h 154 3 b cap (its.map Item.enc)
  ne : p ≠ b

def swp {α : Type} (l : List α) (i j : Nat) : List α :=
  match l[i]?, l[j]? with
  | some a, some b => (l.set i b).set j a
  | _, _ => l

theorem swap_spec {h : Hp} {p b cap : Nat} {less : Value} {its : List Item} {ck : Int} (H : HeapAt h p less its ck b cap) {i j : Nat} (hi : i < its.length) (hj : j < its.length) :
    CallsH Tryd.prog 82 #[.pointer (some ⟨p, 0, none⟩), .int .i64 i, .int .i64 j] h fun _ h' => HeapAt h' p less (swp its i j) ck b cap ∧ Fr h h' [b] ∧ h'.size = h.size := by
  have ei : (its.map Item.enc)[i]? = some its[i].enc := by simp [hi]
  have ej : (its.map Item.enc)[j]? = some its[j].enc := by simp [hj]
  obtain ⟨h1, s1, r1, f1, z1⟩ := H.row.set (i := i) (vs := its[j].enc) (by simpa using hi) rfl (by simp [Item.enc])
  obtain ⟨h2, s2, r2, f2, z2⟩ := r1.set (i := j) (vs := its[i].enc) (by simpa using hj) rfl (by simp [Item.enc])
  refine f82.ok ?_
  have top1 := f1.get H.top (by simp [H.ne])
  have top2 := f2.get top1 (by simp [H.ne])
  have li := H.row.all ei
  have lj := H.row.all ej
  unfold f82.T
  have hsw : swp its i j = (its.set i its[j]).set j its[i] := by simp [swp, hi, hj]
  simp [ldS_at H.top, hi, hj, li, lj, s1, s2]
  refine ⟨⟨?_, ?_, H.ne⟩, f1.then f2, by omega⟩
  · rw [top2, hsw]; simp
  · rw [hsw]; simpa [List.map_set] using r2

/-- These blocks hold these things. -/
def Has (h : Hp) (L : List (Nat × Obj)) : Prop := ∀ x ∈ L, h[x.1]? = some x.2
theorem Has.fr {h h' : Hp} {L : List (Nat × Obj)} {S : List Nat} (H : Has h L) (f : Fr h h' S) (d : ∀ x ∈ L, x.1 ∉ S) : Has h' L := fun x hx => f.get (H x hx) (d x hx)

/-- The function value tells lt, where the blocks L are there. -/
structure LessOk (L : List (Nat × Obj)) (less : Value) (lt : Item → Item → Bool) : Prop where
  one : less.oneCell' = true
  nil : nilE less = some less
  call : ∀ (h : Hp) (a b : Item) (K : Value → Hp → Prop), Has h L → (∀ h', Fr h h' [] → K (.bool (lt a b)) h') → callV Tryd.prog less #[.agg #[.int .i64 a.key, .int .i64 a.tag], .agg #[.int .i64 b.key, .int .i64 b.tag]] h K

def aheadB (lt : Item → Item → Bool) (a b : Item) : Bool := lt a b || (decide (a.when < b.when) && !lt b a)

theorem ahead_J1 {h : Hp} {p n7 n8 : Nat} {less : Value} {L : List (Nat × Obj)} {lt : Item → Item → Bool} (ok : LessOk L less lt) (hL : Has h L) {c1 c2 : Value} (top : h[p]? = some (.cells #[less, c1, c2] 152 (0, 0))) {x y : Item}
    (h7 : h[n7]? = some (.cells #[.int .i64 x.key, .int .i64 x.tag, .int .i64 x.when] 154 (0, 0))) (h8 : h[n8]? = some (.cells #[.int .i64 y.key, .int .i64 y.tag, .int .i64 y.when] 154 (0, 0))) {R : Value → Hp → Prop}
    (hR : ∀ h', Fr h h' [] → R (.bool (aheadB lt x y)) h') : f81.J1 (.pointer (some ⟨p, 0, none⟩)) h (.pointer (some ⟨n7, 0, none⟩)) (.pointer (some ⟨n8, 0, none⟩)) R := by
  unfold f81.J1
  simp [ldS_at top, ldA_at h7, ldA_at h8]
  refine ok.call h x y _ hL fun h1 f1 => ?_
  have top1 := f1.get top (by simp)
  have h71 := f1.get h7 (by simp)
  have h81 := f1.get h8 (by simp)
  have hL1 := hL.fr f1 (by simp)
  cases hxy : lt x y
  · simp [ldS_at h71, ldS_at h81]
    by_cases hw : x.when < y.when
    · simp [hw, ldS_at top1, ldA_at h71, ldA_at h81]
      refine ok.call h1 y x _ hL1 fun h2 f2 => ?_
      have := hR h2 (f1.then f2)
      simpa [aheadB, hxy, hw] using this
    · have := hR h1 f1
      simpa [aheadB, hxy, hw] using this
  · have := hR h1 f1
    simpa [aheadB, hxy] using this

theorem boxes {h h2 : Hp} (f : Fr h h2 []) {n7 n8 : Nat} {c1 c2 : Array Value} (e7 : h2[n7]? = some (.cells c1 154 (0, 0))) (e8 : h2[n8]? = some (.cells c2 154 (0, 0))) (z1 : c1.size = 3) (z2 : c2.size = 3) (hne : n7 ≠ n8) (h7 : h.size ≤ n7) (h8 : h.size ≤ n8) (x y : Item) :
    ∃ h3 h4, stE 3 h2 (.pointer (some ⟨n7, 0, none⟩)) (.agg x.enc.toArray) = some h3 ∧ stE 3 h3 (.pointer (some ⟨n8, 0, none⟩)) (.agg y.enc.toArray) = some h4 ∧ Fr h h3 [] ∧ Fr h h4 [] ∧
      h4[n7]? = some (.cells #[.int .i64 x.key, .int .i64 x.tag, .int .i64 x.when] 154 (0, 0)) ∧ h4[n8]? = some (.cells #[.int .i64 y.key, .int .i64 y.tag, .int .i64 y.when] 154 (0, 0)) := by
  have sp : ∀ (c : Array Value) (x : Item), c.size = 3 → splice c 0 x.enc = #[.int .i64 x.key, .int .i64 x.tag, .int .i64 x.when] := fun c x hc => by
    simp only [splice, Item.enc, List.take_zero, List.nil_append, List.length_cons, List.length_nil]
    rw [List.drop_eq_nil_of_le (by simp; omega)]
    rfl
  have e8' := get_set_ne (o' := .cells (splice c1 0 x.enc) 154 (0, 0)) e8 hne
  refine ⟨_, _, ?_, ?_, f.set_new h7 (.cells (splice c1 0 x.enc) 154 (0, 0)), (f.set_new h7 (.cells (splice c1 0 x.enc) 154 (0, 0))).set_new h8 (.cells (splice c2 0 y.enc) 154 (0, 0)), ?_, ?_⟩
  · rw [stE_at _ e7, if_pos (by simp [Item.enc, z1])]; rfl
  · rw [stE_at _ e8', if_pos (by simp [Item.enc, z2])]; rfl
  · rw [get_set_ne (get_set e7) hne.symm, sp c1 x z1]
  · rw [get_set e8', sp c2 y z2]

theorem ahead_spec {h : Hp} {p b cap : Nat} {less : Value} {its : List Item} {ck : Int} (H : HeapAt h p less its ck b cap) {L : List (Nat × Obj)} {lt : Item → Item → Bool} (ok : LessOk L less lt) (hL : Has h L) {i j : Nat} (hi : i < its.length) (hj : j < its.length) :
    CallsH Tryd.prog 81 #[.pointer (some ⟨p, 0, none⟩), .int .i64 i, .int .i64 j] h fun v h' => v = .bool (aheadB lt its[i] its[j]) ∧ Fr h h' [] := by
  have all : ∀ {h'}, Fr h h' [] → ∀ {i} (hi : i < its.length), ldA 3 h' (.pointer (some ⟨b, i * 3, none⟩)) = some (.agg its[i].enc.toArray) := fun f i hi => (H.row.fr f (by simp)).all (by simp [hi])
  have li := all (Fr.refl h []) hi
  have lj := all (Fr.refl h []) hj
  have f2 : Fr h ((h.push (.cells #[.int .i64 0, .int .i64 0, .int .i64 0] 154 (0, 0))).push (.cells #[.int .i64 0, .int .i64 0, .int .i64 0] 154 (0, 0))) [] := (Fr.push h _ []).new _
  have e7 := get_push (o' := .cells #[.int .i64 0, .int .i64 0, .int .i64 0] 154 (0, 0)) (get_new h (.cells #[.int .i64 0, .int .i64 0, .int .i64 0] 154 (0, 0)))
  have e8 := get_new (h.push (.cells #[.int .i64 0, .int .i64 0, .int .i64 0] 154 (0, 0))) (.cells #[.int .i64 0, .int .i64 0, .int .i64 0] 154 (0, 0))
  rw [Array.size_push] at e8
  obtain ⟨h3, h4, s3, s4, f3, f4, g7, g8⟩ := boxes f2 e7 e8 rfl rfl (by omega) (Nat.le_refl _) (by omega) its[i] its[j]
  obtain ⟨k3, k4, t3, t4, q3, q4, r8, r7⟩ := boxes f2 e8 e7 rfl rfl (by omega) (by omega) (Nat.le_refl _) its[i] its[j]
  have fin : ∀ {h4 : Hp}, Fr h h4 [] → ∀ h', Fr h4 h' [] → (Value.bool (aheadB lt its[i] its[j]) = .bool (aheadB lt its[i] its[j]) ∧ Fr h h' []) := fun f h' f' => ⟨rfl, f.then f'⟩
  have j1 := ahead_J1 (R := fun v h' => v = .bool (aheadB lt its[i] its[j]) ∧ Fr h h' []) ok (hL.fr f4 (by simp)) (f4.get H.top (by simp)) g7 g8 (fin f4)
  have j2 := ahead_J1 (R := fun v h' => v = .bool (aheadB lt its[i] its[j]) ∧ Fr h h' []) ok (hL.fr q4 (by simp)) (q4.get H.top (by simp)) r8 r7 (fin q4)
  have l3 := all f3 hj
  have l3' := all q3 hj
  refine f81.ok ?_
  unfold f81.T
  simp [ldS_at H.top, ldS_at (f3.get H.top (by simp)), ldS_at (q3.get H.top (by simp)), hi, hj, li, lj, s3, s4, t3, t4, l3, l3', j1, j2]
end Go.Proofs.YtkiakofohkecaaaDoor

/- What Push moves up. No condition but that the heap struct is as told. -/
namespace Go.Proofs.YtkiakofohkecaaaDoor
open Go Go.Fw

theorem fill_item (k t w : Int) : fillS [(0, 2), (2, 1)] #[(.int .i64 0), (.int .i64 0), (.int .i64 0)] [(0, .agg #[.int .i64 k, .int .i64 t]), (1, .int .i64 w)] = some #[.int .i64 k, .int .i64 t, .int .i64 w] := by kernel_rfl
theorem fill_one (k t w : Int) : fillR 3 #[(.int .i64 0), (.int .i64 0), (.int .i64 0)] [(0, .agg #[.int .i64 k, .int .i64 t, .int .i64 w])] = some #[.int .i64 k, .int .i64 t, .int .i64 w] := by kernel_rfl

theorem elem150 : ElemOk Tryd.prog 150 154 3 24 := .of (z := .agg #[.int .i64 0, .int .i64 0, .int .i64 0]) (by kernel_rfl) (by kernel_rfl) (by kernel_rfl)

def aheadL (lt : Item → Item → Bool) (l : List Item) (i j : Nat) : Bool := match l[i]?, l[j]? with | some a, some b => aheadB lt a b | _, _ => false

def siftUp (lt : Item → Item → Bool) (l : List Item) (i : Nat) : List Item :=
  if 0 < i ∧ aheadL lt l i ((i - 1) / 2) = true then siftUp lt (swp l i ((i - 1) / 2)) ((i - 1) / 2) else l
termination_by i
decreasing_by omega

theorem swp_len {α : Type} (l : List α) (i j : Nat) : (swp l i j).length = l.length := by unfold swp; split <;> simp

theorem wrap_id {n : Int} (h0 : -9223372036854775808 ≤ n) (h1 : n ≤ 9223372036854775807) : IntKind.i64.wrap n = n := IntWalk.i64_in n ⟨h0, h1⟩

theorem up_L1 {h0 : Hp} {p b cap : Nat} {less : Value} {its0 : List Item} {ck : Int} {L : List (Nat × Obj)} {lt : Item → Item → Bool} (ok : LessOk L less lt) (hL : Has h0 L) (hp : ∀ x ∈ L, x.1 ≠ b) (H : HeapAt h0 p less its0 ck b cap) {i0 : Nat} (hi0 : i0 < its0.length) (hlen : its0.length ≤ 4611686018427387904) {R : Value → Hp → Prop}
    (hR : ∀ h', HeapAt h' p less (siftUp lt its0 i0) ck b cap → Fr h0 h' [b] → R (.tuple #[]) h') : f69.L1 (.int .i64 i0) h0 (.pointer (some ⟨p, 0, none⟩)) R := by
  unfold f69.L1
  refine ⟨fun l h => ∃ (i : Nat) (its : List Item), l = [.int .i64 i] ∧ i < its.length ∧ its.length = its0.length ∧ HeapAt h p less its ck b cap ∧ Fr h0 h [b] ∧ siftUp lt its i = siftUp lt its0 i0,
    fun l _ => match l with | [.int _ n] => n.toNat | _ => 0, ⟨i0, its0, rfl, hi0, rfl, H, Fr.refl _ _, rfl⟩, ?_⟩
  intro t35 t36 t37 t38 t39 t40 t41 t42 t43 t44 t48 t49 t50 t51 t52 t53 t45 t46 t47 t4 h6
  rintro ⟨i, its, hl, hi, hl2, H, f, hs⟩
  obtain rfl : t4 = .int .i64 i := by simpa using hl
  by_cases hpos : 0 < i
  · have w1 : IntKind.i64.wrap ((i : Int) - 1) = ((i - 1 : Nat) : Int) := by rw [wrap_id (by omega) (by omega)]; omega
    have w2 : IntKind.i64.wrap (((i - 1 : Nat) : Int).tdiv 2) = (((i - 1) / 2 : Nat) : Int) := by
      rw [Int.tdiv_eq_ediv_of_nonneg (by omega), wrap_id (by omega) (by omega)]; omega
    have hj : (i - 1) / 2 < its.length := by omega
    have hgt : decide ((i : Int) > 0) = true := by simp; omega
    simp only [bin_gtr, bnd_some, hgt, isB_bool, beq_self_eq_true, cond_true, bin_sub, w1, bin_quo, asB_bool, Option.map_some, guardT_true]
    simp only [show ¬ (2 : Int) = 0 by omega, if_false, bnd_some, w2]
    refine (ahead_spec H ok (hL.fr f (fun x hx => by simp [hp x hx])) hi hj).mono ?_
    rintro v h7 ⟨rfl, f7⟩
    have H7 : HeapAt h7 p less its ck b cap := ⟨f7.get H.top (by simp), H.row.fr f7 (by simp), H.ne⟩
    have hal : aheadL lt its i ((i - 1) / 2) = aheadB lt its[i] its[(i - 1) / 2] := by simp [aheadL, hi, hj]
    cases ha : aheadB lt its[i] its[(i - 1) / 2]
    · simp
      refine hR h7 ?_ (f.then (f7.mono (by simp)))
      rw [← hs, siftUp, if_neg (by simp [hal, ha])]
      exact H7
    · simp
      refine (swap_spec H7 hi hj).mono ?_
      rintro v h8 ⟨H8, f8, _⟩
      refine ⟨⟨(i - 1) / 2, by omega, swp its i ((i - 1) / 2), by rw [swp_len]; exact hj, by rw [swp_len]; exact hl2, H8, (f.then (f7.mono (by simp))).then f8, ?_⟩, by omega⟩
      rw [← hs, siftUp.eq_1 lt its i, if_pos ⟨hpos, by rw [hal]; exact ha⟩]
  · obtain rfl : i = 0 := by omega
    simp
    refine hR h6 ?_ f
    rw [← hs, siftUp, if_neg (by simp)]
    exact H
end Go.Proofs.YtkiakofohkecaaaDoor

/- Push: the new thing is put behind the others and moved up. No condition but that the heap's struct is as told. -/
namespace Go.Proofs.YtkiakofohkecaaaDoor
open Go Go.Fw

/-- The heap's struct at p; bl: the block of its items, if it has one. -/
def HeapE (h : Hp) (p : Nat) (less : Value) (its : List Item) (ck : Int) (bl : List Nat) : Prop :=
  (its = [] ∧ bl = [] ∧ h[p]? = some (.cells #[less, .slice none 0 0, .int .i64 ck] 152 (0, 0))) ∨ ∃ b cap, bl = [b] ∧ HeapAt h p less its ck b cap

theorem push_fin {h3 : Hp} {p b cap : Nat} {less old : Value} {its : List Item} {x : Item} {ck : Int} {L : List (Nat × Obj)} {lt : Item → Item → Bool} (ok : LessOk L less lt) (hL : Has h3 L) (hp : ∀ y ∈ L, y.1 ≠ b) (hp2 : ∀ y ∈ L, y.1 ≠ p)
    (top : h3[p]? = some (.cells #[less, old, .int .i64 ck] 152 (0, 0))) (row : RowAt h3 154 3 b cap (its.map Item.enc ++ [x.enc])) (ne : p ≠ b) (hlen : its.length < 1099511627776) (hck : 0 ≤ ck ∧ ck < 1099511627776) {R : Value → Hp → Prop}
    (hR : ∀ h', HeapAt h' p less (siftUp lt (its ++ [x]) its.length) (ck + 1) b cap → Fr h3 h' [p, b] → R (.tuple #[]) h') :
    bnd (stE 1 h3 (.pointer (some ⟨p, 1, none⟩)) (.slice (some ⟨b, 0, none⟩) (its.length + 1) cap)) fun h_4 => bnd (ldS h_4 (.pointer (some ⟨p, 2, none⟩))) fun t25 => bnd (binE .add t25 (.int .i64 1)) fun t26 =>
      bnd (stE 1 h_4 (.pointer (some ⟨p, 2, none⟩)) t26) fun h_5 => bnd (ldS h_5 (.pointer (some ⟨p, 1, none⟩))) fun t32 => bnd (lenE t32) fun t33 => bnd (binE .sub t33 (.int .i64 1)) fun t34 => f69.L1 t34 h_5 (.pointer (some ⟨p, 0, none⟩)) R := by
  have e1 : stE 1 h3 (.pointer (some ⟨p, 1, none⟩)) (.slice (some ⟨b, 0, none⟩) (its.length + 1) cap) = some (h3.setIfInBounds p (.cells #[less, .slice (some ⟨b, 0, none⟩) (its.length + 1) cap, .int .i64 ck] 152 (0, 0))) := by
    rw [stE_at _ top]; simp [splice]
  have top4 := get_set (o' := .cells #[less, .slice (some ⟨b, 0, none⟩) (its.length + 1) cap, .int .i64 ck] 152 (0, 0)) top
  have f4 : Fr h3 _ [p, b] := Fr.set h3 p (.cells #[less, .slice (some ⟨b, 0, none⟩) (its.length + 1) cap, .int .i64 ck] 152 (0, 0)) (fun _ => by simp) (by rw [top]; rfl)
  have f4' : Fr h3 _ [p] := Fr.set h3 p (.cells #[less, .slice (some ⟨b, 0, none⟩) (its.length + 1) cap, .int .i64 ck] 152 (0, 0)) (fun _ => by simp) (by rw [top]; rfl)
  rw [e1]
  simp only [bnd_some]
  generalize h3.setIfInBounds p (.cells #[less, .slice (some ⟨b, 0, none⟩) (its.length + 1) cap, .int .i64 ck] 152 (0, 0)) = h4 at *
  have w1 : IntKind.i64.wrap (ck + 1) = ck + 1 := wrap_id (by omega) (by omega)
  have e2 : stE 1 h4 (.pointer (some ⟨p, 2, none⟩)) (.int .i64 (ck + 1)) = some (h4.setIfInBounds p (.cells #[less, .slice (some ⟨b, 0, none⟩) (its.length + 1) cap, .int .i64 (ck + 1)] 152 (0, 0))) := by
    rw [stE_at _ top4]; simp [splice]
  have top5 := get_set (o' := .cells #[less, .slice (some ⟨b, 0, none⟩) (its.length + 1) cap, .int .i64 (ck + 1)] 152 (0, 0)) top4
  have f5 : Fr h4 _ [p, b] := Fr.set h4 p (.cells #[less, .slice (some ⟨b, 0, none⟩) (its.length + 1) cap, .int .i64 (ck + 1)] 152 (0, 0)) (fun _ => by simp) (by rw [top4]; rfl)
  have f5' : Fr h4 _ [p] := Fr.set h4 p (.cells #[less, .slice (some ⟨b, 0, none⟩) (its.length + 1) cap, .int .i64 (ck + 1)] 152 (0, 0)) (fun _ => by simp) (by rw [top4]; rfl)
  simp only [ldS_at top4, List.getElem?_toArray, bnd_some, bin_add, w1, List.getElem?_cons_succ, List.getElem?_cons_zero, e2]
  generalize h4.setIfInBounds p (.cells #[less, .slice (some ⟨b, 0, none⟩) (its.length + 1) cap, .int .i64 (ck + 1)] 152 (0, 0)) = h5 at *
  have w2 : IntKind.i64.wrap (((its.length + 1 : Nat) : Int) - 1) = ((its.length : Nat) : Int) := by rw [wrap_id (by omega) (by omega)]; omega
  simp only [ldS_at top5, List.getElem?_toArray, bnd_some, List.getElem?_cons_succ, List.getElem?_cons_zero, lenE_sl, bin_sub, w2]
  have H5 : HeapAt h5 p less (its ++ [x]) (ck + 1) b cap := ⟨by simpa using top5, by simpa using (row.fr f4' (by simp [ne.symm])).fr f5' (by simp [ne.symm]), ne⟩
  refine up_L1 ok ((hL.fr f4' (by simpa using hp2)).fr f5' (by simpa using hp2)) hp H5 (by simp) (by simp; omega) fun h' H' f' => hR h' H' ((f4.then f5).then (f'.mono fun c _ hm => by simp at hm ⊢; exact .inr hm))

theorem push_spec {h : Hp} {p : Nat} {less : Value} {its : List Item} {ck : Int} {bl : List Nat} {L : List (Nat × Obj)} {lt : Item → Item → Bool} (ok : LessOk L less lt) (hL : Has h L) (hp : ∀ y ∈ L, y.1 ∉ bl) (hp2 : ∀ y ∈ L, y.1 ≠ p)
    (H : HeapE h p less its ck bl) (hlen : its.length < 1099511627776) (hck : 0 ≤ ck ∧ ck < 1099511627776) (k t : Int) {R : Value → Hp → Prop}
    (hR : ∀ h' b cap, HeapAt h' p less (siftUp lt (its ++ [⟨k, t, ck⟩]) its.length) (ck + 1) b cap → Fr h h' (p :: bl) → (bl = [b] ∨ h.size ≤ b) → R (.tuple #[]) h') :
    CallsH Tryd.prog 69 #[.pointer (some ⟨p, 0, none⟩), .agg #[.int .i64 k, .int .i64 t]] h R := by
  have f2 : Fr h ((h.push (.cells #[.int .i64 k, .int .i64 t] 134 (0, 0))).push (.cells #[.int .i64 k, .int .i64 t, .int .i64 ck] 154 (0, 0))) [] := (Fr.push h _ []).new _
  have e1 : (h.push (.cells #[.int .i64 k, .int .i64 t] 134 (0, 0)))[h.size]? = some (.cells #[.int .i64 k, .int .i64 t] 134 (0, 0)) := get_new h _
  have e2 := get_new (h.push (.cells #[.int .i64 k, .int .i64 t] 134 (0, 0))) (.cells #[.int .i64 k, .int .i64 t, .int .i64 ck] 154 (0, 0))
  rw [Array.size_push] at e2
  have seg : Seg ((h.push (.cells #[.int .i64 k, .int .i64 t] 134 (0, 0))).push (.cells #[.int .i64 k, .int .i64 t, .int .i64 ck] 154 (0, 0))) 3 (h.size + 1) 0 [(⟨k, t, ck⟩ : Item).enc] := by
    refine ⟨_, _, _, e2, by simp, by simp [Item.enc], fun i j x hi hj => ?_⟩
    obtain rfl : i = 0 := by
      have := (List.getElem?_eq_some_iff.1 hi).1
      simpa using this
    obtain rfl : (⟨k, t, ck⟩ : Item).enc = x := by simpa using hi
    simp [Item.enc]
  refine f69.ok ?_
  unfold f69.T
  rcases H with ⟨rfl, rfl, top⟩ | ⟨b, cap, rfl, H⟩
  · have top1 := get_push (o' := .cells #[.int .i64 k, .int .i64 t] 134 (0, 0)) top
    have top2 := get_push (o' := .cells #[.int .i64 k, .int .i64 t, .int .i64 ck] 154 (0, 0)) top1
    have lp := lt_of_get top
    simp [ldS_at top1, ldA_at e1, fill_item, fill_one]
    refine append_nil elem150 seg (by simp [Item.enc]) (by simp) (by simp) (by simp) ?_
    intro h3 b cap r f hb
    have hb' : h.size ≤ b := by
      have := f2.size
      rcases hb with hb | hb
      · simp at hb
      · omega
    simp
    refine push_fin (its := []) (x := ⟨k, t, ck⟩) ok ((hL.fr f2 (by simp)).fr f (by simp)) (fun y hy => ?_) hp2 (f.get top2 (by simp)) (by simpa using r) (by omega) (by simp) hck fun h' H' f' => hR h' b cap H' ?_ (.inr hb')
    · have := lt_of_get (hL y hy); omega
    · exact (f2.then f).trans f' (by simp) (fun c hc hm => by simp at hm ⊢; omega)
  · have top1 := get_push (o' := .cells #[.int .i64 k, .int .i64 t] 134 (0, 0)) H.top
    have top2 := get_push (o' := .cells #[.int .i64 k, .int .i64 t, .int .i64 ck] 154 (0, 0)) top1
    have lp := lt_of_get H.top
    have row2 := H.row.fr f2 (by simp)
    simp [ldS_at top1, ldA_at e1, fill_item, fill_one]
    rw [show its.length = (its.map Item.enc).length by simp]
    refine append_row elem150 row2 seg (by simp [Item.enc]) (by simp; omega) (by simp; omega) ?_
    intro h3 b' cap' r f hb
    have hb' : b' = b ∨ h.size ≤ b' := by
      have := f2.size
      rcases hb with hb | hb
      · exact .inl (by simpa using hb.symm)
      · right; omega
    have lb := H.row.lt
    simp
    refine push_fin (x := ⟨k, t, ck⟩) ok ((hL.fr f2 (by simp)).fr f (by simpa using hp)) (fun y hy => ?_) hp2 (f.get top2 (by simpa using H.ne)) r (by have := H.ne; omega) hlen hck fun h' H' f' => hR h' b' cap' H' ?_ (by simpa [eq_comm] using hb')
    · have := lt_of_get (hL y hy); have := hp y hy; simp at this; omega
    · have g : Fr h h3 [p, b] := f2.trans f (fun c _ hc => by simp at hc) (fun c _ hc => by simp at hc ⊢; exact .inr hc)
      exact g.trans f' (fun _ _ hc => hc) (fun c hc hm => by simp at hm ⊢; omega)
end Go.Proofs.YtkiakofohkecaaaDoor

/- Pop: the first thing is taken out, the last put in its place and moved down. No condition but that the heap's struct is as told. -/
namespace Go.Proofs.YtkiakofohkecaaaDoor
open Go Go.Fw

def best (lt : Item → Item → Bool) (l : List Item) (i j : Nat) : Nat := if j < l.length ∧ aheadL lt l j i = true then j else i
theorem best_lt {lt : Item → Item → Bool} {l : List Item} {i j : Nat} (h : i < l.length) : best lt l i j < l.length := by unfold best; split; omega; exact h
theorem best_or (lt : Item → Item → Bool) (l : List Item) (i j : Nat) : best lt l i j = i ∨ (best lt l i j = j ∧ j < l.length) := by unfold best; split; exact .inr ⟨rfl, by omega⟩; exact .inl rfl
def pick (lt : Item → Item → Bool) (l : List Item) (i : Nat) : Nat := best lt l (best lt l i (2 * i + 1)) (2 * i + 2)
theorem pick_or (lt : Item → Item → Bool) (l : List Item) (i : Nat) : pick lt l i = i ∨ (i < pick lt l i ∧ pick lt l i < l.length) := by
  unfold pick
  rcases best_or lt l (best lt l i (2 * i + 1)) (2 * i + 2) with h | ⟨h, h'⟩
  · rw [h]
    rcases best_or lt l i (2 * i + 1) with h | ⟨h, h'⟩
    · exact .inl h
    · right; omega
  · right; omega
def siftDown (lt : Item → Item → Bool) (l : List Item) (i : Nat) : List Item :=
  if _h : pick lt l i = i then l else siftDown lt (swp l i (pick lt l i)) (pick lt l i)
termination_by l.length - i
decreasing_by
  rcases pick_or lt l i with h' | h'
  · contradiction
  · rw [swp_len]; omega

theorem len_spec {h : Hp} {p : Nat} {less : Value} {its : List Item} {ck : Int} {bl : List Nat} (H : HeapE h p less its ck bl) {R : Value → Hp → Prop} (hR : R (.int .i64 its.length) h) : CallsH Tryd.prog 83 #[.pointer (some ⟨p, 0, none⟩)] h R := by
  refine f83.ok ?_
  unfold f83.T
  rcases H with ⟨rfl, rfl, top⟩ | ⟨b, cap, rfl, H⟩
  · simpa [ldS_at top] using hR
  · simpa [ldS_at H.top] using hR

theorem fill_two (a b : Int) : (fillR 1 #[(.int .i64 0), (.int .i64 0)] [(0, .int .i64 a), (1, .int .i64 b)]).map Value.agg = some (.agg #[.int .i64 a, .int .i64 b]) := by kernel_rfl

theorem down_L1 {h0 : Hp} {p b cap q2 q6 : Nat} {less : Value} {its0 : List Item} {ck : Int} {L : List (Nat × Obj)} {lt : Item → Item → Bool} (ok : LessOk L less lt) (hL : Has h0 L) (hp : ∀ x ∈ L, x.1 ≠ b) (H : HeapAt h0 p less its0 ck b cap) (hlen : its0.length < 1099511627776)
    {x y : Value} {k t : Int} (g2 : h0[q2]? = some (.cells #[x, y] 134 (0, 0))) (g6 : h0[q6]? = some (.cells #[.int .i64 k, .int .i64 t] 134 (0, 0))) (n2 : q2 ≠ b) (n6 : q6 ≠ b) (np : q2 ≠ p) {R : Value → Hp → Prop}
    (hR : ∀ h', HeapAt h' p less (siftDown lt its0 0) ck b cap → Fr h0 h' [b, q2] → R (.tuple #[.agg #[.int .i64 k, .int .i64 t], .bool true]) h') :
    f70.L1 h0 (.int .i64 its0.length) (.pointer (some ⟨p, 0, none⟩)) (.pointer (some ⟨q6, 0, none⟩)) (.pointer (some ⟨q2, 0, none⟩)) R := by
  unfold f70.L1
  refine ⟨fun l h => ∃ (i : Nat) (its : List Item), l = [.int .i64 i] ∧ (i = 0 ∨ i < its.length) ∧ its.length = its0.length ∧ HeapAt h p less its ck b cap ∧ Fr h0 h [b] ∧ siftDown lt its i = siftDown lt its0 0,
    fun l _ => match l with | [.int _ n] => its0.length - n.toNat | _ => 0, ⟨0, its0, rfl, .inl rfl, rfl, H, Fr.refl _ _, rfl⟩, ?_⟩
  intro t47 t48 t49 t50 t51 t52 t53 t54 t56 t57 t10 t58 t59 t60 t61 t62 t63 t64 t65 t66 t67 t8 t68 t55 t69 t70 t71 t72 t3 t73 t74 t75 t76 t77 t7 h10
  rintro ⟨i, its, hl, hi, hl2, H1, f, hs⟩
  obtain rfl : t7 = .int .i64 i := by simpa using hl
  have w1 : IntKind.i64.wrap (2 * (i : Int)) = ((2 * i : Nat) : Int) := by rw [wrap_id (by omega) (by omega)]; omega
  have w2 : IntKind.i64.wrap (((2 * i : Nat) : Int) + 1) = ((2 * i + 1 : Nat) : Int) := by rw [wrap_id (by omega) (by omega)]; omega
  have w3 : IntKind.i64.wrap (((2 * i : Nat) : Int) + 2) = ((2 * i + 2 : Nat) : Int) := by rw [wrap_id (by omega) (by omega)]; omega
  simp only [bin_mul, bnd_some, w1, bin_add, w2, w3, fill_two]
  unfold f70.L2
  refine ⟨fun l h => ∃ (fi k : Nat), l = [.int .i64 fi, .int .i64 k] ∧ HeapAt h p less its ck b cap ∧ Fr h10 h [] ∧ ((k = 0 ∧ fi = i) ∨ (k = 1 ∧ fi = best lt its i (2 * i + 1)) ∨ (k = 2 ∧ fi = pick lt its i)),
    fun l _ => match l with | [_, .int _ n] => 2 - n.toNat | _ => 0, ⟨i, 0, rfl, H1, Fr.refl _ _, .inl ⟨rfl, rfl⟩⟩, ?_⟩
  intro t56 t57 t10 t58 t59 t60 t61 t62 t63 t64 t65 t66 t67 t8 t68 t55 h11
  rintro ⟨fi, kk, hl', H2, f2, hk⟩
  obtain ⟨rfl, rfl⟩ : t8 = .int .i64 fi ∧ t55 = .int .i64 kk := by simpa using hl'
  have hL2 : Has h11 L := (hL.fr f (by simpa using hp)).fr f2 (by simp)
  by_cases h2 : kk = 2
  · -- the end of the inner loop
    obtain rfl : fi = pick lt its i := by omega
    subst h2
    by_cases he : pick lt its i = i
    · have hsd : siftDown lt its i = its := by rw [siftDown, dif_pos he]
      have g6' := f2.get (f.get g6 (by simpa using n6)) (by simp)
      have g2' := f2.get (f.get g2 (by simpa using n2)) (by simp)
      have e1 : stE 2 h11 (.pointer (some ⟨q2, 0, none⟩)) (.agg #[.int .i64 k, .int .i64 t]) = some (h11.setIfInBounds q2 (.cells #[.int .i64 k, .int .i64 t] 134 (0, 0))) := by
        rw [stE_at _ g2']; simp [splice]
      have g2'' := get_set (o' := .cells #[.int .i64 k, .int .i64 t] 134 (0, 0)) g2'
      have f3 : Fr h11 _ [b, q2] := Fr.set h11 q2 (.cells #[.int .i64 k, .int .i64 t] 134 (0, 0)) (fun _ => by simp) (by rw [g2']; rfl)
      have f3' : Fr h11 _ [q2] := Fr.set h11 q2 (.cells #[.int .i64 k, .int .i64 t] 134 (0, 0)) (fun _ => by simp) (by rw [g2']; rfl)
      have lt0 := lt_of_get g2'
      simp [he, ldA_at g6', e1, ldA_at g2'']
      refine hR _ ?_ (((f.mono (fun c _ hm => by simp at hm ⊢; exact .inl hm)).then (f2.mono (by simp))).then f3)
      rw [← hs, hsd]
      exact ⟨f3'.get H2.top (by simpa using np.symm), H2.row.fr f3' (by simpa using n2.symm), H2.ne⟩
    · have hpk : i < pick lt its i ∧ pick lt its i < its.length := (pick_or lt its i).resolve_left he
      have he' : ¬ ((pick lt its i : Nat) : Int) = (i : Int) := by omega
      simp [he']
      refine (swap_spec H2 (i := i) (j := pick lt its i) (by omega) hpk.2).mono ?_
      rintro v h3 ⟨H3, f3, _⟩
      refine ⟨⟨pick lt its i, rfl, _, .inr (by rw [swp_len]; exact hpk.2), by rw [swp_len]; exact hl2, H3, (f.then (f2.mono (by simp))).then f3, ?_⟩, by omega⟩
      rw [← hs, siftDown.eq_1 lt its i, dif_neg he]
  · -- one of the two below
    obtain ⟨j, hj, hb⟩ : ∃ j : Nat, (kk = 0 ∧ j = 2 * i + 1 ∧ fi = i ∨ kk = 1 ∧ j = 2 * i + 2 ∧ fi = best lt its i (2 * i + 1)) ∧ True := by
      rcases hk with ⟨rfl, rfl⟩ | ⟨rfl, rfl⟩ | ⟨rfl, rfl⟩
      · exact ⟨2 * fi + 1, .inl ⟨rfl, rfl, rfl⟩, trivial⟩
      · exact ⟨2 * i + 2, .inr ⟨rfl, rfl, rfl⟩, trivial⟩
      · exact absurd rfl h2
    have hkk : kk = 0 ∨ kk = 1 := by omega
    have hidx : idxV none 2 1 (.agg #[.int .i64 ((2 * i + 1 : Nat) : Int), .int .i64 ((2 * i + 2 : Nat) : Int)]) (.int .i64 (kk : Int)) = some (.int .i64 (j : Int)) := by
      rcases hj with ⟨rfl, rfl, _⟩ | ⟨rfl, rfl, _⟩ <;> simp
    have w4 : IntKind.i64.wrap ((kk : Int) + 1) = ((kk + 1 : Nat) : Int) := by rw [wrap_id (by omega) (by omega)]; omega
    have hlt2 : decide ((kk : Int) < 2) = true := by simp; omega
    have next : ∀ {h12 : Hp} (m : Nat), m = best lt its fi j → HeapAt h12 p less its ck b cap → Fr h11 h12 [] →
        f70.J1 (.int .i64 kk) (fun l h => ∃ (fi k : Nat), l = [.int .i64 fi, .int .i64 k] ∧ HeapAt h p less its ck b cap ∧ Fr h10 h [] ∧ ((k = 0 ∧ fi = i) ∨ (k = 1 ∧ fi = best lt its i (2 * i + 1)) ∨ (k = 2 ∧ fi = pick lt its i))) (.int .i64 m) h12
          (fun l _ => match l with | [_, .int _ n] => 2 - n.toNat | _ => 0) (.int .i64 fi) h11 := fun {h12} m hm H12 f12 => by
      unfold f70.J1
      simp only [bin_add, bnd_some, w4]
      refine ⟨⟨m, kk + 1, rfl, H12, f2.then f12, ?_⟩, by simp; omega⟩
      rcases hj with ⟨rfl, rfl, rfl⟩ | ⟨rfl, rfl, rfl⟩
      · exact .inr (.inl ⟨rfl, hm⟩)
      · exact .inr (.inr ⟨rfl, hm⟩)
    simp only [bin_lss, bnd_some, condT_bool, hlt2, if_true, hidx]
    by_cases hjl : j < its.length
    · have hjl' : decide ((j : Int) < (its0.length : Int)) = true := by simp; omega
      have hfi : fi < its.length := by
        rcases hj with ⟨rfl, rfl, rfl⟩ | ⟨rfl, rfl, rfl⟩
        · omega
        · exact best_lt (by omega)
      simp only [hjl', isB_bool, beq_self_eq_true, guardT_true, cond_true, asB_bool, Option.map_some, bnd_some]
      refine (ahead_spec H2 ok hL2 hjl hfi).mono ?_
      rintro v h12 ⟨rfl, f12⟩
      have H12 : HeapAt h12 p less its ck b cap := ⟨f12.get H2.top (by simp), H2.row.fr f12 (by simp), H2.ne⟩
      have hal : aheadL lt its j fi = aheadB lt its[j] its[fi] := by simp [aheadL, hjl, hfi]
      cases ha : aheadB lt its[j] its[fi]
      · simp only [bnd_some, condT_bool, Bool.false_eq_true, if_false]
        exact next fi (by rw [best, if_neg (by simp [hal, ha])]) H12 f12
      · simp only [bnd_some, condT_bool, if_true]
        exact next j (by rw [best, if_pos ⟨hjl, by rw [hal]; exact ha⟩]) H12 f12
    · have hjl' : decide ((j : Int) < (its0.length : Int)) = false := by simp; omega
      simp only [hjl', isB_bool, guardT_false, cond_false, asB_bool, Option.map_some, bnd_some, condT_bool, Bool.false_eq_true, if_false, show (false == true) = false from rfl]
      exact next fi (by rw [best, if_neg (by omega)]) H2 (Fr.refl _ _)
end Go.Proofs.YtkiakofohkecaaaDoor

/- Pop, the whole of it. No condition but that the heap's struct is as told. -/
namespace Go.Proofs.YtkiakofohkecaaaDoor
open Go Go.Fw

def popped (lt : Item → Item → Bool) (its : List Item) : List Item := siftDown lt ((swp its 0 (its.length - 1)).take (its.length - 1)) 0
theorem fill_zero : (fillS [(0, 2), (2, 1)] #[(.int .i64 0), (.int .i64 0), (.int .i64 0)] []).map Value.agg = some (.agg #[.int .i64 0, .int .i64 0, .int .i64 0]) := by kernel_rfl

theorem pop_spec {h : Hp} {p : Nat} {less : Value} {its : List Item} {ck : Int} {bl : List Nat} {L : List (Nat × Obj)} {lt : Item → Item → Bool} (ok : LessOk L less lt) (hL : Has h L) (hp : ∀ y ∈ L, y.1 ∉ bl) (hp2 : ∀ y ∈ L, y.1 ≠ p)
    (H : HeapE h p less its ck bl) (hlen : its.length < 1099511627776) {R : Value → Hp → Prop}
    (h0 : ∀ h', its = [] → Fr h h' [] → R (.tuple #[.agg #[.int .i64 0, .int .i64 0], .bool false]) h')
    (hR : ∀ h' b cap x rest, its = x :: rest → bl = [b] → HeapAt h' p less (popped lt its) ck b cap → Fr h h' [p, b] → R (.tuple #[.agg #[.int .i64 x.key, .int .i64 x.tag], .bool true]) h') :
    CallsH Tryd.prog 70 #[.pointer (some ⟨p, 0, none⟩)] h R := by
  refine f70.ok ?_
  unfold f70.T
  simp only [nw_eq, ptr0_eq]
  have f2 : Fr h ((h.push (.cells #[.int .i64 0, .int .i64 0] 134 (0, 0))).push (.cells #[.int .i64 0, .int .i64 0] 134 (0, 0))) [] := (Fr.push h _ []).new _
  have g2 : ((h.push (.cells #[.int .i64 0, .int .i64 0] 134 (0, 0))).push (.cells #[.int .i64 0, .int .i64 0] 134 (0, 0)))[h.size]? = some (.cells #[.int .i64 0, .int .i64 0] 134 (0, 0)) := get_push (get_new h _)
  have g4 := get_new (h.push (.cells #[.int .i64 0, .int .i64 0] 134 (0, 0))) (.cells #[.int .i64 0, .int .i64 0] 134 (0, 0))
  generalize (h.push (.cells #[.int .i64 0, .int .i64 0] 134 (0, 0))).size = q4 at *
  generalize (h.push (.cells #[.int .i64 0, .int .i64 0] 134 (0, 0))).push (.cells #[.int .i64 0, .int .i64 0] 134 (0, 0)) = h2 at *
  rcases H with ⟨rfl, rfl, top⟩ | ⟨b, cap, rfl, H⟩
  · refine len_spec (.inl ⟨rfl, rfl, f2.get top (by simp)⟩) ?_
    have e1 : stE 2 h2 (.pointer (some ⟨h.size, 0, none⟩)) (.agg #[.int .i64 0, .int .i64 0]) = some (h2.setIfInBounds h.size (.cells #[.int .i64 0, .int .i64 0] 134 (0, 0))) := by
      rw [stE_at _ g2]; simp [splice]
    have g2' := get_set (o' := .cells #[.int .i64 0, .int .i64 0] 134 (0, 0)) g2
    simp [ldA_at g4, e1, ldA_at g2']
    exact h0 _ rfl (f2.set_new (Nat.le_refl _) _)
  · have H2 : HeapAt h2 p less its ck b cap := ⟨f2.get H.top (by simp), H.row.fr f2 (by simp), H.ne⟩
    refine len_spec (.inr ⟨b, cap, rfl, H2⟩) ?_
    cases hi : its with
    | nil =>
      subst hi
      have e1 : stE 2 h2 (.pointer (some ⟨h.size, 0, none⟩)) (.agg #[.int .i64 0, .int .i64 0]) = some (h2.setIfInBounds h.size (.cells #[.int .i64 0, .int .i64 0] 134 (0, 0))) := by
        rw [stE_at _ g2]; simp [splice]
      have g2' := get_set (o' := .cells #[.int .i64 0, .int .i64 0] 134 (0, 0)) g2
      simp [ldA_at g4, e1, ldA_at g2']
      exact h0 _ rfl (f2.set_new (Nat.le_refl _) _)
    | cons x rest =>
      rw [← hi]
      have hn : its.length = rest.length + 1 := by rw [hi]; simp
      have lp := lt_of_get H.top
      have lb := H.row.lt
      have hz : decide ((its.length : Int) = 0) = false := decide_eq_false (by omega)
      have w1 : IntKind.i64.wrap ((its.length : Int) - 1) = ((its.length - 1 : Nat) : Int) := by rw [wrap_id (by omega) (by omega)]; omega
      have ez : (its.map Item.enc)[0]? = some x.enc := by rw [hi]; simp
      have l0 := H2.row.part (o := 0) (n := 2) ez (by omega)
      have hpos : (0 : Int) < its.length := by omega
      simp only [bin_eql, bnd_some, condT_bool, hz, Bool.false_eq_true, if_false, nilE_ptr, fldE_ptr, ldS_at H2.top, List.getElem?_toArray, List.getElem?_cons_succ, List.getElem?_cons_zero, lenE_sl, bin_sub, w1, idxE_sl, Int.le_refl, true_and, hpos, if_true,
        Int.toNat_zero, Nat.zero_mul, Nat.zero_add, Nat.add_zero, l0, nw_eq, ptr0_eq, Item.enc, List.drop_zero, List.take_succ_cons, List.take_zero]
      have f5 := f2.new (.cells #[.int .i64 0, .int .i64 0] 134 (0, 0))
      have f25 := Fr.push h2 (.cells #[.int .i64 0, .int .i64 0] 134 (0, 0)) []
      have g6 := get_new h2 (.cells #[.int .i64 0, .int .i64 0] 134 (0, 0))
      have g2a := f25.get g2 (by simp)
      have H5 : HeapAt (h2.push (.cells #[.int .i64 0, .int .i64 0] 134 (0, 0))) p less its ck b cap := ⟨f25.get H2.top (by simp), H2.row.fr f25 (by simp), H.ne⟩
      have hsz := f2.size
      have l2 := lt_of_get g2
      generalize h2.size = q6 at *
      generalize h2.push (.cells #[.int .i64 0, .int .i64 0] 134 (0, 0)) = h5 at *
      have e6 : stE 2 h5 (.pointer (some ⟨q6, 0, none⟩)) (.agg #[.int .i64 x.key, .int .i64 x.tag]) = some (h5.setIfInBounds q6 (.cells #[.int .i64 x.key, .int .i64 x.tag] 134 (0, 0))) := by
        rw [stE_at _ g6]; simp [splice]
      have f6 := f5.set_new hsz (.cells #[.int .i64 x.key, .int .i64 x.tag] 134 (0, 0))
      have f56 : Fr h5 _ [q6] := Fr.set h5 q6 (.cells #[.int .i64 x.key, .int .i64 x.tag] 134 (0, 0)) (fun _ => by simp) (by rw [g6]; rfl)
      have g6' := get_set (o' := .cells #[.int .i64 x.key, .int .i64 x.tag] 134 (0, 0)) g6
      have g2b := f56.get g2a (by simp; omega)
      have H6 : HeapAt (h5.setIfInBounds q6 (.cells #[.int .i64 x.key, .int .i64 x.tag] 134 (0, 0))) p less its ck b cap := ⟨f56.get H5.top (by simp; omega), H5.row.fr f56 (by simp; omega), H.ne⟩
      have e6' : stE 2 h5 (.pointer (some ⟨q6, 0, none⟩)) (.agg (List.toArray [.int .i64 x.key, .int .i64 x.tag])) = some (h5.setIfInBounds q6 (.cells #[.int .i64 x.key, .int .i64 x.tag] 134 (0, 0))) := e6
      simp only [e6', bnd_some]
      generalize h5.setIfInBounds q6 (.cells #[.int .i64 x.key, .int .i64 x.tag] 134 (0, 0)) = h6 at *
      refine (swap_spec H6 (i := 0) (j := its.length - 1) (by omega) (by omega)).mono ?_
      rintro v h7 ⟨H7, f7, _⟩
      have hsl : (swp its 0 (its.length - 1)).length = its.length := swp_len _ _ _
      have hlt7 : its.length - 1 < ((swp its 0 (its.length - 1)).map Item.enc).length := by simp [swp_len]; omega
      obtain ⟨h8, s8, r8, f8, z8⟩ := H7.row.set (i := its.length - 1) (vs := [.int .i64 0, .int .i64 0, .int .i64 0]) hlt7 rfl (by simp)
      have top8 := f8.get H7.top (by simp [H7.ne])
      have hcap : its.length - 1 ≤ cap := by have := H.row.len; simp at this; omega
      have hi1 : (0 : Int) ≤ ((its.length - 1 : Nat) : Int) ∧ ((its.length - 1 : Nat) : Int) < ((swp its 0 (its.length - 1)).length : Int) := by omega
      have e9 : stE 1 h8 (.pointer (some ⟨p, 1, none⟩)) (.slice (some ⟨b, 0, none⟩) (its.length - 1) cap) = some (h8.setIfInBounds p (.cells #[less, .slice (some ⟨b, 0, none⟩) (its.length - 1) cap, .int .i64 ck] 152 (0, 0))) := by
        rw [stE_at _ top8]; simp [splice]
      have s8' : stE 3 h7 (.pointer (some ⟨b, (its.length - 1) * 3, none⟩)) (.agg #[.int .i64 0, .int .i64 0, .int .i64 0]) = some h8 := s8
      simp only [nilE_ptr, bnd_some, fldE_ptr, ldS_at H7.top, List.getElem?_toArray, List.getElem?_cons_succ, List.getElem?_cons_zero, Nat.zero_add, fill_zero, idxE_sl, hi1, and_self, if_true, Int.toNat_natCast, s8', ldS_at top8, slice_to 3 b 0 _ cap .i64 _ hcap, e9]
      have f9 : Fr h8 _ [p, b] := Fr.set h8 p (.cells #[less, .slice (some ⟨b, 0, none⟩) (its.length - 1) cap, .int .i64 ck] 152 (0, 0)) (fun _ => by simp) (by rw [top8]; rfl)
      have f9' : Fr h8 _ [p] := Fr.set h8 p (.cells #[less, .slice (some ⟨b, 0, none⟩) (its.length - 1) cap, .int .i64 ck] 152 (0, 0)) (fun _ => by simp) (by rw [top8]; rfl)
      have top9 := get_set (o' := .cells #[less, .slice (some ⟨b, 0, none⟩) (its.length - 1) cap, .int .i64 ck] 152 (0, 0)) top8
      generalize h8.setIfInBounds p (.cells #[less, .slice (some ⟨b, 0, none⟩) (its.length - 1) cap, .int .i64 ck] 152 (0, 0)) = h9 at *
      have hl9 : ((swp its 0 (its.length - 1)).take (its.length - 1)).length = its.length - 1 := by simp [swp_len]
      have H9 : HeapAt h9 p less ((swp its 0 (its.length - 1)).take (its.length - 1)) ck b cap := by
        refine ⟨by rw [hl9]; exact top9, ?_, H.ne⟩
        have := (r8.fr f9' (by simp [H.ne.symm])).take (its.length - 1)
        rwa [List.take_set_of_le (Nat.le_refl _), ← List.map_take] at this
      have fin := down_L1 (R := R) (x := .int .i64 0) (y := .int .i64 0) (q2 := h.size) (q6 := q6) (k := x.key) (t := x.tag) ok ((((hL.fr f6 (by simp)).fr f7 (by simpa using hp)).fr f8 (by simpa using hp)).fr f9' (by simpa using hp2)) (by simpa using hp) H9 (by rw [hl9]; omega)
        (f9'.get (f8.get (f7.get g2b (by simp; omega)) (by simp; omega)) (by simp; omega)) (f9'.get (f8.get (f7.get g6' (by simp; omega)) (by simp; omega)) (by simp; omega)) (by omega) (by omega) (by omega) ?_
      · rw [hl9] at fin
        exact fin
      · intro h' H' f'
        refine hR h' b cap x rest hi rfl H' ?_
        have g : Fr h h9 [p, b] := ((((f6.mono (by simp)).then (f7.mono (fun c _ hm => by simp at hm ⊢; exact .inr hm))).then (f8.mono (fun c _ hm => by simp at hm ⊢; exact .inr hm)))).then f9
        exact g.trans f' (fun _ _ hc => hc) (fun c hc hm => by simp at hm ⊢; omega)
end Go.Proofs.YtkiakofohkecaaaDoor

/- The plain law of the heap: what is moved up or down is the same things, in the heap's order. No program is in sight. No condition but those each theorem states. -/
namespace Go.Proofs.YtkiakofohkecaaaDoor
open Go Go.Fw

instance : Inhabited Item := ⟨⟨0, 0, 0⟩⟩
def nth (l : List Item) (k : Nat) : Item := l.getD k default
theorem nth_get {l : List Item} {k : Nat} (h : k < l.length) : nth l k = l[k] := by simp [nth, h]
theorem aheadL_nth {lt : Item → Item → Bool} {l : List Item} {i j : Nat} (hi : i < l.length) (hj : j < l.length) : aheadL lt l i j = aheadB lt (nth l i) (nth l j) := by simp [aheadL, nth, hi, hj]
theorem nth_swp {l : List Item} {i j : Nat} (hi : i < l.length) (hj : j < l.length) (k : Nat) : nth (swp l i j) k = if k = j then nth l i else if k = i then nth l j else nth l k := by
  have e : swp l i j = (l.set i l[j]).set j l[i] := by simp [swp, hi, hj]
  rw [e]
  simp only [nth, List.getD_eq_getElem?_getD, List.getElem?_set, List.length_set]
  by_cases h1 : k = j
  · subst h1; simp [hj, hi]
  · by_cases h2 : k = i
    · subst h2; simp [h1, Ne.symm h1, hi, hj]
    · simp [h1, h2, Ne.symm h1, Ne.symm h2]

theorem swp_perm {l : List Item} {i j : Nat} (hi : i < l.length) (hj : j < l.length) : (swp l i j).Perm l := by
  have e : swp l i j = (l.set i l[j]).set j l[i] := by simp [swp, hi, hj]
  rw [e]
  exact List.set_set_perm hi hj

theorem siftUp_perm (lt : Item → Item → Bool) : ∀ (i : Nat) (l : List Item), i < l.length → (siftUp lt l i).Perm l := by
  intro i
  induction i using Nat.strongRecOn with
  | _ i ih =>
    intro l hi
    rw [siftUp]
    split
    · rename_i h
      exact (ih _ (by omega) _ (by rw [swp_len]; omega)).trans (swp_perm hi (by omega))
    · exact .refl _
theorem siftDown_perm (lt : Item → Item → Bool) (l : List Item) (i : Nat) : (siftDown lt l i).Perm l := by
  induction l, i using siftDown.induct lt with
  | case1 l i h => rw [siftDown, dif_pos h]
  | case2 l i h ih =>
    rw [siftDown, dif_neg h]
    have := (pick_or lt l i).resolve_left h
    exact ih.trans (swp_perm (by omega) this.2)
theorem siftUp_len (lt : Item → Item → Bool) {l : List Item} {i : Nat} (h : i < l.length) : (siftUp lt l i).length = l.length := (siftUp_perm lt i l h).length_eq

theorem push_perm (lt : Item → Item → Bool) (l : List Item) (x : Item) : (siftUp lt (l ++ [x]) l.length).Perm (x :: l) :=
  (siftUp_perm lt _ _ (by simp)).trans (List.perm_append_singleton x l)

theorem swp_last {l : List Item} (h : 0 < l.length) : (swp l 0 (l.length - 1)).take (l.length - 1) ++ [nth l 0] = swp l 0 (l.length - 1) := by
  have hl : (swp l 0 (l.length - 1)).length = l.length := swp_len _ _ _
  have h2 := nth_swp (l := l) (i := 0) (j := l.length - 1) h (by omega) (l.length - 1)
  rw [if_pos rfl, nth_get (by omega)] at h2
  rw [← h2]
  have := List.take_concat_get (l := swp l 0 (l.length - 1)) (i := l.length - 1) (by omega)
  rw [List.concat_eq_append] at this
  rw [this, List.take_of_length_le (by omega)]

theorem pop_perm (lt : Item → Item → Bool) (x : Item) (rest : List Item) : (x :: popped lt (x :: rest)).Perm (x :: rest) := by
  have h := swp_last (l := x :: rest) (by simp)
  have hx : nth (x :: rest) 0 = x := by simp [nth]
  rw [hx] at h
  have h1 : (popped lt (x :: rest)).Perm ((swp (x :: rest) 0 ((x :: rest).length - 1)).take ((x :: rest).length - 1)) := siftDown_perm _ _ _
  refine (h1.cons x).trans ((List.perm_append_singleton x _).symm.trans ?_)
  rw [h]
  exact swp_perm (by simp) (by simp)

/-- Ahead is an order in which any two things can be set. -/
structure Ord (A : Item → Item → Bool) : Prop where
  trans : ∀ a b c, A b a = false → A c b = false → A c a = false
  asym : ∀ a b, A a b = true → A b a = false
theorem Ord.irr {A : Item → Item → Bool} (o : Ord A) (a : Item) : A a a = false := by
  cases h : A a a
  · rfl
  · rw [o.asym a a h] at h; cases h

def HeapOk (A : Item → Item → Bool) (l : List Item) : Prop := ∀ j, 0 < j → j < l.length → A (nth l j) (nth l ((j - 1) / 2)) = false

theorem root_first {A : Item → Item → Bool} (o : Ord A) {l : List Item} (h : HeapOk A l) : ∀ j, j < l.length → A (nth l j) (nth l 0) = false := by
  intro j
  induction j using Nat.strongRecOn with
  | _ j ih =>
    intro hj
    by_cases h0 : j = 0
    · subst h0; exact o.irr _
    · exact o.trans _ _ _ (ih ((j - 1) / 2) (by omega) (by omega)) (h j (by omega) hj)

theorem siftUp_ok {lt : Item → Item → Bool} (o : Ord (aheadB lt)) : ∀ (i : Nat) (l : List Item), i < l.length → (∀ j, 0 < j → j < l.length → j ≠ i → aheadB lt (nth l j) (nth l ((j - 1) / 2)) = false) →
    (∀ j, 0 < j → j < l.length → (j - 1) / 2 = i → 0 < i → aheadB lt (nth l j) (nth l ((i - 1) / 2)) = false) → HeapOk (aheadB lt) (siftUp lt l i) := by
  intro i
  induction i using Nat.strongRecOn with
  | _ i ih =>
    intro l hi h1 h2
    rw [siftUp]
    split
    · rename_i h
      have hp : (i - 1) / 2 < l.length := by omega
      have ha := h.2
      rw [aheadL_nth hi hp] at ha
      have hs : ∀ k, nth (swp l i ((i - 1) / 2)) k = if k = (i - 1) / 2 then nth l i else if k = i then nth l ((i - 1) / 2) else nth l k := nth_swp hi hp
      refine ih _ (by omega) _ (by rw [swp_len]; exact hp) (fun j j0 jl jn => ?_) (fun j j0 jl je p0 => ?_)
      · rw [swp_len] at jl
        rw [hs j, hs ((j - 1) / 2), if_neg jn]
        by_cases e1 : j = i
        · subst e1
          rw [if_pos rfl, if_pos rfl]
          exact o.asym _ _ ha
        · rw [if_neg e1]
          by_cases e2 : (j - 1) / 2 = (i - 1) / 2
          · rw [if_pos e2]
            have := h1 j j0 jl e1
            rw [e2] at this
            exact o.trans _ _ _ (o.asym _ _ ha) this
          · rw [if_neg e2]
            by_cases e3 : (j - 1) / 2 = i
            · rw [if_pos e3]
              exact h2 j j0 jl e3 h.1
            · rw [if_neg e3]
              exact h1 j j0 jl e1
      · rw [swp_len] at jl
        have n1 : ((i - 1) / 2 - 1) / 2 ≠ (i - 1) / 2 := by omega
        have n2 : ((i - 1) / 2 - 1) / 2 ≠ i := by omega
        rw [hs j, hs (((i - 1) / 2 - 1) / 2), if_neg n1, if_neg n2, if_neg (by omega)]
        have hpp := h1 ((i - 1) / 2) p0 hp (by omega)
        by_cases e1 : j = i
        · rw [if_pos e1]; exact hpp
        · rw [if_neg e1]
          have := h1 j j0 jl e1
          rw [je] at this
          exact o.trans _ _ _ hpp this
    · rename_i h
      intro j j0 jl
      by_cases e : j = i
      · subst e
        have hn : ¬ aheadL lt l j ((j - 1) / 2) = true := fun hc => h ⟨j0, hc⟩
        rw [aheadL_nth hi (by omega)] at hn
        simpa using hn
      · exact h1 j j0 jl e

theorem best_min {lt : Item → Item → Bool} (o : Ord (aheadB lt)) {l : List Item} {i j : Nat} (hi : i < l.length) :
    aheadB lt (nth l i) (nth l (best lt l i j)) = false ∧ (j < l.length → aheadB lt (nth l j) (nth l (best lt l i j)) = false) := by
  unfold best
  split
  · rename_i h
    have ha := h.2
    rw [aheadL_nth h.1 hi] at ha
    exact ⟨o.asym _ _ ha, fun _ => o.irr _⟩
  · rename_i h
    refine ⟨o.irr _, fun hj => ?_⟩
    have hn : ¬ aheadL lt l j i = true := fun hc => h ⟨hj, hc⟩
    rw [aheadL_nth hj hi] at hn
    simpa using hn
theorem pick_min {lt : Item → Item → Bool} (o : Ord (aheadB lt)) {l : List Item} {i : Nat} (hi : i < l.length) :
    aheadB lt (nth l i) (nth l (pick lt l i)) = false ∧ ∀ j, 0 < j → (j - 1) / 2 = i → j < l.length → aheadB lt (nth l j) (nth l (pick lt l i)) = false := by
  have h1 := best_min o (j := 2 * i + 1) hi
  have h2 := best_min o (j := 2 * i + 2) (best_lt (lt := lt) (j := 2 * i + 1) hi)
  refine ⟨o.trans _ _ _ h2.1 h1.1, fun j j0 je jl => ?_⟩
  by_cases e : j = 2 * i + 1
  · subst e; exact o.trans _ _ _ h2.1 (h1.2 jl)
  · obtain rfl : j = 2 * i + 2 := by omega
    exact h2.2 jl

theorem siftDown_ok {lt : Item → Item → Bool} (o : Ord (aheadB lt)) (l : List Item) (i : Nat) : i < l.length → (∀ j, 0 < j → j < l.length → (j - 1) / 2 ≠ i → aheadB lt (nth l j) (nth l ((j - 1) / 2)) = false) →
    (∀ j, 0 < j → j < l.length → (j - 1) / 2 = i → 0 < i → aheadB lt (nth l j) (nth l ((i - 1) / 2)) = false) → HeapOk (aheadB lt) (siftDown lt l i) := by
  induction l, i using siftDown.induct lt with
  | case1 l i h =>
    intro hi h1 h2 
    rw [siftDown, dif_pos h]
    intro j j0 jl
    by_cases e : (j - 1) / 2 = i
    · have := (pick_min o hi).2 j j0 e jl
      rw [h] at this
      rw [e]; exact this
    · exact h1 j j0 jl e
  | case2 l i h ih =>
    intro hi h1 h2
    rw [siftDown, dif_neg h]
    have hpk := (pick_or lt l i).resolve_left h
    have hpar : (pick lt l i - 1) / 2 = i := by
      have h3 := best_or lt l (best lt l i (2 * i + 1)) (2 * i + 2)
      have h4 := best_or lt l i (2 * i + 1)
      unfold pick at hpk ⊢
      omega
    have pm := pick_min o hi
    have hs : ∀ k, nth (swp l i (pick lt l i)) k = if k = pick lt l i then nth l i else if k = i then nth l (pick lt l i) else nth l k := nth_swp hi hpk.2
    generalize pick lt l i = b at *
    refine ih (by rw [swp_len]; exact hpk.2) (fun j j0 jl jn => ?_) (fun j j0 jl je p0 => ?_)
    · rw [swp_len] at jl
      rw [hs j, hs ((j - 1) / 2), if_neg jn]
      by_cases e1 : j = b
      · rw [if_pos e1, if_pos (by omega)]; exact pm.1
      · rw [if_neg e1]
        by_cases e2 : j = i
        · subst e2
          rw [if_pos rfl, if_neg (by omega)]
          exact h2 b (by omega) hpk.2 hpar j0
        · rw [if_neg e2]
          by_cases e3 : (j - 1) / 2 = i
          · rw [if_pos e3]; exact pm.2 j j0 e3 jl
          · rw [if_neg e3]; exact h1 j j0 jl e3
    · rw [swp_len] at jl
      rw [hs j, hs ((b - 1) / 2), hpar, if_neg (by omega), if_neg (by omega), if_neg (by omega), if_pos rfl]
      have := h1 j j0 jl (by omega)
      rwa [je] at this

theorem push_ok {lt : Item → Item → Bool} (o : Ord (aheadB lt)) {l : List Item} (h : HeapOk (aheadB lt) l) (x : Item) : HeapOk (aheadB lt) (siftUp lt (l ++ [x]) l.length) := by
  have hn : ∀ k, k < l.length → nth (l ++ [x]) k = nth l k := fun k hk => by simp [nth, List.getElem?_append, hk]
  refine siftUp_ok o _ _ (by simp) (fun j j0 jl jn => ?_) (fun j j0 jl je p0 => ?_)
  · simp at jl
    rw [hn j (by omega), hn _ (by omega)]
    exact h j j0 (by omega)
  · simp at jl; omega
theorem pop_ok {lt : Item → Item → Bool} (o : Ord (aheadB lt)) {l : List Item} (h : HeapOk (aheadB lt) l) : HeapOk (aheadB lt) (popped lt l) := by
  unfold popped
  by_cases hl : l.length ≤ 1
  · have e : (swp l 0 (l.length - 1)).take (l.length - 1) = [] := by rw [show l.length - 1 = 0 by omega]; simp
    rw [e]
    intro j j0 jl
    rw [(siftDown_perm lt [] 0).length_eq] at jl
    simp at jl
  · have hn : ∀ k, 0 < k → k < l.length - 1 → nth ((swp l 0 (l.length - 1)).take (l.length - 1)) k = nth l k := fun k k0 kl => by
      have h1 : nth ((swp l 0 (l.length - 1)).take (l.length - 1)) k = nth (swp l 0 (l.length - 1)) k := by simp [nth, List.getElem?_take, kl]
      rw [h1, nth_swp (by omega) (by omega), if_neg (by omega), if_neg (by omega)]
    have hlen : ((swp l 0 (l.length - 1)).take (l.length - 1)).length = l.length - 1 := by simp [swp_len]
    refine siftDown_ok o _ _ (by omega) (fun j j0 jl jn => ?_) (fun j j0 jl je p0 => by omega)
    rw [hlen] at jl
    rw [hn j j0 jl, hn _ (by omega) (by omega)]
    exact h j j0 (by omega)
end Go.Proofs.YtkiakofohkecaaaDoor

/- The heap of offers: its order, a new heap, its frame; lists of ids compared. No condition but that the memory is as told. -/
namespace Go.Proofs.YtkiakofohkecaaaDoor
open Go Go.Fw

theorem HeapE.fr {h h' : Hp} {p : Nat} {less : Value} {its : List Item} {ck : Int} {bl S : List Nat} (H : HeapE h p less its ck bl) (f : Fr h h' S) (hp : p ∉ S) (hb : ∀ b ∈ bl, b ∉ S) : HeapE h' p less its ck bl := by
  rcases H with ⟨rfl, rfl, top⟩ | ⟨b, cap, rfl, H⟩
  · exact .inl ⟨rfl, rfl, f.get top hp⟩
  · exact .inr ⟨b, cap, rfl, f.get H.top hp, H.row.fr f (hb b (by simp)), H.ne⟩
theorem HeapE.lt {h : Hp} {p : Nat} {less : Value} {its : List Item} {ck : Int} {bl : List Nat} (H : HeapE h p less its ck bl) : p < h.size ∧ ∀ b ∈ bl, b < h.size ∧ b ≠ p := by
  rcases H with ⟨rfl, rfl, top⟩ | ⟨b, cap, rfl, H⟩
  · exact ⟨lt_of_get top, by simp⟩
  · refine ⟨lt_of_get H.top, fun c hc => ?_⟩
    obtain rfl : c = b := by simpa using hc
    exact ⟨H.row.lt, H.ne.symm⟩

/-- By the sum, then by the id. -/
def ltOffer (a b : Item) : Bool := decide (a.key < b.key) || (decide (a.key = b.key) && decide (a.tag < b.tag))
theorem ord_offer : Ord (aheadB ltOffer) := ⟨fun a b c h1 h2 => by simp [aheadB, ltOffer] at *; omega, fun a b h => by simp [aheadB, ltOffer] at *; omega⟩

theorem two_boxes (h : Hp) (c d : Array Value) : let h2 := (h.push (.cells c 134 (0, 0))).push (.cells d 134 (0, 0)); Fr h h2 [] ∧ h2[h.size]? = some (.cells c 134 (0, 0)) ∧ h2[h.size + 1]? = some (.cells d 134 (0, 0)) := by
  refine ⟨(Fr.push h _ []).new _, get_push (get_new h _), ?_⟩
  have := get_new (h.push (.cells c 134 (0, 0))) (.cells d 134 (0, 0))
  rwa [Array.size_push] at this

set_option maxRecDepth 100000 in
theorem lessOk68 : LessOk [] (.func (.func 68) #[] #[]) ltOffer := ⟨rfl, rfl, fun h a b K _ hK => by
  obtain ⟨f, e1, e2⟩ := two_boxes h #[.int .i64 a.key, .int .i64 a.tag] #[.int .i64 b.key, .int .i64 b.tag]
  have e : okF Tryd.prog 68 = true := by kernel_rfl
  have fin := hK _ f
  simp only [callV, e]
  refine f68.ok (t0 := .agg #[.int .i64 a.key, .int .i64 a.tag]) (t1 := .agg #[.int .i64 b.key, .int .i64 b.tag]) ?_
  unfold f68.T
  simp only [nw_eq, cells_agg, ptr0_eq, Array.size_push]
  generalize (h.push (.cells #[.int .i64 a.key, .int .i64 a.tag] 134 (0, 0))).push (.cells #[.int .i64 b.key, .int .i64 b.tag] 134 (0, 0)) = hh at *
  by_cases h1 : a.key < b.key
  · simpa [ldS_at e1, ldS_at e2, h1, isB_undef, ltOffer] using fin
  · by_cases h2 : a.key = b.key
    · simpa [ldS_at e1, ldS_at e2, h1, h2, isB_undef, ltOffer] using fin
    · simpa [ldS_at e1, ldS_at e2, h1, h2, isB_undef, ltOffer] using fin⟩

theorem fill_heap (f : Value) (hf : f.cells = #[f]) : (fillS [(0, 1), (1, 1), (2, 1)] #[.nilFunc, (.slice none 0 0), (.int .i64 0)] [(0, f)]).map Value.agg = some (.agg #[f, .slice none 0 0, .int .i64 0]) := by
  simp [fillS, Instr.fill, hf]
theorem new_spec {h : Hp} {g : FuncId} {fi ca : Array Value} {R : Value → Hp → Prop} (hR : HeapE (h.push (.cells #[.func (.func g) fi ca, .slice none 0 0, .int .i64 0] 152 (0, 0))) h.size (.func (.func g) fi ca) [] 0 [] → R (.pointer (some ⟨h.size, 0, none⟩)) (h.push (.cells #[.func (.func g) fi ca, .slice none 0 0, .int .i64 0] 152 (0, 0)))) :
    CallsH Tryd.prog 67 #[.func (.func g) fi ca] h R := by
  refine f67.ok ?_
  unfold f67.T
  simp only [nil_f_some, bnd_some, condT_bool, Bool.false_eq_true, if_false, fill_heap (.func (.func g) fi ca) rfl, nw_eq, cells_agg, ptr0_eq]
  exact hR (.inl ⟨rfl, rfl, get_new h _⟩)

/-- How many turns are left. -/
def muI (n : Nat) (l : List Value) (_ : Hp) : Nat := match l with | .int _ m :: _ => n - m.toNat | _ => 0
theorem muI_lt {n i : Nat} (h h' : Hp) (hi : i < n) : muI n [.int .i64 ((i + 1 : Nat) : Int)] h' < muI n [.int .i64 (i : Int)] h := by simp only [muI, Int.toNat_natCast]; omega

def ints (l : List Int) : List (List Value) := l.map fun k => [.int .i64 k]
theorem ints_read {h : Hp} {v : Value} {ks : List Int} (r : RowV h 1 v (ints ks)) {j : Nat} {k : Int} (hj : ks[j]? = some k) :
    ∃ b o, idxE 1 v (.int .i64 j) = some (.pointer (some ⟨b, o, none⟩)) ∧ ldS h (.pointer (some ⟨b, o, none⟩)) = some (.int .i64 k) := by
  obtain ⟨b, o, e, _, hr⟩ := r.get (i := j) (x := [.int .i64 k]) (by simp [ints, hj]) .i64
  exact ⟨b, o, e, by simpa using (hr h (Fr.refl _ _)).1 0 (by omega)⟩
theorem ints_len {h : Hp} {v : Value} {ks : List Int} (r : RowV h 1 v (ints ks)) : lenE v = some (.int .i64 ks.length) := by obtain ⟨a, cap, rfl, _⟩ := r; simp [ints]

def IInv (a b : List Int) (h : Hp) (l : List Value) (h' : Hp) : Prop := ∃ i : Nat, l = [.int .i64 i] ∧ i ≤ a.length ∧ a.take i = b.take i ∧ h' = h
theorem ids_spec {h : Hp} {v w : Value} {a b : List Int} (ra : RowV h 1 v (ints a)) (rb : RowV h 1 w (ints b)) (hn : a.length ≤ 1099511627776) {R : Value → Hp → Prop} (hR : R (.bool (decide (a = b))) h) : CallsH Tryd.prog 24 #[v, w] h R := by
  refine f24.ok ?_
  unfold f24.T
  simp only [ints_len ra, ints_len rb, bnd_some, bin_neq, condT_bool]
  by_cases hl : a.length = b.length
  · have hl' : decide (¬ ((a.length : Int) = (b.length : Int))) = false := by simp; omega
    simp only [ne_eq, hl', Bool.false_eq_true, if_false]
    unfold f24.L1
    refine ⟨IInv a b h, muI a.length, ⟨0, rfl, by omega, by simp, rfl⟩, ?_⟩
    intro t11 t12 t13 t14 t17 t18 t19 t20 t21 t22 t23 t24 t25 t4 t15 t16 t5 h1
    rintro ⟨i, hi, hle, ht, rfl⟩
    obtain rfl : t5 = .int .i64 i := by simpa using hi
    simp only [ints_len ra, bin_lss, bnd_some, condT_bool]
    by_cases hlt : i < a.length
    · have hdec : decide ((i : Int) < (a.length : Int)) = true := by simp; omega
      have w1 : IntKind.i64.wrap ((i : Int) + 1) = ((i + 1 : Nat) : Int) := by rw [i64_id (by omega) (by omega)]; omega
      obtain ⟨b1, o1, e1, r1⟩ := ints_read ra (j := i) (k := a[i]) (by simp [hlt])
      obtain ⟨b2, o2, e2, r2⟩ := ints_read rb (j := i) (k := b[i]) (by simp [← hl, hlt])
      by_cases hab : a[i] = b[i]
      · have inv : IInv a b h1 [.int .i64 ((i + 1 : Nat) : Int)] h1 := ⟨i + 1, rfl, by omega, by rw [List.take_add_one, List.take_add_one, ht]; simp [hlt, ← hl, hab], rfl⟩
        have mu := muI_lt h1 h1 hlt
        simp only [hdec, if_true, e1, e2, r1, r2, bnd_some, bin_neq, ne_eq, hab, not_true_eq_false, decide_false, condT_bool, Bool.false_eq_true, if_false, bin_add, w1]
        exact ⟨inv, mu⟩
      · have hne : decide (a = b) = false := decide_eq_false fun e => hab (by subst e; rfl)
        rw [hne] at hR
        simpa [hdec, e1, e2, r1, r2, hab, hlt] using hR
    · have hdec : decide ((i : Int) < (a.length : Int)) = false := by simp; omega
      obtain rfl : i = a.length := by omega
      have he : a = b := by rw [List.take_length, hl, List.take_length] at ht; exact ht
      have hd : decide (a = b) = true := decide_eq_true he
      rw [hd] at hR
      simpa [hdec] using hR
  · have hl' : decide (¬ ((a.length : Int) = (b.length : Int))) = true := by simp; omega
    have hne : decide (a = b) = false := decide_eq_false fun e => hl (by rw [e])
    rw [hne] at hR
    simpa [hl'] using hR
end Go.Proofs.YtkiakofohkecaaaDoor

/- The reference's lists of nodes with sums: is a node settled, what is in sight. No condition but that the lists are read in memory as told. -/
namespace Go.Proofs.YtkiakofohkecaaaDoor
open Go Go.Fw

structure Seen where
  id : Int
  sum : Int
def Seen.enc (s : Seen) : List Value := [.int .i64 s.id, .int .i64 s.sum]

theorem seen_read {h : Hp} {v : Value} {l : List Seen} (r : RowV h 2 v (l.map Seen.enc)) {j : Nat} (hj : j < l.length) :
    ∃ b o, idxE 2 v (.int .i64 (j : Int)) = some (.pointer (some ⟨b, o, none⟩)) ∧ ldS h (.pointer (some ⟨b, o, none⟩)) = some (.int .i64 l[j].id) ∧ ldS h (.pointer (some ⟨b, o + 1, none⟩)) = some (.int .i64 l[j].sum) := by
  obtain ⟨b, o, e, _, hr⟩ := r.get (i := j) (x := (l[j]).enc) (by simp [hj]) .i64
  have h0 := (hr h (Fr.refl _ _)).1
  exact ⟨b, o, e, by simpa [Seen.enc] using h0 0 (by omega), by simpa [Seen.enc] using h0 1 (by omega)⟩
theorem seen_len {h : Hp} {v : Value} {l : List Seen} (r : RowV h 2 v (l.map Seen.enc)) : lenE v = some (.int .i64 l.length) := by obtain ⟨a, cap, rfl, _⟩ := r; simp

/-- None before the place i is of this id. -/
def NInv (l : List Seen) (t : Int) (h : Hp) (vs : List Value) (h' : Hp) : Prop := ∃ i : Nat, vs = [.int .i64 i] ∧ i ≤ l.length ∧ (∀ s ∈ l.take i, s.id ≠ t) ∧ h' = h
theorem NInv.next {l : List Seen} {t : Int} {h : Hp} {i : Nat} (hi : i < l.length) (h1 : ∀ s ∈ l.take i, s.id ≠ t) (h2 : l[i].id ≠ t) : NInv l t h [.int .i64 ((i + 1 : Nat) : Int)] h := by
  refine ⟨i + 1, rfl, by omega, fun s hs => ?_, rfl⟩
  rw [List.take_add_one] at hs
  rcases List.mem_append.1 hs with hs | hs
  · exact h1 s hs
  · simp [hi] at hs
    subst hs
    exact h2

theorem settled_spec {h : Hp} {v : Value} {l : List Seen} (r : RowV h 2 v (l.map Seen.enc)) (t : Int) (hn : l.length ≤ 1099511627776) {R : Value → Hp → Prop} (hR : R (.bool (decide (∃ s ∈ l, s.id = t))) h) : CallsH Tryd.prog 73 #[v, .int .i64 t] h R := by
  refine f73.ok ?_
  unfold f73.T f73.L1
  refine ⟨NInv l t h, muI l.length, ⟨0, rfl, by omega, by simp, rfl⟩, ?_⟩
  intro t6 t7 t8 t9 t12 t13 t14 t15 t16 t17 t18 t4 t10 t11 t5 h1
  rintro ⟨i, hl, hi, hno, rfl⟩
  obtain rfl : t5 = .int .i64 i := by simpa using hl
  simp only [seen_len r, bin_lss, bnd_some, condT_bool]
  by_cases hlt : i < l.length
  · have hdec : decide ((i : Int) < (l.length : Int)) = true := by simp; omega
    have w1 : IntKind.i64.wrap ((i : Int) + 1) = ((i + 1 : Nat) : Int) := by rw [i64_id (by omega) (by omega)]; omega
    obtain ⟨b, o, e, r0, _⟩ := seen_read r hlt
    by_cases he : l[i].id = t
    · have hd : decide (∃ s ∈ l, s.id = t) = true := decide_eq_true ⟨l[i], by simp, he⟩
      rw [hd] at hR
      simpa [hdec, e, r0, he, hlt] using hR
    · have inv := NInv.next (h := h1) hlt hno he
      have mu := muI_lt h1 h1 hlt
      simp only [hdec, if_true, e, bnd_some, fldE_ptr, Nat.add_zero, r0, bin_eql, he, decide_false, condT_bool, Bool.false_eq_true, if_false, bin_add, w1]
      exact ⟨inv, mu⟩
  · have hdec : decide ((i : Int) < (l.length : Int)) = false := by simp; omega
    obtain rfl : i = l.length := by omega
    have hd : decide (∃ s ∈ l, s.id = t) = false := decide_eq_false fun ⟨s, hs, e⟩ => hno s (by rwa [List.take_length]) e
    rw [hd] at hR
    simpa [hdec] using hR
end Go.Proofs.YtkiakofohkecaaaDoor

/- The reference's sight and next. No condition but that the lists are read in memory as told. -/
namespace Go.Proofs.YtkiakofohkecaaaDoor
open Go Go.Fw

theorem elem98 : ElemOk Tryd.prog 98 105 2 16 := .of (z := .agg #[.int .i64 0, .int .i64 0]) (by kernel_rfl) (by kernel_rfl) (by kernel_rfl)
theorem fill_seen (k t : Int) : (fillS [(0, 1), (1, 1)] #[(.int .i64 0), (.int .i64 0)] [(0, .int .i64 k), (1, .int .i64 t)]).map Value.agg = some (.agg #[.int .i64 k, .int .i64 t]) := by kernel_rfl
theorem fill_seen1 (k t : Int) : fillR 2 #[(.int .i64 0), (.int .i64 0)] [(0, .agg #[.int .i64 k, .int .i64 t])] = some #[.int .i64 k, .int .i64 t] := by kernel_rfl

/-- The nodes in sight, with one of them at that sum or less. -/
def sightL (l : List Seen) (id sum : Int) : List Seen :=
  match l.findIdx? (fun s => s.id == id) with
  | some i => if sum < ((l[i]?).map (·.sum)).getD 0 then l.set i ⟨id, sum⟩ else l
  | none => l ++ [⟨id, sum⟩]

theorem findIdx_none {l : List Seen} {t : Int} (h : ∀ s ∈ l, s.id ≠ t) : l.findIdx? (fun s => s.id == t) = none := by
  rw [List.findIdx?_eq_none_iff]
  intro s hs
  simpa using h s hs
theorem findIdx_at {l : List Seen} {t : Int} {i : Nat} (hi : i < l.length) (hno : ∀ s ∈ l.take i, s.id ≠ t) (he : l[i].id = t) : l.findIdx? (fun s => s.id == t) = some i := by
  rw [List.findIdx?_eq_some_iff_getElem]
  refine ⟨hi, by simpa using he, fun j hj => ?_⟩
  have := hno l[j] (by rw [List.mem_take_iff_getElem]; exact ⟨j, by omega, rfl⟩)
  simpa using this

theorem sight_spec {h : Hp} {v : Value} {l : List Seen} {bl : List Nat} (O : OwnS h 105 2 v (l.map Seen.enc) bl) (nd sum : Int) (hn : l.length ≤ 8589934592) {R : Value → Hp → Prop}
    (hR : ∀ h' v' bl', OwnS h' 105 2 v' ((sightL l nd sum).map Seen.enc) bl' → Fr h h' bl → (∀ b ∈ bl', b ∈ bl ∨ h.size ≤ b) → R v' h') : CallsH Tryd.prog 74 #[v, .int .i64 nd, .int .i64 sum] h R := by
  have r := O.rowv
  refine f74.ok ?_
  unfold f74.T f74.L1
  refine ⟨NInv l nd h, muI l.length, ⟨0, rfl, by omega, by simp, rfl⟩, ?_⟩
  intro t8 t9 t10 t11 t14 t15 t16 t17 t18 t19 t20 t21 t22 t23 t24 t25 t26 t27 t28 t29 t30 t31 t32 t33 t6 t12 t13 t7 h1
  rintro ⟨i, hl, hi, hno, rfl⟩
  obtain rfl : t7 = .int .i64 i := by simpa using hl
  simp only [seen_len r, bin_lss, bnd_some, condT_bool]
  by_cases hlt : i < l.length
  · have hdec : decide ((i : Int) < (l.length : Int)) = true := by simp; omega
    have w1 : IntKind.i64.wrap ((i : Int) + 1) = ((i + 1 : Nat) : Int) := by rw [i64_id (by omega) (by omega)]; omega
    by_cases he : l[i].id = nd
    · have hf := findIdx_at hlt hno he
      have hsum : ((l[i]?).map (·.sum)).getD 0 = l[i].sum := by simp [hlt]
      rcases O with ⟨rfl, hx, rfl⟩ | ⟨b, cap, rfl, ro, rfl⟩
      · simp at hx; subst hx; simp at hlt
      · have ei : (l.map Seen.enc)[i]? = some (l[i]).enc := by simp [hlt]
        have r0 : ldS h1 (.pointer (some ⟨b, i * 2, none⟩)) = some (.int .i64 nd) := by rw [ro.one0 ei (by omega), ← he]; rfl
        have r1 : ldS h1 (.pointer (some ⟨b, i * 2 + 1, none⟩)) = some (.int .i64 l[i].sum) := by rw [ro.one ei (by omega)]; rfl
        by_cases hs : sum < l[i].sum
        · obtain ⟨h2, s2, ro2, f2, _⟩ := ro.put (i := i) (o := 1) (vs := [.int .i64 sum]) (v := .int .i64 sum) ei (by simp) (by simp) (by simp)
          have s2' : stE 1 h1 (.pointer (some ⟨b, i * 2 + 1, none⟩)) (.int .i64 sum) = some h2 := s2
          have e : sightL l nd sum = l.set i ⟨nd, sum⟩ := by simp only [sightL, hf, hsum, hs, if_true]
          have key := hR h2 (.slice (some ⟨b, 0, none⟩) (l.map Seen.enc).length cap) [b] (.inr ⟨b, cap, by rw [e]; simp, by rw [e, List.map_set]; simpa [Seen.enc, he] using ro2, rfl⟩) f2 (by simp)
          simpa [f74.J1, hdec, hlt, r0, r1, hs, s2'] using key
        · have e : sightL l nd sum = l := by simp only [sightL, hf, hsum, hs, if_false]
          have key := hR h1 (.slice (some ⟨b, 0, none⟩) (l.map Seen.enc).length cap) [b] (.inr ⟨b, cap, by rw [e], by rw [e]; exact ro, rfl⟩) (Fr.refl _ _) (by simp)
          simpa [f74.J1, hdec, hlt, r0, r1, hs] using key
    · obtain ⟨b, o, e, r0, _⟩ := seen_read r hlt
      have inv := NInv.next (h := h1) hlt hno he
      have mu := muI_lt h1 h1 hlt
      simp only [hdec, if_true, e, bnd_some, fldE_ptr, Nat.add_zero, r0, bin_eql, he, decide_false, condT_bool, Bool.false_eq_true, if_false, bin_add, w1]
      exact ⟨inv, mu⟩
  · have hdec : decide ((i : Int) < (l.length : Int)) = false := by simp; omega
    obtain rfl : i = l.length := by omega
    rw [List.take_length] at hno
    have hf := findIdx_none hno
    have e : sightL l nd sum = l ++ [⟨nd, sum⟩] := by simp only [sightL, hf]
    simp only [hdec, Bool.false_eq_true, if_false, fill_seen, bnd_some, fill_seen1, nw_eq]
    have f2 := Fr.push h1 (.cells #[.int .i64 nd, .int .i64 sum] 105 (0, 0)) []
    have e2 := get_new h1 (.cells #[.int .i64 nd, .int .i64 sum] 105 (0, 0))
    have seg : Seg (h1.push (.cells #[.int .i64 nd, .int .i64 sum] 105 (0, 0))) 2 h1.size 0 [(⟨nd, sum⟩ : Seen).enc] := by
      refine ⟨_, _, _, e2, by simp, by simp [Seen.enc], fun a j y hi hj => ?_⟩
      obtain rfl : a = 0 := by
        have := (List.getElem?_eq_some_iff.1 hi).1
        simpa using this
      obtain rfl : (⟨nd, sum⟩ : Seen).enc = y := by simpa using hi
      simp [Seen.enc]
    refine own_app (ys := [(⟨nd, sum⟩ : Seen).enc]) (cs := 1) elem98 (O.fr f2 (by simp)) seg (by simp [Seen.enc]) (by simp; omega) (by simp; omega) fun h3 v' bl' O3 f3 n3 => ?_
    refine hR h3 v' bl' (by rw [e]; simpa using O3) ((f2.mono (by simp)).then f3) fun b hb => (n3 b hb).imp id (fun h => by simp at h; omega)
end Go.Proofs.YtkiakofohkecaaaDoor

/- The reference's next: the least one in sight. No condition but that the list is read in memory as told. -/
namespace Go.Proofs.YtkiakofohkecaaaDoor
open Go Go.Fw

def lessS (a b : Seen) : Bool := decide (a.sum < b.sum) || (decide (a.sum = b.sum) && decide (a.id < b.id))
instance : Inhabited Seen := ⟨⟨0, 0⟩⟩
def snth (l : List Seen) (k : Nat) : Seen := l.getD k default
theorem snth_get {l : List Seen} {k : Nat} (h : k < l.length) : snth l k = l[k] := by simp [snth, h]

/-- k is a least one of the things before n. -/
def LeastTo (l : List Seen) (n k : Nat) : Prop := k < n ∧ ∀ j, j < n → lessS (snth l j) (snth l k) = false
def XInv (l : List Seen) (h : Hp) (vs : List Value) (h' : Hp) : Prop := ∃ k i : Nat, vs = [.int .i64 k, .int .i64 i] ∧ i ≤ l.length ∧ LeastTo l i k ∧ h' = h
def muF (n : Nat) (l : List Value) (_ : Hp) : Nat := match l with | [_, .int _ m] => n - m.toNat | _ => 0

theorem next_spec {h : Hp} {v : Value} {l : List Seen} (r : RowV h 2 v (l.map Seen.enc)) (h0 : 0 < l.length) (hn : l.length ≤ 1099511627776) {R : Value → Hp → Prop} (hR : ∀ k : Nat, LeastTo l l.length k → R (.int .i64 k) h) : CallsH Tryd.prog 75 #[v] h R := by
  have rd : ∀ j : Nat, j < l.length → ∃ b o, idxE 2 v (.int .i64 (j : Int)) = some (.pointer (some ⟨b, o, none⟩)) ∧ ldS h (.pointer (some ⟨b, o, none⟩)) = some (.int .i64 (snth l j).id) ∧ ldS h (.pointer (some ⟨b, o + 1, none⟩)) = some (.int .i64 (snth l j).sum) := fun j hj => by
    obtain ⟨b, o, e, r0, r1⟩ := seen_read r hj
    exact ⟨b, o, e, by rw [snth_get hj]; exact r0, by rw [snth_get hj]; exact r1⟩
  refine f75.ok ?_
  unfold f75.T f75.L1
  have l0 : LeastTo l 1 0 := by
    refine ⟨by omega, fun j hj => ?_⟩
    obtain rfl : j = 0 := by omega
    simp [lessS]
  refine ⟨XInv l h, muF l.length, ⟨0, 1, rfl, by omega, l0, rfl⟩, ?_⟩
  intro t5 t6 t7 t8 t11 t12 t13 t14 t15 t16 t17 t18 t19 t20 t21 t22 t23 t24 t25 t26 t27 t28 t29 t30 t31 t32 t33 t34 t35 t36 t37 t38 t39 t40 t41 t42 t43 t44 t45 t46 t47 t48 t3 t9 t10 t4 h1
  rintro ⟨k, i, hl, hi, hF, rfl⟩
  obtain ⟨rfl, rfl⟩ : t3 = .int .i64 k ∧ t4 = .int .i64 i := by simpa using hl
  simp only [seen_len r, bin_lss, bnd_some, condT_bool]
  by_cases hlt : i < l.length
  · have hdec : decide ((i : Int) < (l.length : Int)) = true := by simp; omega
    have w1 : IntKind.i64.wrap ((i : Int) + 1) = ((i + 1 : Nat) : Int) := by rw [i64_id (by omega) (by omega)]; omega
    have nxt : ∀ k' : Nat, LeastTo l (i + 1) k' → f75.J1 (.int .i64 (i : Int)) (XInv l h1) (.int .i64 (k' : Int)) h1 (muF l.length) (.int .i64 (k : Int)) h1 := fun k' hF' => by
      unfold f75.J1
      simp only [bin_add, bnd_some, w1]
      exact ⟨⟨k', i + 1, rfl, by omega, hF', rfl⟩, by simp only [muF, Int.toNat_natCast]; omega⟩
    obtain ⟨bi, oi, ei, ri0, ri1⟩ := rd i hlt
    obtain ⟨bk, ok, ek, rk0, rk1⟩ := rd k (by have := hF.1; omega)
    obtain ⟨hk, hmin⟩ := hF
    have yes : lessS (snth l i) (snth l k) = true → LeastTo l (i + 1) i := fun hb => ⟨by omega, fun j hj => by
      by_cases e : j = i
      · subst e; simp [lessS]
      · have := hmin j (by omega)
        simp [lessS] at hb this ⊢
        omega⟩
    have no : lessS (snth l i) (snth l k) = false → LeastTo l (i + 1) k := fun hb => ⟨by omega, fun j hj => by
      by_cases e : j = i
      · subst e; exact hb
      · exact hmin j (by omega)⟩
    generalize hsi : snth l i = si at *
    generalize hsk : snth l k = sk at *
    by_cases h1 : si.sum < sk.sum
    · have := nxt _ (yes (by simp [lessS, h1]))
      simpa [hdec, hlt, ei, ek, ri1, rk1, h1, isB_undef] using this
    · by_cases h2 : si.sum = sk.sum
      · by_cases h3 : si.id < sk.id
        · have := nxt _ (yes (by simp [lessS, h2, h3]))
          simpa [hdec, hlt, ei, ek, ri1, rk1, ri0, rk0, h2, h3, isB_undef] using this
        · have := nxt _ (no (by simp [lessS, h2]; omega))
          simpa [hdec, hlt, ei, ek, ri1, rk1, ri0, rk0, h2, h3, isB_undef] using this
      · have := nxt _ (no (by simp [lessS, h1, h2]))
        simpa [hdec, hlt, ei, ek, ri1, rk1, h1, h2, isB_undef] using this
  · have hdec : decide ((i : Int) < (l.length : Int)) = false := by simp; omega
    obtain rfl : i = l.length := by omega
    simp only [hdec, Bool.false_eq_true, if_false]
    exact hR k hF
end Go.Proofs.YtkiakofohkecaaaDoor

/- What the rows answer for a node. No condition but that the rows are read in memory as told. -/
namespace Go.Proofs.YtkiakofohkecaaaDoor
open Go Go.Fw

structure Arc where
  edge : Int
  to : Int
  weight : Int
def Arc.enc (a : Arc) : List Value := [.int .i64 a.edge, .int .i64 a.to, .int .i64 a.weight]
structure NRow where
  id : Int
  v : Value
  arcs : List Arc
  code : Int
def NRow.enc (r : NRow) : List Value := [.int .i64 r.id, r.v, .int .i64 r.code]
/-- The rows, as they lie in memory. -/
structure NetOk (h : Hp) (v : Value) (rs : List NRow) : Prop where
  rows : RowV h 3 v (rs.map NRow.enc)
  arcs : ∀ r ∈ rs, RowV h 3 r.v (r.arcs.map Arc.enc)
  bound : rs.length ≤ 1048576
  each : ∀ r ∈ rs, r.arcs.length ≤ 1048576
theorem RowV.one {h : Hp} {k : Nat} {v : Value} {xs : List (List Value)} (r : RowV h k v xs) : v.oneCell' = true := by
  obtain ⟨a, cap, rfl, _⟩ := r; rfl
theorem NetOk.fr {h h' : Hp} {v : Value} {rows : List NRow} (o : NetOk h v rows) (f : Fr h h' []) : NetOk h' v rows := ⟨o.rows.fr f, fun r hr => (o.arcs r hr).fr f, o.bound, o.each⟩

/-- What is answered for a node. -/
def ofL (rows : List NRow) (tail : Bool) (id : Int) : List Arc × Int :=
  match rows.find? (fun r => r.id == id) with
  | some r => if r.code = 0 then (r.arcs, 0) else ([], r.code)
  | none => if tail then ([⟨id, IntKind.i64.wrap (id + 1), 1⟩], 0) else ([], 0)

def RInv (rows : List NRow) (t : Int) (h : Hp) (vs : List Value) (h' : Hp) : Prop := ∃ i : Nat, vs = [.int .i64 i] ∧ i ≤ rows.length ∧ (∀ s ∈ rows.take i, s.id ≠ t) ∧ h' = h
theorem RInv.next {l : List NRow} {t : Int} {h : Hp} {i : Nat} (hi : i < l.length) (h1 : ∀ s ∈ l.take i, s.id ≠ t) (h2 : l[i].id ≠ t) : RInv l t h [.int .i64 ((i + 1 : Nat) : Int)] h := by
  refine ⟨i + 1, rfl, by omega, fun s hs => ?_, rfl⟩
  rw [List.take_add_one] at hs
  rcases List.mem_append.1 hs with hs | hs
  · exact h1 s hs
  · simp [hi] at hs
    subst hs
    exact h2
theorem find_at {l : List NRow} {t : Int} {i : Nat} (hi : i < l.length) (hno : ∀ s ∈ l.take i, s.id ≠ t) (he : l[i].id = t) : l.find? (fun s => s.id == t) = some l[i] := by
  generalize hx : l[i] = x at he
  have e : l = l.take i ++ (x :: l.drop (i + 1)) := by rw [← hx, ← List.drop_eq_getElem_cons hi, List.take_append_drop]
  have hn : (l.take i).find? (fun s => s.id == t) = none := List.find?_eq_none.2 fun s hs => by simpa using hno s hs
  have e3 : (l.take i ++ (x :: l.drop (i + 1))).find? (fun s => s.id == t) = some x := by
    rw [List.find?_append, hn]; simp [he]
  rwa [← e] at e3
theorem fill_arc (a b c : Int) : (fillS [(0, 1), (1, 1), (2, 1)] #[(.int .i64 0), (.int .i64 0), (.int .i64 0)] [(0, .int .i64 a), (1, .int .i64 b), (2, .int .i64 c)]).map Value.agg = some (.agg #[.int .i64 a, .int .i64 b, .int .i64 c]) := by kernel_rfl
theorem fill_arc1 (a b c : Int) : fillR 3 #[(.int .i64 0), (.int .i64 0), (.int .i64 0)] [(0, .agg #[.int .i64 a, .int .i64 b, .int .i64 c])] = some #[.int .i64 a, .int .i64 b, .int .i64 c] := by kernel_rfl

theorem of_spec {h : Hp} {v : Value} {rows : List NRow} {tail : Bool} (o : NetOk h v rows) (id : Int) {R : Value → Hp → Prop} (hR : ∀ h' v', RowV h' 3 v' ((ofL rows tail id).1.map Arc.enc) → Fr h h' [] → R (.tuple #[v', .int .i64 (ofL rows tail id).2]) h') :
    CallsH Tryd.prog 32 #[.agg #[v, .bool tail], .int .i64 id] h R := by
  refine f32.ok ?_
  unfold f32.T
  simp only [nw_eq, cells_agg, ptr0_eq]
  have f1 := Fr.push h (.cells #[v, .bool tail] 26 (0, 0)) []
  have g1 := get_new h (.cells #[v, .bool tail] 26 (0, 0))
  generalize h.push (.cells #[v, .bool tail] 26 (0, 0)) = hb at *
  generalize h.size = q at *
  have o1 := o.fr f1
  have hlen : lenE v = some (.int .i64 rows.length) := by obtain ⟨a, cap, rfl, _⟩ := o.rows; simp
  have hbd := o.bound
  unfold f32.L1
  refine ⟨RInv rows id hb, muI rows.length, ⟨0, rfl, by omega, by simp, rfl⟩, ?_⟩
  intro t7 t8 t9 t10 t11 t14 t15 t16 t17 t18 t19 t20 t21 t22 t23 t24 t25 t26 t27 t28 t29 t30 t31 t32 t33 t34 t35 t36 t37 t38 t39 t40 t4 t5 t12 t13 t6 h2
  rintro ⟨i, hl, hi, hno, rfl⟩
  obtain rfl : t6 = .int .i64 i := by simpa using hl
  simp only [fldE_ptr, bnd_some, ldS_at g1, Nat.zero_add, List.getElem?_toArray, List.getElem?_cons_succ, List.getElem?_cons_zero, hlen, bin_lss, condT_bool]
  by_cases hlt : i < rows.length
  · have hdec : decide ((i : Int) < (rows.length : Int)) = true := by simp; omega
    have w1 : IntKind.i64.wrap ((i : Int) + 1) = ((i + 1 : Nat) : Int) := by rw [i64_id (by omega) (by omega)]; omega
    obtain ⟨eb, eo, ee, _, er⟩ := o1.rows.get (i := i) (x := (rows[i]).enc) (by simp [hlt]) .i64
    have er' := (er h2 (Fr.refl _ _)).1
    have r0 : ldS h2 (.pointer (some ⟨eb, eo + 0, none⟩)) = some (.int .i64 rows[i].id) := er' 0 (by omega)
    have r1 : ldS h2 (.pointer (some ⟨eb, eo + 1, none⟩)) = some rows[i].v := er' 1 (by omega)
    have r2 : ldS h2 (.pointer (some ⟨eb, eo + 2, none⟩)) = some (.int .i64 rows[i].code) := er' 2 (by omega)
    by_cases he : rows[i].id = id
    · have hf := find_at hlt hno he
      by_cases hc : rows[i].code = 0
      · have e : ofL rows tail id = (rows[i].arcs, 0) := by simp only [ofL, hf, hc, if_true]
        rw [e] at hR
        have := hR h2 rows[i].v (o1.arcs _ (by simp)) f1
        simp only [hdec, if_true, ee, bnd_some, fldE_ptr, r0, bin_eql, he, decide_true, condT_bool, r2, bin_neq, hc, ne_eq, not_true_eq_false, decide_false, Bool.false_eq_true, if_false, r1]
        exact this
      · have e : ofL rows tail id = ([], rows[i].code) := by simp only [ofL, hf, hc, if_false]
        rw [e] at hR
        have := hR h2 (.slice none 0 0) ⟨none, 0, rfl, fun h => absurd rfl h⟩ f1
        simp only [hdec, if_true, ee, bnd_some, fldE_ptr, r0, bin_eql, he, decide_true, condT_bool, r2, bin_neq, hc, ne_eq, not_false_eq_true]
        exact this
    · have inv := RInv.next (h := h2) hlt hno he
      have mu := muI_lt h2 h2 hlt
      simp only [hdec, if_true, ee, bnd_some, fldE_ptr, r0, bin_eql, he, decide_false, condT_bool, Bool.false_eq_true, if_false, bin_add, w1]
      exact ⟨inv, mu⟩
  · have hdec : decide ((i : Int) < (rows.length : Int)) = false := by simp; omega
    obtain rfl : i = rows.length := by omega
    rw [List.take_length] at hno
    have hf : rows.find? (fun s => s.id == id) = none := List.find?_eq_none.2 fun s hs => by simpa using hno s hs
    simp only [hdec, Bool.false_eq_true, if_false]
    cases tail
    · have e : ofL rows false id = ([], 0) := by simp [ofL, hf]
      rw [e] at hR
      simp only [Bool.false_eq_true, if_false]
      exact hR h2 (.slice none 0 0) ⟨none, 0, rfl, fun h => absurd rfl h⟩ f1
    · have e : ofL rows true id = ([⟨id, IntKind.i64.wrap (id + 1), 1⟩], 0) := by simp [ofL, hf]
      rw [e] at hR
      simp only [if_true, bin_add, bnd_some, fill_arc, fill_arc1, nw_eq]
      have f2 := Fr.push h2 (.cells #[.int .i64 id, .int .i64 (IntKind.i64.wrap (id + 1)), .int .i64 1] 62 (0, 0)) []
      have e2 := get_new h2 (.cells #[.int .i64 id, .int .i64 (IntKind.i64.wrap (id + 1)), .int .i64 1] 62 (0, 0))
      refine hR _ (.slice (some ⟨h2.size, 0, none⟩) 1 1) ⟨_, 1, rfl, fun _ => ⟨h2.size, 0, rfl, _, _, _, e2, by simp, by simp [Arc.enc], fun a j y hi hj => ?_⟩⟩ (f1.then f2)
      obtain rfl : a = 0 := by
        have := (List.getElem?_eq_some_iff.1 hi).1
        simpa using this
      obtain rfl : (⟨id, IntKind.i64.wrap (id + 1), 1⟩ : Arc).enc = y := by simpa using hi
      simp [Arc.enc]
end Go.Proofs.YtkiakofohkecaaaDoor
