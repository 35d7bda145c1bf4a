/- The framework, part 10: rules by which the formulas are reckoned. No condition. -/
import Derived.Test.YtkiakofohkecaaaDoorFw9
namespace Go.Fw
open Go

/-! ## the simp rules -/
@[simp] theorem bnd_some {α : Type} (a : α) (K : α → Prop) : bnd (some a) K ↔ K a := ⟨fun ⟨_, e, k⟩ => by cases e; exact k, fun k => ⟨a, rfl, k⟩⟩
@[simp] theorem bnd_none {α : Type} (K : α → Prop) : bnd (none : Option α) K ↔ False := ⟨fun ⟨_, e, _⟩ => by simp at e, False.elim⟩
@[simp] theorem bnd_ite {α : Type} (c : Prop) [Decidable c] (a : α) (K : α → Prop) : bnd (if c then some a else none) K ↔ c ∧ K a := by
  by_cases h : c <;> simp [h]
@[simp] theorem nw_eq (h : Hp) (c : Array Value) (E : TypeId) (mk : Nat → Value) (K : Value → Hp → Prop) : nw h c E mk K ↔ K (mk h.size) (h.push (.cells c E (0, 0))) := Iff.rfl
@[simp] theorem nwM_eq (h : Hp) (K : Value → Hp → Prop) : nwM h K ↔ K (.map (some h.size)) (h.push (.map #[] 0)) := Iff.rfl
@[simp] theorem ptr0_eq (b : Nat) : ptr0 b = .pointer (some ⟨b, 0, none⟩) := rfl
@[simp] theorem condT_bool (b : Bool) (p q : Prop) : condT (.bool b) p q ↔ (if b = true then p else q) := by cases b <;> simp [condT]
@[simp] theorem isB_bool (a b : Bool) : isB (.bool a) b = (a == b) := rfl
@[simp] theorem asB_bool (b : Bool) : asB (.bool b) = some b := rfl
@[simp] theorem guardT_true (F : (Value → Hp → Prop) → Prop) (h : Hp) (K : Value → Hp → Prop) : guardT true F h K ↔ F K := by simp [guardT]
@[simp] theorem guardT_false (F : (Value → Hp → Prop) → Prop) (h : Hp) (K : Value → Hp → Prop) : guardT false F h K ↔ K undef h := by simp [guardT]
@[simp] theorem nilE_ptr (a : Addr) : nilE (.pointer (some a)) = some (.pointer (some a)) := rfl
@[simp] theorem nilE_none : nilE (.pointer none) = none := rfl
@[simp] theorem nilE_func (f : FuncId) (a b : Array Value) : nilE (.func (.func f) a b) = some (.func (.func f) a b) := rfl
@[simp] theorem nilE_iface (t : TypeId) (v : Value) : nilE (.iface t v) = some (.iface t v) := rfl
@[simp] theorem fldE_ptr (off b o : Nat) : fldE off (.pointer (some ⟨b, o, none⟩)) = some (.pointer (some ⟨b, o + off, none⟩)) := rfl
@[simp] theorem idxE_sl (sz b o len cap : Nat) (k : IntKind) (n : Int) : idxE sz (.slice (some ⟨b, o, none⟩) len cap) (.int k n) = if 0 ≤ n ∧ n < len then some (.pointer (some ⟨b, o + n.toNat * sz, none⟩)) else none := rfl
@[simp] theorem idxE_nil (sz len cap : Nat) (v : Value) : idxE sz (.slice none len cap) v = none := rfl
@[simp] theorem idxA_ptr (len sz b o : Nat) (k : IntKind) (n : Int) : idxA len sz (.pointer (some ⟨b, o, none⟩)) (.int k n) = if 0 ≤ n ∧ n < len then some (.pointer (some ⟨b, o + n.toNat * sz, none⟩)) else none := rfl
@[simp] theorem idxV_agg (kd : Option Nat) (len n : Nat) (cs : Array Value) (k : IntKind) (i : Int) : idxV kd len n (.agg cs) (.int k i) = if 0 ≤ i ∧ i < len then partE kd (i.toNat * n) cs else none := rfl
@[simp] theorem partE_none (off : Nat) (cs : Array Value) : partE none off cs = cs[off]? := rfl
@[simp] theorem partE_some (n off : Nat) (cs : Array Value) : partE (some n) off cs = some (.agg (cs.extract off (off + n))) := rfl
@[simp] theorem fieldE_agg (k : Option Nat) (off : Nat) (cs : Array Value) : fieldE k off (.agg cs) = partE k off cs := rfl
@[simp] theorem extE_tuple (i : Nat) (vs : Array Value) : extE i (.tuple vs) = vs[i]? := rfl
@[simp] theorem lenE_sl (a : Option Addr) (n c : Nat) : lenE (.slice a n c) = some (.int .i64 n) := rfl
@[simp] theorem lenS_str (s : ByteArray) : lenS (.string s) = some (.int .i64 s.size) := rfl
@[simp] theorem goInt_eq (n : Int) : goInt n = .int .i64 n := rfl
@[simp] theorem cvI_int (k k' : IntKind) (n : Int) : cvI k (.int k' n) = some (.int k (k.wrap n)) := rfl
@[simp] theorem unE_not (b : Bool) : unE .not (.bool b) = some (.bool !b) := rfl
@[simp] theorem unE_neg (k : IntKind) (n : Int) : unE .neg (.int k n) = some (.int k (k.wrap (0 - n))) := rfl
@[simp] theorem cells_agg (c : Array Value) : (Value.agg c).cells = c := rfl
@[simp] theorem cells_int (k : IntKind) (n : Int) : (Value.int k n).cells = #[.int k n] := rfl
@[simp] theorem cells_bool (b : Bool) : (Value.bool b).cells = #[.bool b] := rfl
@[simp] theorem cells_str (s : ByteArray) : (Value.string s).cells = #[.string s] := rfl
@[simp] theorem cells_ptr (a : Option Addr) : (Value.pointer a).cells = #[.pointer a] := rfl
@[simp] theorem cells_slice (a : Option Addr) (n c : Nat) : (Value.slice a n c).cells = #[.slice a n c] := rfl
@[simp] theorem cells_map (a : Option Nat) : (Value.map a).cells = #[.map a] := rfl
@[simp] theorem cells_func (f : Fn) (a b : Array Value) : (Value.func f a b).cells = #[.func f a b] := rfl
@[simp] theorem cells_nilFunc : Value.nilFunc.cells = #[.nilFunc] := rfl
@[simp] theorem cells_iface (t : TypeId) (v : Value) : (Value.iface t v).cells = #[.iface t v] := rfl
@[simp] theorem cells_nilIface : Value.nilIface.cells = #[.nilIface] := rfl

section
variable (k : IntKind) (a b : Int)
@[simp] theorem bin_add : binE .add (.int k a) (.int k b) = some (.int k (k.wrap (a + b))) := by simp [binE, intE]
@[simp] theorem bin_sub : binE .sub (.int k a) (.int k b) = some (.int k (k.wrap (a - b))) := by simp [binE, intE]
@[simp] theorem bin_mul : binE .mul (.int k a) (.int k b) = some (.int k (k.wrap (a * b))) := by simp [binE, intE]
@[simp] theorem bin_quo : binE .quo (.int k a) (.int k b) = if b = 0 then none else some (.int k (k.wrap (a.tdiv b))) := by simp [binE, intE]
@[simp] theorem bin_rem : binE .rem (.int k a) (.int k b) = if b = 0 then none else some (.int k (a.tmod b)) := by simp [binE, intE]
@[simp] theorem bin_eql : binE .eql (.int k a) (.int k b) = some (.bool (decide (a = b))) := by
  have e : (a == b) = decide (a = b) := by by_cases h : a = b <;> simp [h]
  simp [binE, intE, e]
@[simp] theorem bin_neq : binE .neq (.int k a) (.int k b) = some (.bool (decide (a ≠ b))) := by simp [binE, intE]; rfl
@[simp] theorem bin_lss : binE .lss (.int k a) (.int k b) = some (.bool (decide (a < b))) := by simp [binE, intE]
@[simp] theorem bin_leq : binE .leq (.int k a) (.int k b) = some (.bool (decide (a ≤ b))) := by simp [binE, intE]
@[simp] theorem bin_gtr : binE .gtr (.int k a) (.int k b) = some (.bool (decide (a > b))) := by simp [binE, intE]
@[simp] theorem bin_geq : binE .geq (.int k a) (.int k b) = some (.bool (decide (a ≥ b))) := by simp [binE, intE]
end
@[simp] theorem binB_eql (a b : Bool) : binB .eql (.bool a) (.bool b) = some (.bool (a == b)) := rfl
@[simp] theorem binB_neq (a b : Bool) : binB .neq (.bool a) (.bool b) = some (.bool !(a == b)) := rfl
@[simp] theorem nil_p_some (a : Addr) : nilBin .p .eql (.pointer (some a)) (.pointer none) = some (.bool false) := rfl
@[simp] theorem nil_p_none : nilBin .p .eql (.pointer none) (.pointer none) = some (.bool true) := rfl
@[simp] theorem niln_p_some (a : Addr) : nilBin .p .neq (.pointer (some a)) (.pointer none) = some (.bool true) := rfl
@[simp] theorem niln_p_none : nilBin .p .neq (.pointer none) (.pointer none) = some (.bool false) := rfl
@[simp] theorem nil_f_some (f : Fn) (a b : Array Value) : nilBin .f .eql (.func f a b) .nilFunc = some (.bool false) := rfl
@[simp] theorem nil_f_none : nilBin .f .eql .nilFunc .nilFunc = some (.bool true) := rfl

/-! the heap -/
theorem ldS_at {h : Hp} {b o : Nat} {c : Array Value} {E : TypeId} {f : Nat × Nat} (hb : h[b]? = some (.cells c E f)) : ldS h (.pointer (some ⟨b, o, none⟩)) = c[o]? := by simp [ldS, hb]
theorem ldA_at {n : Nat} {h : Hp} {b o : Nat} {c : Array Value} {E : TypeId} {f : Nat × Nat} (hb : h[b]? = some (.cells c E f)) : ldA n h (.pointer (some ⟨b, o, none⟩)) = if o + n ≤ c.size then some (.agg (c.extract o (o + n))) else none := by simp [ldA, hb]
theorem ldS_ptr (h : Hp) (b o : Nat) : ldS h (.pointer (some ⟨b, o, none⟩)) = match h[b]? with | some (.cells c _ _) => c[o]? | _ => none := rfl
theorem ldA_ptr (n : Nat) (h : Hp) (b o : Nat) : ldA n h (.pointer (some ⟨b, o, none⟩)) = match h[b]? with | some (.cells c _ _) => if o + n ≤ c.size then some (.agg (c.extract o (o + n))) else none | _ => none := rfl
theorem stE_at {n : Nat} {h : Hp} {b o : Nat} {c : Array Value} {E : TypeId} (v : Value) (hb : h[b]? = some (.cells c E (0, 0))) :
    stE n h (.pointer (some ⟨b, o, none⟩)) v = if v.cells.size = n ∧ o + n ≤ c.size ∧ v.cells.toList.all Value.oneCell' = true then some (h.setIfInBounds b (.cells (splice c o v.cells.toList) E (0, 0))) else none := by simp [stE, hb]
theorem stE_ptr (n : Nat) (h : Hp) (b o : Nat) (v : Value) : stE n h (.pointer (some ⟨b, o, none⟩)) v = match h[b]? with
    | some (.cells c E (0, 0)) => if v.cells.size = n ∧ o + n ≤ c.size ∧ v.cells.toList.all Value.oneCell' = true then some (h.setIfInBounds b (.cells (splice c o v.cells.toList) E (0, 0))) else none
    | _ => none := rfl
@[simp] theorem one_int (k : IntKind) (n : Int) : (Value.int k n).oneCell' = true := rfl
@[simp] theorem one_bool (b : Bool) : (Value.bool b).oneCell' = true := rfl
@[simp] theorem one_str (s : ByteArray) : (Value.string s).oneCell' = true := rfl
@[simp] theorem one_ptr (a : Option Addr) : (Value.pointer a).oneCell' = true := rfl
@[simp] theorem one_slice (a : Option Addr) (n c : Nat) : (Value.slice a n c).oneCell' = true := rfl
@[simp] theorem one_map (a : Option Nat) : (Value.map a).oneCell' = true := rfl
@[simp] theorem one_func (f : Fn) (a b : Array Value) : (Value.func f a b).oneCell' = true := rfl
@[simp] theorem one_nilFunc : Value.nilFunc.oneCell' = true := rfl
@[simp] theorem one_iface (t : TypeId) (v : Value) : (Value.iface t v).oneCell' = true := rfl
@[simp] theorem one_nilIface : Value.nilIface.oneCell' = true := rfl

theorem eq_size_false {b n : Nat} (h : b < n) : (b = n) = False := by simp; omega
theorem eq_size_false' {b n : Nat} (h : b < n) : (n = b) = False := by simp; omega
theorem eq_add_false {b n k : Nat} (h : b < n) : (b = n + k) = False := by simp; omega
theorem eq_add_false' {b n k : Nat} (h : b < n) : (n + k = b) = False := by simp; omega
theorem lt_add_true {b n k : Nat} (h : b < n) : (b < n + k) = True := by simp; omega

/-! ## what is left alone -/
/-- Which of a block's bytes are frozen. -/
def frz : Option Obj → Nat × Nat
  | some (.cells _ _ f) => f
  | _ => (0, 0)
/-- All blocks of h but those listed are as they were; none has been frozen or thawed. -/
structure Fr (h h' : Hp) (S : List Nat) : Prop where
  size : h.size ≤ h'.size
  keep : ∀ c, c < h.size → c ∉ S → h'[c]? = h[c]?
  fz : ∀ c : Nat, frz h'[c]? = frz h[c]?

theorem Fr.refl (h : Hp) (S : List Nat) : Fr h h S := ⟨Nat.le_refl _, fun _ _ _ => rfl, fun _ => rfl⟩
theorem Fr.trans {h h1 h2 : Hp} {S S1 S2 : List Nat} (a : Fr h h1 S1) (b : Fr h1 h2 S2) (s1 : ∀ c, c < h.size → c ∈ S1 → c ∈ S) (s2 : ∀ c, c < h.size → c ∈ S2 → c ∈ S) : Fr h h2 S :=
  ⟨Nat.le_trans a.size b.size, fun c hc hS => (b.keep c (Nat.lt_of_lt_of_le hc a.size) fun hm => hS (s2 c hc hm)).trans (a.keep c hc fun hm => hS (s1 c hc hm)), fun c => (b.fz c).trans (a.fz c)⟩
theorem Fr.then {h h1 h2 : Hp} {S : List Nat} (a : Fr h h1 S) (b : Fr h1 h2 S) : Fr h h2 S := a.trans b (fun _ _ h => h) (fun _ _ h => h)
theorem Fr.push (h : Hp) (o : Obj) (S : List Nat) (ho : frz (some o) = (0, 0) := by rfl) : Fr h (h.push o) S := ⟨by simp, fun c hc _ => by rw [Array.getElem?_push, if_neg (by omega)], fun c => by
  rw [Array.getElem?_push]
  split
  · rename_i e; subst e; rw [ho]; simp [frz]
  · rfl⟩
theorem Fr.set (h : Hp) (b : Nat) (o : Obj) {S : List Nat} (hb : b < h.size → b ∈ S) (ho : frz (some o) = frz h[b]?) : Fr h (h.setIfInBounds b o) S := ⟨by simp, fun c hc hS => by
  by_cases e : b = c
  · subst e; exact absurd (hb hc) hS
  · rw [Array.getElem?_setIfInBounds_ne e], fun c => by
  by_cases e : b = c
  · subst e
    by_cases hb2 : b < h.size
    · rw [Array.getElem?_setIfInBounds_self_of_lt hb2, ho]
    · rw [Array.getElem?_eq_none (by simp; omega), Array.getElem?_eq_none (by omega)]
  · rw [Array.getElem?_setIfInBounds_ne e]⟩
theorem Fr.new {h h' : Hp} {S : List Nat} (f : Fr h h' S) (o : Obj) (ho : frz (some o) = (0, 0) := by rfl) : Fr h (h'.push o) S := f.trans (Fr.push h' o S ho) (fun _ _ h => h) (fun _ _ h => h)
theorem Fr.set_new {h h' : Hp} {S : List Nat} (f : Fr h h' S) {n : Nat} (hn : h.size ≤ n) (o : Obj) (ho : frz (some o) = (0, 0) := by rfl) : Fr h (h'.setIfInBounds n o) S :=
  ⟨by simpa using f.size, fun c hc hS => by rw [Array.getElem?_setIfInBounds_ne (by omega)]; exact f.keep c hc hS, fun c => by
    by_cases e : n = c
    · subst e
      by_cases hb2 : n < h'.size
      · rw [Array.getElem?_setIfInBounds_self_of_lt hb2, ho, Array.getElem?_eq_none hn]; rfl
      · rw [Array.getElem?_eq_none (by simp; omega), Array.getElem?_eq_none hn]
    · rw [Array.getElem?_setIfInBounds_ne e]; exact f.fz c⟩
theorem Fr.set_in {h h' : Hp} {S : List Nat} (f : Fr h h' S) {n : Nat} (hn : n ∈ S) (o : Obj) (ho : frz (some o) = frz h'[n]?) : Fr h (h'.setIfInBounds n o) S :=
  f.trans (Fr.set h' n o (S := S) (fun _ => hn) ho) (fun _ _ h => h) (fun _ _ h => h)
theorem Fr.get {h h' : Hp} {S : List Nat} (a : Fr h h' S) {b : Nat} {o : Obj} (hb : h[b]? = some o) (hS : b ∉ S) : h'[b]? = some o :=
  (a.keep b (Array.getElem?_eq_some_iff.1 hb).1 hS).trans hb
theorem Fr.mono {h h' : Hp} {S S' : List Nat} (a : Fr h h' S) (s : ∀ c, c < h.size → c ∈ S → c ∈ S') : Fr h h' S' := ⟨a.size, fun c hc hS => a.keep c hc fun hm => hS (s c hc hm), a.fz⟩
theorem lt_of_get {h : Hp} {b : Nat} {o : Obj} (hb : h[b]? = some o) : b < h.size := (Array.getElem?_eq_some_iff.1 hb).1
theorem get_push {h : Hp} {b : Nat} {o o' : Obj} (hb : h[b]? = some o) : (h.push o')[b]? = some o := by
  have := lt_of_get hb
  rw [Array.getElem?_push, if_neg (by omega)]; exact hb
theorem get_new (h : Hp) (o : Obj) : (h.push o)[h.size]? = some o := by simp
theorem get_set {h : Hp} {b : Nat} {o o' : Obj} (hb : h[b]? = some o) : (h.setIfInBounds b o')[b]? = some o' := by simp [lt_of_get hb]
theorem get_set_ne {h : Hp} {b c : Nat} {o o' : Obj} (hb : h[b]? = some o) (hne : c ≠ b) : (h.setIfInBounds c o')[b]? = some o := by rw [Array.getElem?_setIfInBounds_ne hne]; exact hb

end Go.Fw
