/- What the laws on heaps share: the orders, a new heap, the frame. No condition. -/
import Derived.Test.YtkiakofohkecaaaHx7
namespace Go.Proofs.Ytkiakofohkecaaa
open Go Go.Fw

theorem HeapE.fr {h h' : Hp} {p : Nat} {less : Value} {its : List Item} {ck : Int} {bl S : List Nat} (H : HeapE h p less its ck bl) (f : Fr h h' S) (hp : p ∉ S) (hb : ∀ b ∈ bl, b ∉ S) : HeapE h' p less its ck bl := by
  rcases H with ⟨rfl, rfl, top⟩ | ⟨b, cap, rfl, H⟩
  · exact .inl ⟨rfl, rfl, f.get top hp⟩
  · exact .inr ⟨b, cap, rfl, f.get H.top hp, H.row.fr f (hb b (by simp)), H.ne⟩
theorem HeapE.lt {h : Hp} {p : Nat} {less : Value} {its : List Item} {ck : Int} {bl : List Nat} (H : HeapE h p less its ck bl) : p < h.size ∧ ∀ b ∈ bl, b < h.size ∧ b ≠ p := by
  rcases H with ⟨rfl, rfl, top⟩ | ⟨b, cap, rfl, H⟩
  · exact ⟨lt_of_get top, by simp⟩
  · refine ⟨lt_of_get H.top, fun c hc => ?_⟩
    obtain rfl : c = b := by simpa using hc
    exact ⟨H.row.lt, H.ne.symm⟩

def ltUp (a b : Item) : Bool := decide (a.key < b.key)
def ltDown (a b : Item) : Bool := decide (a.key > b.key)
theorem ord_up : Ord (aheadB ltUp) := ⟨fun a b c h1 h2 => by simp [aheadB, ltUp] at *; omega, fun a b h => by simp [aheadB, ltUp] at *; omega⟩
theorem ord_down : Ord (aheadB ltDown) := ⟨fun a b c h1 h2 => by simp [aheadB, ltDown] at *; omega, fun a b h => by simp [aheadB, ltDown] at *; omega⟩

theorem two_boxes (h : Hp) (c d : Array Value) : let h2 := (h.push (.cells c 26 (0, 0))).push (.cells d 26 (0, 0)); Fr h h2 [] ∧ h2[h.size]? = some (.cells c 26 (0, 0)) ∧ h2[h.size + 1]? = some (.cells d 26 (0, 0)) := by
  refine ⟨(Fr.push h _ []).new _, get_push (get_new h _), ?_⟩
  have := get_new (h.push (.cells c 26 (0, 0))) (.cells d 26 (0, 0))
  rwa [Array.size_push] at this

theorem lessOk13 : LessOk [] (.func (.func 13) #[] #[]) ltUp := ⟨rfl, rfl, fun h a b K _ hK => by
  obtain ⟨f, e1, e2⟩ := two_boxes h #[.int .i64 a.key, .int .i64 a.tag] #[.int .i64 b.key, .int .i64 b.tag]
  have e : okF Try.prog 13 = true := by kernel_rfl
  simp only [callV, e]
  refine f13.ok (t0 := .agg #[.int .i64 a.key, .int .i64 a.tag]) (t1 := .agg #[.int .i64 b.key, .int .i64 b.tag]) ?_
  unfold f13.T
  simp [ldS_at e1, ldS_at e2]
  exact hK _ f⟩
theorem lessOk7 : LessOk [] (.func (.func 7) #[] #[]) ltUp := ⟨rfl, rfl, fun h a b K _ hK => by
  obtain ⟨f, e1, e2⟩ := two_boxes h #[.int .i64 a.key, .int .i64 a.tag] #[.int .i64 b.key, .int .i64 b.tag]
  have e : okF Try.prog 7 = true := by kernel_rfl
  simp only [callV, e]
  refine f7.ok (t0 := .agg #[.int .i64 a.key, .int .i64 a.tag]) (t1 := .agg #[.int .i64 b.key, .int .i64 b.tag]) ?_
  unfold f7.T
  simp [ldS_at e1, ldS_at e2]
  exact hK _ f⟩
theorem lessOk8 : LessOk [] (.func (.func 8) #[] #[]) ltDown := ⟨rfl, rfl, fun h a b K _ hK => by
  obtain ⟨f, e1, e2⟩ := two_boxes h #[.int .i64 a.key, .int .i64 a.tag] #[.int .i64 b.key, .int .i64 b.tag]
  have e : okF Try.prog 8 = true := by kernel_rfl
  simp only [callV, e]
  refine f8.ok (t0 := .agg #[.int .i64 a.key, .int .i64 a.tag]) (t1 := .agg #[.int .i64 b.key, .int .i64 b.tag]) ?_
  unfold f8.T
  simp [ldS_at e1, ldS_at e2]
  exact hK _ f⟩

theorem fill_heap (f : Value) (hf : f.cells = #[f]) : (fillS [(0, 1), (1, 1), (2, 1)] #[.nilFunc, (.slice none 0 0), (.int .i64 0)] [(0, f)]).map Value.agg = some (.agg #[f, .slice none 0 0, .int .i64 0]) := by
  simp [fillS, Instr.fill, hf]
theorem new_spec {h : Hp} {g : FuncId} {fi ca : Array Value} {R : Value → Hp → Prop} (hR : HeapE (h.push (.cells #[.func (.func g) fi ca, .slice none 0 0, .int .i64 0] 45 (0, 0))) h.size (.func (.func g) fi ca) [] 0 [] → R (.pointer (some ⟨h.size, 0, none⟩)) (h.push (.cells #[.func (.func g) fi ca, .slice none 0 0, .int .i64 0] 45 (0, 0)))) :
    CallsH Try.prog 6 #[.func (.func g) fi ca] h R := by
  refine f6.ok ?_
  unfold f6.T
  simp only [nil_f_some, bnd_some, condT_bool, Bool.false_eq_true, if_false, fill_heap (.func (.func g) fi ca) rfl, nw_eq, cells_agg, ptr0_eq]
  exact hR (.inl ⟨rfl, rfl, get_new h _⟩)

theorem fill_entry (k t : Int) : (fillS [(0, 1), (1, 1)] #[(.int .i64 0), (.int .i64 0)] [(0, .int .i64 k), (1, .int .i64 t)]).map Value.agg = some (.agg #[.int .i64 k, .int .i64 t]) := by kernel_rfl
end Go.Proofs.Ytkiakofohkecaaa
