/- PathsSorted, the statement: for every list of keys of bulk at most 1048576 the law tells true and the keys read as they did. Its conditions are the row's own. -/
import Derived.Test.YtkiakofohkecaaaHx9
import Derived.Test.YtkiakofohkecaaaFw15
namespace Go.Proofs.Ytkiakofohkecaaa
open Go Go.Fw Go.ChangeShapes Go.WideShapes Go.ChangeAt Go.RowKit

theorem own : ownKnob Try.prog.godebug = none := by kernel_rfl
theorem laidOut : laidOutB Try.prog = true := by kernel_rfl
theorem und4 : Try.prog.underlying 4 = some .bool := by kernel_rfl
theorem und2 : Try.prog.underlying 2 = some (.int .i64) := by kernel_rfl
theorem und38 : Try.prog.underlying 38 = some (.slice 2) := by kernel_rfl
theorem cells2 : Try.prog.cellsOf 2 = 1 := by kernel_rfl

theorem bulk_len {H : Type} : ∀ (l : List (DataW H)), l.length ≤ Rows.uptoBulkAll l
  | [] => by simp
  | d :: r => by
    have h1 : 1 ≤ Rows.uptoBulk d := by
      cases d with
      | lit l => cases l <;> simp [Rows.uptoBulk]
      | _ => simp [Rows.uptoBulk]
    have := bulk_len r
    simp only [Rows.uptoBulkAll, List.length_cons]; omega

theorem list_map_of {α β : Type} {f : α → β} : ∀ {l : List β}, (∀ x ∈ l, ∃ a, x = f a) → ∃ zs : List α, l = zs.map f
  | [], _ => ⟨[], rfl⟩
  | x :: l, h => by
    obtain ⟨a, rfl⟩ := h x (by simp)
    obtain ⟨zs, rfl⟩ := list_map_of (l := l) fun y hy => h y (by simp [hy])
    exact ⟨a :: zs, rfl⟩

/-- A list of whole numbers that comes in. -/
theorem ints_of {H : Type} {enc : TypeId × Value → H} {w : World} {base : Nat} {spare : Nat → Bool} {held : Bool} {xs : List (List Value)} (h : ∀ (i : Nat) (x : List Value), xs[i]? = some x → ∃ n y, DataW.trod enc Try.prog w base spare held n 2 x = some y) : ∃ ks : List Int, xs = ks.map fun k => [.int .i64 k] := by
  refine list_map_of fun x hx => ?_
  obtain ⟨i, hi⟩ := List.getElem?_of_mem hx
  obtain ⟨n, y, hy⟩ := h i x hi
  obtain ⟨k, rfl, _⟩ := DataW.trod_int und2 hy
  exact ⟨k, rfl⟩

set_option maxRecDepth 100000 in
theorem sorted_contract (H : Type) (enc : TypeId × Value → H) (W : World) (base : Nat) (args : Array Value) (ds gs : List (DataW H)) (before : List MemPlace)
    (hval : ∀ (j : Nat) t v, Try.f4.params[j]? = some t → args[j]? = some v → Value.okWide Try.prog W .any base t v)
    (hW : DataW.Whole enc Try.prog Try.f4.params.toList Rows.pathsSortedSpec.vars false W args.toList ds gs before) (hk : Rows.uptoSmall H (ds ++ gs) = true) :
    Calls Try.prog 4 args W fun e W' => ∃ v, e = .returned v ∧ Rows.pathsSortedSpec.post enc Try.prog Try.f4 false true false false W args v W' := by
  have hW' := hW
  obtain ⟨p, q, hA0, hV, rfl, hfz, hnd⟩ := hW
  have hA : DataW.TrodAll enc Try.prog W 0 (fun _ => true) true Try.f4.params.toList args.toList ds p := hA0
  rw [show Try.f4.params = #[38] by kernel_rfl] at hA hval
  obtain ⟨v0, vs0, d0, ds0, p0, q0, hargs, rfl, rfl, h0, r0⟩ := trodAll_cons hA
  obtain ⟨rfl, rfl, rfl⟩ := trodAll_nil r0
  obtain rfl : args = #[v0] := by cases args; simp_all
  obtain ⟨rfl, rfl⟩ := trodVars_none hV
  obtain ⟨xs, es, sp, hd, hrow, hel⟩ := open_rowv und38 cells2 (hval 0 38 v0 rfl rfl) h0
  obtain ⟨ks, rfl⟩ := ints_of hel
  have hlen : ks.length ≤ 1048576 := by
    simp [Rows.uptoSmall, Rows.uptoBulkAll] at hk
    rcases hd with ⟨rfl, h⟩ | ⟨rfl, h⟩
    · simp at h; subst h; simp
    · have := bulk_len es
      simp [Rows.uptoBulk] at hk h
      omega
  refine (sorted_spec (h := W.heap) (R := fun v h' => v = .bool true ∧ Fr W.heap h' []) (hrow (by omega)) hlen (fun h' f => ⟨rfl, f⟩) W rfl).mono fun e W' ⟨v, he, hs, hv, hf⟩ => ?_
  subst he hv
  exact ⟨_, rfl, law_post (tb := 4) hW' rfl rfl (by kernel_rfl) und4 laidOut (by rw [show Try.f4.params = #[38] by kernel_rfl]; intro t ht; obtain rfl : t = 38 := by simpa using ht
                                                                                 exact ⟨by kernel_rfl, of_decide_eq_true (by kernel_rfl)⟩) hs hf⟩

set_option maxRecDepth 100000 in
theorem sorted_lifted (os : Os) (started : os.Started) (H : Type) (enc : TypeId × Value → H) (F : Stop.Interp) :
    ReturnsInHanded {} Try.checked os 4 .any ((Rows.OpenSpec.upto Rows.pathsSortedSpec).pre6 enc Try.prog Try.f4 Rows.pathsSortedUptoRow.domain false) (((Rows.OpenSpec.upto Rows.pathsSortedSpec).at F).post enc Try.prog Try.f4 false true false false) := by
  refine returnsInHanded_of_cond (C := Try.checked) (s := Rows.OpenSpec.upto Rows.pathsSortedSpec) (k := Rows.uptoSmall) rfl own started (by kernel_rfl) Try.func4
    (OpenSpec.witness (enc := enc) (C := Try.checked) (s := Rows.OpenSpec.upto Rows.pathsSortedSpec) (k := Rows.uptoSmall) rfl false ⟨#[], #[.slice none 0 0], []⟩ 8 (by kernel_rfl) (by kernel_rfl) (by kernel_rfl)
      (x := ([.nil], [], [])) (by kernel_rfl) rfl (by kernel_rfl)) ?_
  intro W base args ds gs before hval hW _ hk _
  exact sorted_contract H enc W base args ds gs before hval hW hk

theorem pathsSorted_upto : Rows.PathsSortedUptoSaid :=
  OpenClaim.holds_of_cond 4 Try.f4 rfl rfl rfl rfl rfl rfl rfl ⟨rfl, rfl, rfl, rfl, rfl⟩ rfl rfl rfl rfl rfl (by kernel_rfl) Try.func4 (by kernel_rfl)
    (of_decide_eq_true (by kernel_rfl)) (by unfold Func.isWrapper; first | (rw [if_pos (by decide +kernel)]; kernel_rfl) | (rw [if_neg (by decide +kernel)]; exact ⟨rfl, rfl⟩))
    (fun os started H enc _ F => sorted_lifted os started H enc F)
end Go.Proofs.Ytkiakofohkecaaa
