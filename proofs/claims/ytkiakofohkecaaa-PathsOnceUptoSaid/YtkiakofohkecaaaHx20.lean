/- PathsOnce, the statement: for every list of answers and every script, together of bulk at most 1048576, the law tells true and both read as they did. Its conditions are the row's own. -/
import Derived.Test.YtkiakofohkecaaaHx19
namespace Go.Proofs.Ytkiakofohkecaaa
open Go Go.Fw Go.ChangeShapes Go.WideShapes Go.ChangeAt Go.RowKit

theorem und39 : Try.prog.underlying 39 = some (.slice 4) := by kernel_rfl
theorem cells4 : Try.prog.cellsOf 4 = 1 := by kernel_rfl

theorem bools_of {H : Type} {enc : TypeId × Value → H} {w : World} {base : Nat} {spare : Nat → Bool} {held : Bool} {xs : List (List Value)} (h : ∀ (i : Nat) (x : List Value), xs[i]? = some x → ∃ n y, DataW.trod enc Try.prog w base spare held n 4 x = some y) : ∃ bs : List Bool, xs = bs.map fun b => [.bool b] := by
  refine list_map_of fun x hx => ?_
  obtain ⟨i, hi⟩ := List.getElem?_of_mem hx
  obtain ⟨n, y, hy⟩ := h i x hi
  obtain ⟨k, rfl, _⟩ := DataW.trod_bool und4 hy
  exact ⟨k, rfl⟩

set_option maxRecDepth 100000 in
theorem once_contract (H : Type) (enc : TypeId × Value → H) (W : World) (base : Nat) (args : Array Value) (ds gs : List (DataW H)) (before : List MemPlace)
    (hval : ∀ (j : Nat) t v, Try.f5.params[j]? = some t → args[j]? = some v → Value.okWide Try.prog W .any base t v)
    (hW : DataW.Whole enc Try.prog Try.f5.params.toList Rows.pathsOnceSpec.vars false W args.toList ds gs before) (hk : Rows.uptoSmall H (ds ++ gs) = true) :
    Calls Try.prog 5 args W fun e W' => ∃ v, e = .returned v ∧ Rows.pathsOnceSpec.post enc Try.prog Try.f5 false true false false W args v W' := by
  have hW' := hW
  obtain ⟨p, q, hA0, hV, rfl, hfz, hnd⟩ := hW
  have hA : DataW.TrodAll enc Try.prog W 0 (fun _ => true) true Try.f5.params.toList args.toList ds p := hA0
  rw [show Try.f5.params = #[39, 22] by kernel_rfl] at hA hval
  obtain ⟨v0, vs0, d0, ds0, p0, q0, hargs, rfl, rfl, h0, r0⟩ := trodAll_cons hA
  obtain ⟨v1, vs1, d1, ds1, p1, q1, hargs1, rfl, rfl, h1, r1⟩ := trodAll_cons r0
  obtain ⟨rfl, rfl, rfl⟩ := trodAll_nil r1
  obtain rfl : args = #[v0, v1] := by cases args; simp_all
  obtain ⟨rfl, rfl⟩ := trodVars_none hV
  obtain ⟨xs, es, sp, hd, hrow, hel⟩ := open_rowv und39 cells4 (hval 0 39 v0 rfl rfl) h0
  obtain ⟨bs, rfl⟩ := bools_of hel
  obtain ⟨xs, es', sp', hd', hrow', hel'⟩ := open_rowv und22 cells31 (hval 1 22 v1 rfl rfl) h1
  obtain ⟨ss, rfl⟩ := steps_of hel'
  have hk' : Rows.uptoBulk d0 + Rows.uptoBulk d1 ≤ 1048576 := by
    simp [Rows.uptoSmall, Rows.uptoBulkAll] at hk
    exact hk
  have hlen : bs.length ≤ 1048576 := by
    rcases hd with ⟨rfl, h⟩ | ⟨rfl, h⟩
    · simp at h; subst h; simp
    · have := bulk_len es
      simp [Rows.uptoBulk] at hk' h
      omega
  have hlen' : ss.length ≤ 1048576 := by
    rcases hd' with ⟨rfl, h⟩ | ⟨rfl, h⟩
    · simp at h; subst h; simp
    · have := bulk_len es'
      simp [Rows.uptoBulk] at hk' h
      omega
  refine (once_spec (h := W.heap) (R := fun v h' => v = .bool true ∧ Fr W.heap h' []) (hrow (by omega)) (hrow' (by omega)) hlen hlen' (fun h' f => ⟨rfl, f⟩) W rfl).mono fun e W' ⟨v, he, hs, hv, hf⟩ => ?_
  subst he hv
  exact ⟨_, rfl, law_post (tb := 4) hW' rfl rfl (by kernel_rfl) und4 laidOut (by rw [show Try.f5.params = #[39, 22] by kernel_rfl]; intro t ht; obtain rfl | rfl : t = 39 ∨ t = 22 := by simpa using ht
                                                                                 · exact ⟨by kernel_rfl, of_decide_eq_true (by kernel_rfl)⟩
                                                                                 · exact ⟨by kernel_rfl, of_decide_eq_true (by kernel_rfl)⟩) hs hf⟩

set_option maxRecDepth 100000 in
theorem once_lifted (os : Os) (started : os.Started) (H : Type) (enc : TypeId × Value → H) (F : Stop.Interp) :
    ReturnsInHanded {} Try.checked os 5 .any ((Rows.OpenSpec.upto Rows.pathsOnceSpec).pre6 enc Try.prog Try.f5 Rows.pathsOnceUptoRow.domain false) (((Rows.OpenSpec.upto Rows.pathsOnceSpec).at F).post enc Try.prog Try.f5 false true false false) := by
  refine returnsInHanded_of_cond (C := Try.checked) (s := Rows.OpenSpec.upto Rows.pathsOnceSpec) (k := Rows.uptoSmall) rfl own started (by kernel_rfl) Try.func5
    (OpenSpec.witness (enc := enc) (C := Try.checked) (s := Rows.OpenSpec.upto Rows.pathsOnceSpec) (k := Rows.uptoSmall) rfl false ⟨#[], #[.slice none 0 0, .slice none 0 0], []⟩ 8 (by kernel_rfl) (by kernel_rfl) (by kernel_rfl)
      (x := ([.nil, .nil], [], [])) (by kernel_rfl) rfl (by kernel_rfl)) ?_
  intro W base args ds gs before hval hW _ hk _
  exact once_contract H enc W base args ds gs before hval hW hk

theorem pathsOnce_upto : Rows.PathsOnceUptoSaid :=
  OpenClaim.holds_of_cond 5 Try.f5 rfl rfl rfl rfl rfl rfl rfl ⟨rfl, rfl, rfl, rfl, rfl⟩ rfl rfl rfl rfl rfl (by kernel_rfl) Try.func5 (by kernel_rfl)
    (of_decide_eq_true (by kernel_rfl)) (by unfold Func.isWrapper; first | (rw [if_pos (by decide +kernel)]; kernel_rfl) | (rw [if_neg (by decide +kernel)]; exact ⟨rfl, rfl⟩))
    (fun os started H enc _ F => once_lifted os started H enc F)
end Go.Proofs.Ytkiakofohkecaaa
