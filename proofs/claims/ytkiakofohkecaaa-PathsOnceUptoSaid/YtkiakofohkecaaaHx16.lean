/- PathsHeap, the statement: for every script of bulk at most 1048576 the law tells true and the script reads as it did. Its conditions are the row's own. -/
import Derived.Test.YtkiakofohkecaaaHx15
namespace Go.Proofs.Ytkiakofohkecaaa
open Go Go.Fw Go.ChangeShapes Go.WideShapes Go.ChangeAt Go.RowKit

theorem und22 : Try.prog.underlying 22 = some (.slice 31) := by kernel_rfl
theorem cells31 : Try.prog.cellsOf 31 = 3 := by kernel_rfl

/-- A record of three cells, a bool, a bool and a whole number. -/
theorem step_of {H : Type} {enc : TypeId × Value → H} {w : World} {base n : Nat} {spare : Nat → Bool} {held : Bool} {x : List Value} {y : DataW H × List MemPlace} (h : DataW.trod enc Try.prog w base spare held n 31 x = some y) : ∃ s : Step, x = s.enc := by
  have hu : Try.prog.underlying 31 = some (.struct (Try.prog.fieldsOf 31)) := by kernel_rfl
  have hf : ((Try.prog.fieldsOf 31).toList.map fun f => (f.type, f.offset)) = [(4, 0), (4, 1), (2, 2)] := by kernel_rfl
  have c4 : Try.prog.cellsOf 4 = 1 := by kernel_rfl
  cases n with
  | zero => simp [DataW.trod] at h
  | succ n =>
    have h' : (if x.length = Try.prog.cellsOf 31 then ((Try.prog.fieldsOf 31).toList.mapM fun f => DataW.trod enc Try.prog w base spare held n f.type ((x.drop f.offset).take (Try.prog.cellsOf f.type))).map fun xs => ((.agg (xs.map (·.1)) : DataW H), xs.flatMap (·.2)) else none) = some y := by
      unfold DataW.trod at h
      rw [hu] at h
      exact h
    rw [cells31] at h'
    split at h'
    · rename_i hl
      obtain ⟨xs, hm, _⟩ := Option.map_eq_some_iff.1 h'
      generalize (Try.prog.fieldsOf 31).toList = fs at hf hm
      obtain ⟨g1, g2, g3, rfl⟩ : ∃ g1 g2 g3, fs = [g1, g2, g3] := by
        cases fs with
        | nil => simp at hf
        | cons g1 r =>
          cases r with
          | nil => simp at hf
          | cons g2 r =>
            cases r with
            | nil => simp at hf
            | cons g3 r =>
              cases r with
              | nil => exact ⟨g1, g2, g3, rfl⟩
              | cons g4 r => simp at hf
      simp only [List.map_cons, List.map_nil, List.cons.injEq, Prod.mk.injEq, and_true] at hf
      obtain ⟨⟨t1, o1⟩, ⟨t2, o2⟩, t3, o3⟩ := hf
      obtain ⟨y1, _, m1⟩ := Lib.mapM_at hm 0 g1 rfl
      obtain ⟨y2, _, m2⟩ := Lib.mapM_at hm 1 g2 rfl
      obtain ⟨y3, _, m3⟩ := Lib.mapM_at hm 2 g3 rfl
      rw [t1, o1, c4] at m1
      rw [t2, o2, c4] at m2
      rw [t3, o3, cells2] at m3
      obtain ⟨b1, e1, _⟩ := DataW.trod_bool und4 m1
      obtain ⟨b2, e2, _⟩ := DataW.trod_bool und4 m2
      obtain ⟨k, e3, _⟩ := DataW.trod_int und2 m3
      refine ⟨⟨b2, b1, k⟩, ?_⟩
      match x, hl with
      | [x1, x2, x3], _ =>
        simp at e1 e2 e3
        subst e1 e2 e3
        rfl
    · cases h'

theorem steps_of {H : Type} {enc : TypeId × Value → H} {w : World} {base : Nat} {spare : Nat → Bool} {held : Bool} {xs : List (List Value)} (h : ∀ (i : Nat) (x : List Value), xs[i]? = some x → ∃ n y, DataW.trod enc Try.prog w base spare held n 31 x = some y) : ∃ ss : List Step, xs = ss.map Step.enc := by
  refine list_map_of fun x hx => ?_
  obtain ⟨i, hi⟩ := List.getElem?_of_mem hx
  obtain ⟨n, y, hy⟩ := h i x hi
  exact step_of hy

set_option maxRecDepth 100000 in
theorem heap_contract (H : Type) (enc : TypeId × Value → H) (W : World) (base : Nat) (args : Array Value) (ds gs : List (DataW H)) (before : List MemPlace)
    (hval : ∀ (j : Nat) t v, Try.f3.params[j]? = some t → args[j]? = some v → Value.okWide Try.prog W .any base t v)
    (hW : DataW.Whole enc Try.prog Try.f3.params.toList Rows.pathsHeapSpec.vars false W args.toList ds gs before) (hk : Rows.uptoSmall H (ds ++ gs) = true) :
    Calls Try.prog 3 args W fun e W' => ∃ v, e = .returned v ∧ Rows.pathsHeapSpec.post enc Try.prog Try.f3 false true false false W args v W' := by
  have hW' := hW
  obtain ⟨p, q, hA0, hV, rfl, hfz, hnd⟩ := hW
  have hA : DataW.TrodAll enc Try.prog W 0 (fun _ => true) true Try.f3.params.toList args.toList ds p := hA0
  rw [show Try.f3.params = #[22] by kernel_rfl] at hA hval
  obtain ⟨v0, vs0, d0, ds0, p0, q0, hargs, rfl, rfl, h0, r0⟩ := trodAll_cons hA
  obtain ⟨rfl, rfl, rfl⟩ := trodAll_nil r0
  obtain rfl : args = #[v0] := by cases args; simp_all
  obtain ⟨rfl, rfl⟩ := trodVars_none hV
  obtain ⟨xs, es, sp, hd, hrow, hel⟩ := open_rowv und22 cells31 (hval 0 22 v0 rfl rfl) h0
  obtain ⟨ss, rfl⟩ := steps_of hel
  have hlen : ss.length ≤ 1048576 := by
    simp [Rows.uptoSmall, Rows.uptoBulkAll] at hk
    rcases hd with ⟨rfl, h⟩ | ⟨rfl, h⟩
    · simp at h; subst h; simp
    · have := bulk_len es
      simp [Rows.uptoBulk] at hk h
      omega
  refine (heap_spec (h := W.heap) (R := fun v h' => v = .bool true ∧ Fr W.heap h' []) (hrow (by omega)) hlen (fun h' f => ⟨rfl, f⟩) W rfl).mono fun e W' ⟨v, he, hs, hv, hf⟩ => ?_
  subst he hv
  exact ⟨_, rfl, law_post (tb := 4) hW' rfl rfl (by kernel_rfl) und4 laidOut (by rw [show Try.f3.params = #[22] by kernel_rfl]; intro t ht; obtain rfl : t = 22 := by simpa using ht
                                                                                 exact ⟨by kernel_rfl, of_decide_eq_true (by kernel_rfl)⟩) hs hf⟩

set_option maxRecDepth 100000 in
theorem heap_lifted (os : Os) (started : os.Started) (H : Type) (enc : TypeId × Value → H) (F : Stop.Interp) :
    ReturnsInHanded {} Try.checked os 3 .any ((Rows.OpenSpec.upto Rows.pathsHeapSpec).pre6 enc Try.prog Try.f3 Rows.pathsHeapUptoRow.domain false) (((Rows.OpenSpec.upto Rows.pathsHeapSpec).at F).post enc Try.prog Try.f3 false true false false) := by
  refine returnsInHanded_of_cond (C := Try.checked) (s := Rows.OpenSpec.upto Rows.pathsHeapSpec) (k := Rows.uptoSmall) rfl own started (by kernel_rfl) Try.func3
    (OpenSpec.witness (enc := enc) (C := Try.checked) (s := Rows.OpenSpec.upto Rows.pathsHeapSpec) (k := Rows.uptoSmall) rfl false ⟨#[], #[.slice none 0 0], []⟩ 8 (by kernel_rfl) (by kernel_rfl) (by kernel_rfl)
      (x := ([.nil], [], [])) (by kernel_rfl) rfl (by kernel_rfl)) ?_
  intro W base args ds gs before hval hW _ hk _
  exact heap_contract H enc W base args ds gs before hval hW hk

theorem pathsHeap_upto : Rows.PathsHeapUptoSaid :=
  OpenClaim.holds_of_cond 3 Try.f3 rfl rfl rfl rfl rfl rfl rfl ⟨rfl, rfl, rfl, rfl, rfl⟩ rfl rfl rfl rfl rfl (by kernel_rfl) Try.func3 (by kernel_rfl)
    (of_decide_eq_true (by kernel_rfl)) (by unfold Func.isWrapper; first | (rw [if_pos (by decide +kernel)]; kernel_rfl) | (rw [if_neg (by decide +kernel)]; exact ⟨rfl, rfl⟩))
    (fun os started H enc _ F => heap_lifted os started H enc F)
end Go.Proofs.Ytkiakofohkecaaa
