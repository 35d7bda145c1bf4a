/- PathsLeast, the card: for all rows, whose reading is of bulk at most 1048576, and every node the law tells true and each argument reads as it did. Its conditions are the card's own. -/
import Derived.Test.YtkiakofohkecaaaDoorMe
import Derived.Test.YtkiakofohkecaaaDoorMx4
namespace Go.Proofs.YtkiakofohkecaaaDoor.pLeast
open Go Go.Fw Go.ChangeShapes Go.WideShapes Go.ChangeAt Go.RowKit

set_option maxRecDepth 100000 in
theorem contract (H : Type) (enc : TypeId × Value → H) (W : World) (base : Nat) (args : Array Value) (ds gs : List (DataW H)) (before : List MemPlace)
    (hval : ∀ (j : Nat) t v, Tryd.f8.params[j]? = some t → args[j]? = some v → Value.okWide Tryd.prog W .any base t v)
    (hW : DataW.Whole enc Tryd.prog Tryd.f8.params.toList Rows.pathsLeastSpec.vars false W args.toList ds gs before) (hk : Rows.uptoSmall H (ds ++ gs) = true) (hL : laidMetH Tryd.prog Rows.pathsLeastUptoRow.laid W) :
    Calls Tryd.prog 8 args W fun e W' => ∃ v, e = .returned v ∧ Rows.pathsLeastSpec.post enc Tryd.prog Tryd.f8 false true false false W args v W' := by
  have hW' := hW
  obtain ⟨p, q, hA0, hV, rfl, hfz, hnd⟩ := hW
  have hA : DataW.TrodAll enc Tryd.prog W 0 (fun _ => true) true Tryd.f8.params.toList args.toList ds p := hA0
  rw [show Tryd.f8.params = #[24, 2] by kernel_rfl] at hA hval
  obtain ⟨v0, vs0, d0, ds0, p0, q0, hargs0, rfl, rfl, h0, r0⟩ := trodAll_cons hA
  obtain ⟨v1, vs1, d1, ds1, p1, q1, hargs1, rfl, rfl, h1, r1⟩ := trodAll_cons r0
  obtain ⟨rfl, rfl, rfl⟩ := trodAll_nil r1
  obtain rfl : args = #[v0, v1] := by cases args; simp_all
  obtain ⟨rfl, rfl⟩ := trodVars_none hV
  obtain ⟨ps, hlv, _⟩ := (hL : laidMet Tryd.prog Rows.pathsLeastUptoRow.laid W)
  obtain ⟨Em, fm, hm⟩ := mark_laid rfl hlv
  have hk' : Rows.uptoBulk d0 + Rows.uptoBulk d1 ≤ 1048576 := by
    simp [Rows.uptoSmall, Rows.uptoBulkAll] at hk
    omega
  obtain ⟨fu0, hf0⟩ := h0
  obtain ⟨v, rows, ev, net⟩ := rows_of hf0 (by simp only; omega)
  obtain ⟨sa, sl, sc, hsv⟩ := okWide_slice und24 (hval 0 24 v0 rfl rfl)
  obtain rfl : v0 = v := by subst hsv; simpa [Value.cells] using ev
  obtain ⟨a, rfl, rfl, rfl, wa⟩ := open_int und2 (hval 1 2 v1 rfl rfl) h1
  refine ((law8 net hm a) W rfl).mono fun e W' ⟨v, he, hs, hv, hf⟩ => ?_
  subst he hv
  exact ⟨_, rfl, law_post (tb := 4) hW' rfl rfl (by kernel_rfl) und4 laidOut (by rw [show Tryd.f8.params = #[24, 2] by kernel_rfl]; intro t ht; obtain rfl | rfl : t = 24 ∨ t = 2 := by simpa using ht
                                                                                 all_goals exact ⟨by kernel_rfl, of_decide_eq_true (by kernel_rfl)⟩) hs hf⟩

def laidObj (cs : Array Value) : Obj → Obj
  | .cells _ t frozen => .cells cs t frozen
  | o => o
/-- A world for the witness: the settled one, the mark holding what the initialiser lays. -/
noncomputable def laidWorld (os : Os) : World :=
  { World.holding Tryd.prog os ⟨#[], #[], []⟩ with heap := (World.holding Tryd.prog os ⟨#[], #[], []⟩).heap.modify 2 (laidObj #[.int .i64 (-71), .int .i64 (-72), .int .i64 (-73)]) }
def wit : Array Value := #[.slice none 0 0, .int .i64 0]
theorem laid_met (os : Os) : laidMet Tryd.prog Rows.pathsLeastUptoRow.laid ((laidWorld os).forCall (fun _ _ => 0) ⟨#[], wit, []⟩).memory :=
  laidMet_of_run' 8 (by kernel_rfl) (by kernel_rfl)
theorem reads (os : Os) {H : Type} (enc : TypeId × Value → H) : ∃ places, DataW.whole enc Tryd.prog ((laidWorld os).forCall (fun _ _ => 0) ⟨#[], wit, []⟩).memory Tryd.f8.params.toList Rows.pathsLeastSpec.vars false wit.toList 8 = some ([.nil, .lit (.int .i64 0)], [], places) :=
  ⟨[], by kernel_rfl⟩

set_option maxRecDepth 100000 in
theorem lifted (os : Os) (started : os.Started) (H : Type) (enc : TypeId × Value → H) (F : Stop.Interp) :
    ReturnsInHanded {} Tryd.checked os 8 .any ((Rows.OpenSpec.upto Rows.pathsLeastSpec).preRow enc Tryd.prog Tryd.f8 Rows.pathsLeastUptoRow.domain false Rows.pathsLeastUptoRow.laid) (((Rows.OpenSpec.upto Rows.pathsLeastSpec).at F).post enc Tryd.prog Tryd.f8 false true false false) := by
  obtain ⟨places, hx⟩ := reads os enc
  refine returnsInHanded_of_row (C := Tryd.checked) (s := Rows.OpenSpec.upto Rows.pathsLeastSpec) own started (by kernel_rfl) Tryd.func8
    (witness_row_at (enc := enc) (C := Tryd.checked) false (laidWorld os) wit rfl (by kernel_rfl) (by kernel_rfl) (by kernel_rfl)
      (OpenSpec.preRow_of_cond 8 hx (by kernel_rfl) (fun k hk => by obtain rfl := Option.some.inj hk; kernel_rfl) (by kernel_rfl) (laid_met os))) ?_
  intro W base args ds gs before hval hW _ hk _ hL _ _
  exact contract H enc W base args ds gs before hval hW (hk _ rfl) hL

theorem said : Rows.PathsLeastUptoSaid :=
  OpenClaim.holds_of_cond 8 Tryd.f8 rfl rfl rfl rfl rfl rfl rfl ⟨rfl, rfl, rfl, rfl, rfl⟩ rfl rfl rfl rfl rfl (by kernel_rfl) Tryd.func8 (by kernel_rfl)
    (of_decide_eq_true (by kernel_rfl)) (by unfold Func.isWrapper; first | (rw [if_pos (by decide +kernel)]; kernel_rfl) | (rw [if_neg (by decide +kernel)]; exact ⟨rfl, rfl⟩))
    (fun os started H enc _ F => by rw [OpenClaim.pre_eq_preRow]; exact lifted os started H enc F)

/-- No parameter wants a stand-in; the program's own looks are off: what the card asks. -/
theorem plain (f : FuncId) (fn : Func) (hf : Tryd.pinned.checked.prog.funcNamed "trellis/trellislaw9.PathsLeast" = some f) (hfn : Tryd.pinned.checked.prog.funcs[f]? = some fn) :
    false = Tryd.pinned.checked.prog.looks [] ∧ ∀ (j : Nat) t, fn.params[j]? = some t → Tryd.pinned.checked.prog.wantsStandIn t = false := by
  obtain rfl : f = 8 := Option.some.inj ((show Tryd.prog.funcNamed "trellis/trellislaw9.PathsLeast" = some 8 by kernel_rfl).symm.trans hf) |>.symm
  obtain rfl : fn = Tryd.f8 := (Option.some.inj (Tryd.func8.symm.trans hfn)).symm
  refine ⟨by kernel_rfl, fun j t ht => ?_⟩
  rw [show Tryd.f8.params = #[24, 2] by kernel_rfl] at ht
  obtain rfl | rfl : t = 24 ∨ t = 2 := by simpa using Array.mem_of_getElem? ht
  all_goals kernel_rfl

theorem card : Rows.PathsLeastUptoCardSaid :=
  Claim7.holds_tied_plain_at .later [] _ _ _ _ said (fun _ h => by cases h) (by kernel_rfl) (fun _ h => by cases h) pathsLeastUpto_row_tie rfl ⟨rfl, rfl⟩ (by kernel_rfl) rfl plain (by kernel_rfl)
end Go.Proofs.YtkiakofohkecaaaDoor.pLeast
namespace Go.Proofs.YtkiakofohkecaaaDoor
theorem pathsLeast_card : Rows.PathsLeastUptoCardSaid := pLeast.card
end Go.Proofs.YtkiakofohkecaaaDoor
