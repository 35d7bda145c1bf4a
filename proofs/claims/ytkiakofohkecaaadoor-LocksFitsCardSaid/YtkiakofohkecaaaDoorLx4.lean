/- LocksFits, the card: whatever the two modes are, the law tells true and each argument reads as it did. Its conditions are the card's own: the two tables of the package begin as the program's text lays them. -/
import Derived.Test.YtkiakofohkecaaaDoorCards
import Derived.Test.YtkiakofohkecaaaDoorTie
import Derived.WalkKit
import Derived.ProofKit
import Derived.OpenShut
import Derived.Deep.DeepHandedRow
import Derived.Lib.LaidTab
import Derived.Test.YtkiakofohkecaaaDoorLx3
import Derived.Test.YtkiakofohkecaaaDoorFw13
namespace Go.Proofs.YtkiakofohkecaaaDoor.locksFits
open Go.ChangeShapes Go.WideShapes Go.ChangeAt Go.RowKit Go.Fw

theorem own : ownKnob Tryd.prog.godebug = none := by kernel_rfl
theorem gFits : Tryd.prog.globalNamed "trellis/locks.fits" = some 0 := by kernel_rfl
theorem gFitsType : (Tryd.prog.globals[0]?).map (·.type) = some 85 := by kernel_rfl
theorem gJoins : Tryd.prog.globalNamed "trellis/locks.joins" = some 1 := by kernel_rfl
theorem gJoinsType : (Tryd.prog.globals[1]?).map (·.type) = some 85 := by kernel_rfl
theorem cells85 : Tryd.prog.cellsOf 85 = 6 * 6 := by kernel_rfl
theorem cells84 : Tryd.prog.cellsOf 84 = 6 := by kernel_rfl
theorem cells3 : Tryd.prog.cellsOf 3 = 1 := by kernel_rfl
theorem und85 : Tryd.prog.underlying 85 = some (.array 6 84) := by kernel_rfl
theorem und84 : Tryd.prog.underlying 84 = some (.array 6 3) := by kernel_rfl
theorem und3 : Tryd.prog.underlying 3 = some (.int .i64) := by kernel_rfl
theorem und4 : Tryd.prog.underlying 4 = some .bool := by kernel_rfl

/-- What the row's list gives: the two tables stand in their blocks. -/
theorem tabs {W : World} (h : laidMetH Tryd.prog Rows.locksFitsRow.laid W) : Tabs W.heap := by
  obtain ⟨ps, hv, _⟩ := (h : laidMet Tryd.prog Rows.locksFitsRow.laid W)
  obtain ⟨⟨cs, fuel, p, hc, hd⟩, q, hr⟩ := laid_head gFits gFitsType hv
  obtain ⟨⟨cs2, fuel2, p2, hc2, hd2⟩, _⟩ := laid_head gJoins gJoinsType hr
  have e1 : cs = cellsOfRows fitRows := by
    have := cells_of_tab2 (zss := fitRows) und85 und84 und3 cells3 cells84 cells85 hd
    rw [cellsOfRows, ← this]
  have e2 : cs2 = cellsOfRows joinRows := by
    have := cells_of_tab2 (zss := joinRows) und85 und84 und3 cells3 cells84 cells85 hd2
    rw [cellsOfRows, ← this]
  subst e1 e2
  exact ⟨var_block gFits hc, var_block gJoins hc2⟩

set_option maxRecDepth 100000 in
theorem contract (H : Type) (enc : TypeId × Value → H) (W : World) (base : Nat) (args : Array Value) (ds gs : List (DataW H)) (before : List MemPlace)
    (hval : ∀ (j : Nat) t v, Tryd.f3.params[j]? = some t → args[j]? = some v → Value.okWide Tryd.prog W .any base t v)
    (hW : DataW.Whole enc Tryd.prog Tryd.f3.params.toList Rows.locksFitsSpec.vars false W args.toList ds gs before) (hL : laidMetH Tryd.prog Rows.locksFitsRow.laid W) :
    Calls Tryd.prog 3 args W fun e W' => ∃ v, e = .returned v ∧ Rows.locksFitsSpec.post enc Tryd.prog Tryd.f3 false true false false W args v W' := by
  have hW' := hW
  obtain ⟨p, q, hA0, hV, rfl, hfz, hnd⟩ := hW
  have hA : DataW.TrodAll enc Tryd.prog W 0 (fun _ => true) true Tryd.f3.params.toList args.toList ds p := hA0
  rw [show Tryd.f3.params = #[3, 3] by kernel_rfl] at hA hval
  obtain ⟨v0, vs0, d0, ds0, p0, q0, hargs, rfl, rfl, h0, r0⟩ := trodAll_cons hA
  obtain ⟨v1, vs1, d1, ds1, p1, q1, hargs1, rfl, rfl, h1, r1⟩ := trodAll_cons r0
  obtain ⟨rfl, rfl, rfl⟩ := trodAll_nil r1
  obtain rfl : args = #[v0, v1] := by cases args; simp_all
  obtain ⟨rfl, rfl⟩ := trodVars_none hV
  obtain ⟨a, rfl, rfl, rfl, wa⟩ := open_int und3 (hval 0 3 v0 rfl rfl) h0
  obtain ⟨b, rfl, rfl, rfl, wb⟩ := open_int und3 (hval 1 3 v1 rfl rfl) h1
  clear hA0
  simp only [List.append_nil] at hW'
  refine (fits_spec W.heap (tabs hL) a b W rfl).mono fun e W' ⟨v, he, hs, hv, hh⟩ => ?_
  subst he hv
  have hg : RowKit.Grown W W' := grown_of hs (hh ▸ Fr.refl _ _)
  exact ⟨_, rfl, post_of_same (pa := []) (pv := []) hW' (fun _ _ _ => trodAll_cons_mk (shut_bool und4 _) trodAll_mk0) (fun _ _ => trodAll_cons_mk (shut_int und3 wa) (trodAll_cons_mk (shut_int und3 wb) trodAll_mk0)) (fun _ _ => rfl) rfl
    (hg.frame _) hg.2.1 (ok_one (by kernel_rfl) rfl (okWide_bool_mk und4 _))⟩

/-- The block, with these cells. -/
def laidObj (cs : Array Value) : Obj → Obj
  | .cells _ t frozen => .cells cs t frozen
  | o => o
/-- A world for the witness: the settled one, the two tables holding what the initialiser lays. -/
noncomputable def laidWorld (os : Os) : World :=
  { World.holding Tryd.prog os ⟨#[], #[], []⟩ with heap := ((World.holding Tryd.prog os ⟨#[], #[], []⟩).heap.modify 0 (laidObj (cellsOfRows fitRows))).modify 1 (laidObj (cellsOfRows joinRows)) }
theorem laid_met (os : Os) : laidMet Tryd.prog Rows.locksFitsRow.laid ((laidWorld os).forCall (fun _ _ => 0) ⟨#[], #[.int .i64 0, .int .i64 0], []⟩).memory :=
  laidMet_of_run' 8 (by kernel_rfl) (by kernel_rfl)
theorem reads (os : Os) {H : Type} (enc : TypeId × Value → H) : ∃ places, DataW.whole enc Tryd.prog ((laidWorld os).forCall (fun _ _ => 0) ⟨#[], #[.int .i64 0, .int .i64 0], []⟩).memory Tryd.f3.params.toList Rows.locksFitsSpec.vars false #[Value.int .i64 0, Value.int .i64 0].toList 8 = some ([.lit (.int .i64 0), .lit (.int .i64 0)], [], places) :=
  ⟨[], by kernel_rfl⟩

set_option maxRecDepth 100000 in
theorem lifted (os : Os) (started : os.Started) (H : Type) (enc : TypeId × Value → H) (F : Stop.Interp) :
    ReturnsInHanded {} Tryd.checked os 3 .any ((OpenSpec.ofChange Rows.locksFitsSpec).preRow enc Tryd.prog Tryd.f3 Rows.locksFitsRow.domain false Rows.locksFitsRow.laid) (((OpenSpec.ofChange Rows.locksFitsSpec).at F).post enc Tryd.prog Tryd.f3 false true false false) := by
  obtain ⟨places, hx⟩ := reads os enc
  refine returnsInHanded_of_row (C := Tryd.checked) (s := OpenSpec.ofChange Rows.locksFitsSpec) own started (by kernel_rfl) Tryd.func3
    (witness_row_at (enc := enc) (C := Tryd.checked) false (laidWorld os) #[.int .i64 0, .int .i64 0] rfl (by kernel_rfl) (by kernel_rfl) (by kernel_rfl)
      (OpenSpec.preRow_of_cond 8 hx (by kernel_rfl) (fun k hk => by cases hk) (by kernel_rfl) (laid_met os))) ?_
  intro W base args ds gs before hval hW _ _ _ hL _ _
  exact contract H enc W base args ds gs before hval hW hL

theorem said : Rows.LocksFitsSaid :=
  OpenClaim.holds_of_cond 3 Tryd.f3 rfl rfl rfl rfl rfl rfl rfl ⟨rfl, rfl, rfl, rfl, rfl⟩ rfl rfl rfl rfl rfl (by kernel_rfl) Tryd.func3 (by kernel_rfl)
    (of_decide_eq_true (by kernel_rfl)) (by unfold Func.isWrapper; first | (rw [if_pos (by decide +kernel)]; kernel_rfl) | (rw [if_neg (by decide +kernel)]; exact ⟨rfl, rfl⟩))
    (fun os started H enc _ F => by rw [OpenClaim.pre_eq_preRow]; exact lifted os started H enc F)

/-- No parameter wants a stand-in; the program's own looks are off: what the card asks. -/
theorem plain (f : FuncId) (fn : Func) (hf : Tryd.pinned.checked.prog.funcNamed "trellis/trellislaw8.LocksFits" = some f) (hfn : Tryd.pinned.checked.prog.funcs[f]? = some fn) :
    false = Tryd.pinned.checked.prog.looks [] ∧ ∀ (j : Nat) t, fn.params[j]? = some t → Tryd.pinned.checked.prog.wantsStandIn t = false := by
  obtain rfl : f = 3 := Option.some.inj ((show Tryd.prog.funcNamed "trellis/trellislaw8.LocksFits" = some 3 by kernel_rfl).symm.trans hf) |>.symm
  obtain rfl : fn = Tryd.f3 := (Option.some.inj (Tryd.func3.symm.trans hfn)).symm
  refine ⟨by kernel_rfl, fun j t ht => ?_⟩
  rw [show Tryd.f3.params = #[3, 3] by kernel_rfl] at ht
  obtain rfl : t = 3 := by simpa using Array.mem_of_getElem? ht
  exact (show Tryd.prog.wantsStandIn 3 = false by kernel_rfl)

theorem card : Rows.LocksFitsCardSaid :=
  Claim7.holds_tied_plain_at .later [] _ _ _ _ said (fun _ h => by cases h) (by kernel_rfl) (fun _ h => by cases h) locksFits_row_tie rfl ⟨rfl, rfl⟩ (by kernel_rfl) rfl plain (by kernel_rfl)
end Go.Proofs.YtkiakofohkecaaaDoor.locksFits
namespace Go.Proofs.YtkiakofohkecaaaDoor
theorem locksFits_card : Rows.LocksFitsCardSaid := locksFits.card
end Go.Proofs.YtkiakofohkecaaaDoor
