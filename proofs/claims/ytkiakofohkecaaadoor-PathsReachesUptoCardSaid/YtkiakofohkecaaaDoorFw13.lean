/- The framework, part 13: from what a call leaves alone to what a row asks. No condition. -/
import Derived.Test.YtkiakofohkecaaaDoorFw12
import Derived.RowKit3
namespace Go.Fw
open Go

theorem frozen_frz (w : World) (a : Addr) : w.frozen? a = (decide ((frz w.heap[a.block]?).1 ≤ a.off) && decide (a.off < (frz w.heap[a.block]?).2)) := by
  unfold World.frozen?
  cases w.heap[a.block]? with
  | none => simp [frz]
  | some o => cases o <;> simp only [frz] <;> first | rfl | simp

theorem grown_of {W W' : World} (hs : same W W') (f : Fr W.heap W'.heap []) : RowKit.Grown W W' := by
  refine ⟨⟨hs.1, hs.2.2, fun i hi => ?_⟩, fun a => by rw [frozen_frz, frozen_frz, f.fz], f.size⟩
  rw [f.keep i hi (by simp)]
  cases h : W.heap[i]? with
  | none => trivial
  | some o => cases o <;> simp
end Go.Fw
