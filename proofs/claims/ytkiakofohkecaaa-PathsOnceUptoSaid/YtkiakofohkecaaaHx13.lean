/- PathsHeap: entries compared. No condition. -/
import Derived.Test.YtkiakofohkecaaaHx12
import Derived.Laws.StructEq
namespace Go.Proofs.Ytkiakofohkecaaa
open Go Go.Fw

theorem und3 : Try.prog.underlying 3 = some (.int .i64) := by kernel_rfl
theorem entry_neq (x y : Operand) (a b c d : Int) {K : Value → Prop} (hK : K (.bool (!(decide (a = c) && decide (b = d))))) : prS Try.prog (binS .neq 26 x y (.agg #[.int .i64 a, .int .i64 b]) (.agg #[.int .i64 c, .int .i64 d])) K := by
  refine ⟨_, fun w => ?_, hK⟩
  have hf : ((Try.prog.fieldsOf 26).toList.map fun f => (f.name, f.type, f.offset)) = [("Key", 2, 0), ("Tag", 3, 1)] := by kernel_rfl
  have hu : Try.prog.underlying 26 = some (.struct (Try.prog.fieldsOf 26)) := by kernel_rfl
  have hp : Try.prog.stoodInHeld 26 = false := by kernel_rfl
  have hg : Try.prog.eqGuardType Try.prog.depth 26 = false := by kernel_rfl
  have h2 : Try.prog.plainKey 2 = true := by kernel_rfl
  have h3 : Try.prog.plainKey 3 = true := by kernel_rfl
  have he : (Op.equal 26 (.agg #[.int .i64 a, .int .i64 b]) (.agg #[.int .i64 c, .int .i64 d])).run Try.prog w = .ok (decide (a = c) && decide (b = d)) w := by
    have e1 := run_equalIn_struct (P := Try.prog) w 9999 26 #[.int .i64 a, .int .i64 b] #[.int .i64 c, .int .i64 d] hu hp
    refine (show _ = _ from e1).trans ?_
    generalize (Try.prog.fieldsOf 26).toList = fs at hf
    obtain ⟨f1, f2, rfl⟩ : ∃ f1 f2, fs = [f1, f2] := by
      cases fs with
      | nil => simp at hf
      | cons f1 r =>
        cases r with
        | nil => simp at hf
        | cons f2 r =>
          cases r with
          | nil => exact ⟨f1, f2, rfl⟩
          | cons f3 r => simp at hf
    simp only [List.map_cons, List.map_nil, List.cons.injEq, Prod.mk.injEq, and_true] at hf
    obtain ⟨⟨n1, t1, o1⟩, n2, t2, o2⟩ := hf
    have p1 : (part 2 #[.int .i64 a, .int .i64 b] 0).run Try.prog w = .ok (.int .i64 a) w := run_part_plain w h2 rfl
    have p2 : (part 2 #[.int .i64 c, .int .i64 d] 0).run Try.prog w = .ok (.int .i64 c) w := run_part_plain w h2 rfl
    have p3 : (part 3 #[.int .i64 a, .int .i64 b] 1).run Try.prog w = .ok (.int .i64 b) w := run_part_plain w h3 rfl
    have p4 : (part 3 #[.int .i64 c, .int .i64 d] 1).run Try.prog w = .ok (.int .i64 d) w := run_part_plain w h3 rfl
    have q1 : (Op.equalIn 9999 2 (.int .i64 a) (.int .i64 c)).run Try.prog w = .ok (a == c) w := run_equalIn_int (P := Try.prog) w 9998 2 .i64 .i64 a c und2
    have q2 : (Op.equalIn 9999 3 (.int .i64 b) (.int .i64 d)).run Try.prog w = .ok (b == d) w := run_equalIn_int (P := Try.prog) w 9998 3 .i64 .i64 b d und3
    simp only [Op.eqFields, n1, t1, o1, n2, t2, o2, Sem.run_bind, Sem.run_ite, p1, p2, p3, p4, q1, q2, Result.andThen_ok]
    by_cases hac : a = c
    · by_cases hbd : b = d <;> simp [hac, hbd]
    · simp [hac]
  simp [binS, eqGuard, hg, binOp, he]
end Go.Proofs.Ytkiakofohkecaaa
