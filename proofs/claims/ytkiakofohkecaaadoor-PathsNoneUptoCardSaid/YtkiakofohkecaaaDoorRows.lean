/-
  NARROWER THAN 'FOR EVERY INPUT', by the rows' own cells (each row's printed sentence says how): LocksFits: laid · PathsHops: laid · PathsReaches: laid · PathsNear: laid · PathsWays: laid · PathsLeast: laid · PathsParts: laid · PathsOrders: laid · PathsForward: laid · PathsTogether: laid · PathsNone: laid.
  DERIVED. THE GIVEN ROWS OF THIS SEAT. 11 by the template 'for every input the law returns true; each argument reads behind the call as it read before'; 0 by the template 'total and deterministic' (their statements: YtkiakofohkecaaaDoorTotals.lean).
  GIVEN WITH THE SEED: the statements are not yours to turn. If you find one false, say at which input.
  Laid BY PROGRAM, IN A SANDBOX (cutbox-rows.mjs): the forced cells as the released guide's own fill.sh prints them over the translation 33a5028bddcdc8a8… (all of the seat's roots in one cut). By AI agents, Wed Nov 11 2026. No macro, syntax, notation, axiom, sorry.
-/
import Derived.Test.YtkiakofohkecaaaDoorChecked
import GoSem.Claim
import GoSem.ClaimJoined
import GoSem.ClaimMapViews
import Derived.JoinedTies
import Derived.KernelRfl
namespace Go.Proofs.YtkiakofohkecaaaDoor
/- THE CELL 'sum', in the pinned program and in every row, IS THE sha256 OF THE DUMP (.gsa) THAT YtkiakofohkecaaaDoorProg.lean LOADS. Nothing in Lean hashes anything: it is a label: what it is worth is what the hold of that sum in a sandbox is worth. -/
noncomputable def Tryd.pinned : Pinned := { name := "ytkiakofohkecaaadoor", sum := "33a5028bddcdc8a83ad118ab5283c6d4ea8831647714ec6df13dc17276a32c5f", checked := Tryd.checked }
namespace Rows
def none {H : Type} : Left H := { results := [], args := [] }

/- WHAT THE LISTED PACKAGE-LEVEL VARIABLES READ AS WHEN THE CALL BEGINS. Each datum BY PROGRAM (the guide's laid-datum.mjs) off the statement by which the dump's own 'gosem.cut.vars' lays the variable. In a bare row this is a premise. The card (YtkiakofohkecaaaDoorCards.lean) ties it to the program's text. -/
def laid_trellis_locks_fits {H : Type} : DataW H := .agg [.agg [.lit (.int .i64 0), .lit (.int .i64 0), .lit (.int .i64 0), .lit (.int .i64 0), .lit (.int .i64 0), .lit (.int .i64 0)], .agg [.lit (.int .i64 0), .lit (.int .i64 1), .lit (.int .i64 1), .lit (.int .i64 1), .lit (.int .i64 1), .lit (.int .i64 0)], .agg [.lit (.int .i64 0), .lit (.int .i64 1), .lit (.int .i64 1), .lit (.int .i64 0), .lit (.int .i64 0), .lit (.int .i64 0)], .agg [.lit (.int .i64 0), .lit (.int .i64 1), .lit (.int .i64 0), .lit (.int .i64 1), .lit (.int .i64 0), .lit (.int .i64 0)], .agg [.lit (.int .i64 0), .lit (.int .i64 1), .lit (.int .i64 0), .lit (.int .i64 0), .lit (.int .i64 0), .lit (.int .i64 0)], .agg [.lit (.int .i64 0), .lit (.int .i64 0), .lit (.int .i64 0), .lit (.int .i64 0), .lit (.int .i64 0), .lit (.int .i64 0)]]
def laid_trellis_locks_joins {H : Type} : DataW H := .agg [.agg [.lit (.int .i64 0), .lit (.int .i64 1), .lit (.int .i64 2), .lit (.int .i64 3), .lit (.int .i64 4), .lit (.int .i64 5)], .agg [.lit (.int .i64 1), .lit (.int .i64 1), .lit (.int .i64 2), .lit (.int .i64 3), .lit (.int .i64 4), .lit (.int .i64 5)], .agg [.lit (.int .i64 2), .lit (.int .i64 2), .lit (.int .i64 2), .lit (.int .i64 4), .lit (.int .i64 4), .lit (.int .i64 5)], .agg [.lit (.int .i64 3), .lit (.int .i64 3), .lit (.int .i64 4), .lit (.int .i64 3), .lit (.int .i64 4), .lit (.int .i64 5)], .agg [.lit (.int .i64 4), .lit (.int .i64 4), .lit (.int .i64 4), .lit (.int .i64 4), .lit (.int .i64 4), .lit (.int .i64 5)], .agg [.lit (.int .i64 5), .lit (.int .i64 5), .lit (.int .i64 5), .lit (.int .i64 5), .lit (.int .i64 5), .lit (.int .i64 5)]]
def laid_trellis_trellislaw9_pathsMark {H : Type} : DataW H := .agg [.lit (.int .i64 (-71)), .lit (.int .i64 (-72)), .lit (.int .i64 (-73))]

/-- 'trellislaw8.LocksFits': WHATEVER THE INPUT: true; the input reads as it did. -/
def locksFitsSpec : ChangeSpec := { name := "locksFits", fn := fun _ => fun
  | [d1, d2] => { results := [.lit (.bool true)], args := [d1, d2] }
  | _ => none }
def locksFitsRow : OpenClaim := { program := "ytkiakofohkecaaadoor", sum := "33a5028bddcdc8a83ad118ab5283c6d4ea8831647714ec6df13dc17276a32c5f", func := "trellis/trellislaw8.LocksFits", spec := "locksFits", named := ["trellis/locks.fits", "trellis/locks.joins"], apart := false, laid := [("trellis/locks.fits", laid_trellis_locks_fits), ("trellis/locks.joins", laid_trellis_locks_joins)] }
def LocksFitsSaid : Prop := locksFitsRow.holds Tryd.pinned (OpenSpec.ofChange locksFitsSpec)

/-- ITS FALSE NEIGHBOUR: 'it returns false'. Refute it at one input. -/
def locksFitsWrong : ChangeSpec := { name := "locksFits", fn := fun _ => fun
  | [d1, d2] => { results := [.lit (.bool false)], args := [d1, d2] }
  | _ => none }
def LocksFitsWrongFalsely : Prop := locksFitsRow.holds Tryd.pinned (OpenSpec.ofChange locksFitsWrong)

/-- 'trellislaw9.PathsHops': WHATEVER THE INPUT: true; the input reads as it did. -/
def pathsHopsSpec : ChangeSpec := { name := "pathsHops", fn := fun _ => fun
  | [d1, d2, d3] => { results := [.lit (.bool true)], args := [d1, d2, d3] }
  | _ => none }
def pathsHopsRow : OpenClaim := { program := "ytkiakofohkecaaadoor", sum := "33a5028bddcdc8a83ad118ab5283c6d4ea8831647714ec6df13dc17276a32c5f", func := "trellis/trellislaw9.PathsHops", spec := "pathsHops", unfollowed := true, recurses := true, named := ["trellis/trellislaw9.pathsMark"], apart := false, laid := [("trellis/trellislaw9.pathsMark", laid_trellis_trellislaw9_pathsMark)] }
def PathsHopsSaid : Prop := pathsHopsRow.holds Tryd.pinned (OpenSpec.ofChange pathsHopsSpec)

/-- ITS FALSE NEIGHBOUR: 'it returns false'. Refute it at one input. -/
def pathsHopsWrong : ChangeSpec := { name := "pathsHops", fn := fun _ => fun
  | [d1, d2, d3] => { results := [.lit (.bool false)], args := [d1, d2, d3] }
  | _ => none }
def PathsHopsWrongFalsely : Prop := pathsHopsRow.holds Tryd.pinned (OpenSpec.ofChange pathsHopsWrong)

/-- 'trellislaw9.PathsReaches': WHATEVER THE INPUT: true; the input reads as it did. -/
def pathsReachesSpec : ChangeSpec := { name := "pathsReaches", fn := fun _ => fun
  | [d1, d2, d3] => { results := [.lit (.bool true)], args := [d1, d2, d3] }
  | _ => none }
def pathsReachesRow : OpenClaim := { program := "ytkiakofohkecaaadoor", sum := "33a5028bddcdc8a83ad118ab5283c6d4ea8831647714ec6df13dc17276a32c5f", func := "trellis/trellislaw9.PathsReaches", spec := "pathsReaches", unfollowed := true, recurses := true, named := ["trellis/trellislaw9.pathsMark"], apart := false, laid := [("trellis/trellislaw9.pathsMark", laid_trellis_trellislaw9_pathsMark)] }
def PathsReachesSaid : Prop := pathsReachesRow.holds Tryd.pinned (OpenSpec.ofChange pathsReachesSpec)

/-- ITS FALSE NEIGHBOUR: 'it returns false'. Refute it at one input. -/
def pathsReachesWrong : ChangeSpec := { name := "pathsReaches", fn := fun _ => fun
  | [d1, d2, d3] => { results := [.lit (.bool false)], args := [d1, d2, d3] }
  | _ => none }
def PathsReachesWrongFalsely : Prop := pathsReachesRow.holds Tryd.pinned (OpenSpec.ofChange pathsReachesWrong)

/-- 'trellislaw9.PathsNear': WHATEVER THE INPUT: true; the input reads as it did. -/
def pathsNearSpec : ChangeSpec := { name := "pathsNear", fn := fun _ => fun
  | [d1, d2, d3] => { results := [.lit (.bool true)], args := [d1, d2, d3] }
  | _ => none }
def pathsNearRow : OpenClaim := { program := "ytkiakofohkecaaadoor", sum := "33a5028bddcdc8a83ad118ab5283c6d4ea8831647714ec6df13dc17276a32c5f", func := "trellis/trellislaw9.PathsNear", spec := "pathsNear", unfollowed := true, recurses := true, named := ["trellis/trellislaw9.pathsMark"], apart := false, laid := [("trellis/trellislaw9.pathsMark", laid_trellis_trellislaw9_pathsMark)] }
def PathsNearSaid : Prop := pathsNearRow.holds Tryd.pinned (OpenSpec.ofChange pathsNearSpec)

/-- ITS FALSE NEIGHBOUR: 'it returns false'. Refute it at one input. -/
def pathsNearWrong : ChangeSpec := { name := "pathsNear", fn := fun _ => fun
  | [d1, d2, d3] => { results := [.lit (.bool false)], args := [d1, d2, d3] }
  | _ => none }
def PathsNearWrongFalsely : Prop := pathsNearRow.holds Tryd.pinned (OpenSpec.ofChange pathsNearWrong)

/-- 'trellislaw9.PathsWays': WHATEVER THE INPUT: true; the input reads as it did. -/
def pathsWaysSpec : ChangeSpec := { name := "pathsWays", fn := fun _ => fun
  | [d1, d2, d3] => { results := [.lit (.bool true)], args := [d1, d2, d3] }
  | _ => none }
def pathsWaysRow : OpenClaim := { program := "ytkiakofohkecaaadoor", sum := "33a5028bddcdc8a83ad118ab5283c6d4ea8831647714ec6df13dc17276a32c5f", func := "trellis/trellislaw9.PathsWays", spec := "pathsWays", unfollowed := true, recurses := true, named := ["trellis/trellislaw9.pathsMark"], apart := false, laid := [("trellis/trellislaw9.pathsMark", laid_trellis_trellislaw9_pathsMark)] }
def PathsWaysSaid : Prop := pathsWaysRow.holds Tryd.pinned (OpenSpec.ofChange pathsWaysSpec)

/-- ITS FALSE NEIGHBOUR: 'it returns false'. Refute it at one input. -/
def pathsWaysWrong : ChangeSpec := { name := "pathsWays", fn := fun _ => fun
  | [d1, d2, d3] => { results := [.lit (.bool false)], args := [d1, d2, d3] }
  | _ => none }
def PathsWaysWrongFalsely : Prop := pathsWaysRow.holds Tryd.pinned (OpenSpec.ofChange pathsWaysWrong)

/-- 'trellislaw9.PathsLeast': WHATEVER THE INPUT: true; the input reads as it did. -/
def pathsLeastSpec : ChangeSpec := { name := "pathsLeast", fn := fun _ => fun
  | [d1, d2] => { results := [.lit (.bool true)], args := [d1, d2] }
  | _ => none }
def pathsLeastRow : OpenClaim := { program := "ytkiakofohkecaaadoor", sum := "33a5028bddcdc8a83ad118ab5283c6d4ea8831647714ec6df13dc17276a32c5f", func := "trellis/trellislaw9.PathsLeast", spec := "pathsLeast", unfollowed := true, recurses := true, named := ["trellis/trellislaw9.pathsMark"], apart := false, laid := [("trellis/trellislaw9.pathsMark", laid_trellis_trellislaw9_pathsMark)] }
def PathsLeastSaid : Prop := pathsLeastRow.holds Tryd.pinned (OpenSpec.ofChange pathsLeastSpec)

/-- ITS FALSE NEIGHBOUR: 'it returns false'. Refute it at one input. -/
def pathsLeastWrong : ChangeSpec := { name := "pathsLeast", fn := fun _ => fun
  | [d1, d2] => { results := [.lit (.bool false)], args := [d1, d2] }
  | _ => none }
def PathsLeastWrongFalsely : Prop := pathsLeastRow.holds Tryd.pinned (OpenSpec.ofChange pathsLeastWrong)

/-- 'trellislaw9.PathsParts': WHATEVER THE INPUT: true; the input reads as it did. -/
def pathsPartsSpec : ChangeSpec := { name := "pathsParts", fn := fun _ => fun
  | [d1, d2] => { results := [.lit (.bool true)], args := [d1, d2] }
  | _ => none }
def pathsPartsRow : OpenClaim := { program := "ytkiakofohkecaaadoor", sum := "33a5028bddcdc8a83ad118ab5283c6d4ea8831647714ec6df13dc17276a32c5f", func := "trellis/trellislaw9.PathsParts", spec := "pathsParts", unfollowed := true, recurses := true, named := ["trellis/trellislaw9.pathsMark"], apart := false, laid := [("trellis/trellislaw9.pathsMark", laid_trellis_trellislaw9_pathsMark)] }
def PathsPartsSaid : Prop := pathsPartsRow.holds Tryd.pinned (OpenSpec.ofChange pathsPartsSpec)

/-- ITS FALSE NEIGHBOUR: 'it returns false'. Refute it at one input. -/
def pathsPartsWrong : ChangeSpec := { name := "pathsParts", fn := fun _ => fun
  | [d1, d2] => { results := [.lit (.bool false)], args := [d1, d2] }
  | _ => none }
def PathsPartsWrongFalsely : Prop := pathsPartsRow.holds Tryd.pinned (OpenSpec.ofChange pathsPartsWrong)

/-- 'trellislaw9.PathsOrders': WHATEVER THE INPUT: true; the input reads as it did. -/
def pathsOrdersSpec : ChangeSpec := { name := "pathsOrders", fn := fun _ => fun
  | [d1, d2] => { results := [.lit (.bool true)], args := [d1, d2] }
  | _ => none }
def pathsOrdersRow : OpenClaim := { program := "ytkiakofohkecaaadoor", sum := "33a5028bddcdc8a83ad118ab5283c6d4ea8831647714ec6df13dc17276a32c5f", func := "trellis/trellislaw9.PathsOrders", spec := "pathsOrders", unfollowed := true, recurses := true, named := ["trellis/trellislaw9.pathsMark"], apart := false, laid := [("trellis/trellislaw9.pathsMark", laid_trellis_trellislaw9_pathsMark)] }
def PathsOrdersSaid : Prop := pathsOrdersRow.holds Tryd.pinned (OpenSpec.ofChange pathsOrdersSpec)

/-- ITS FALSE NEIGHBOUR: 'it returns false'. Refute it at one input. -/
def pathsOrdersWrong : ChangeSpec := { name := "pathsOrders", fn := fun _ => fun
  | [d1, d2] => { results := [.lit (.bool false)], args := [d1, d2] }
  | _ => none }
def PathsOrdersWrongFalsely : Prop := pathsOrdersRow.holds Tryd.pinned (OpenSpec.ofChange pathsOrdersWrong)

/-- 'trellislaw9.PathsForward': WHATEVER THE INPUT: true; the input reads as it did. -/
def pathsForwardSpec : ChangeSpec := { name := "pathsForward", fn := fun _ => fun
  | [d1, d2] => { results := [.lit (.bool true)], args := [d1, d2] }
  | _ => none }
def pathsForwardRow : OpenClaim := { program := "ytkiakofohkecaaadoor", sum := "33a5028bddcdc8a83ad118ab5283c6d4ea8831647714ec6df13dc17276a32c5f", func := "trellis/trellislaw9.PathsForward", spec := "pathsForward", unfollowed := true, recurses := true, named := ["trellis/trellislaw9.pathsMark"], apart := false, laid := [("trellis/trellislaw9.pathsMark", laid_trellis_trellislaw9_pathsMark)] }
def PathsForwardSaid : Prop := pathsForwardRow.holds Tryd.pinned (OpenSpec.ofChange pathsForwardSpec)

/-- ITS FALSE NEIGHBOUR: 'it returns false'. Refute it at one input. -/
def pathsForwardWrong : ChangeSpec := { name := "pathsForward", fn := fun _ => fun
  | [d1, d2] => { results := [.lit (.bool false)], args := [d1, d2] }
  | _ => none }
def PathsForwardWrongFalsely : Prop := pathsForwardRow.holds Tryd.pinned (OpenSpec.ofChange pathsForwardWrong)

/-- 'trellislaw9.PathsTogether': WHATEVER THE INPUT: true; the input reads as it did. -/
def pathsTogetherSpec : ChangeSpec := { name := "pathsTogether", fn := fun _ => fun
  | [d1, d2] => { results := [.lit (.bool true)], args := [d1, d2] }
  | _ => none }
def pathsTogetherRow : OpenClaim := { program := "ytkiakofohkecaaadoor", sum := "33a5028bddcdc8a83ad118ab5283c6d4ea8831647714ec6df13dc17276a32c5f", func := "trellis/trellislaw9.PathsTogether", spec := "pathsTogether", unfollowed := true, recurses := true, named := ["trellis/trellislaw9.pathsMark"], apart := false, laid := [("trellis/trellislaw9.pathsMark", laid_trellis_trellislaw9_pathsMark)] }
def PathsTogetherSaid : Prop := pathsTogetherRow.holds Tryd.pinned (OpenSpec.ofChange pathsTogetherSpec)

/-- ITS FALSE NEIGHBOUR: 'it returns false'. Refute it at one input. -/
def pathsTogetherWrong : ChangeSpec := { name := "pathsTogether", fn := fun _ => fun
  | [d1, d2] => { results := [.lit (.bool false)], args := [d1, d2] }
  | _ => none }
def PathsTogetherWrongFalsely : Prop := pathsTogetherRow.holds Tryd.pinned (OpenSpec.ofChange pathsTogetherWrong)

/-- 'trellislaw9.PathsNone': WHATEVER THE INPUT: true; the input reads as it did. -/
def pathsNoneSpec : ChangeSpec := { name := "pathsNone", fn := fun _ => fun
  | [d1, d2, d3, d4] => { results := [.lit (.bool true)], args := [d1, d2, d3, d4] }
  | _ => none }
def pathsNoneRow : OpenClaim := { program := "ytkiakofohkecaaadoor", sum := "33a5028bddcdc8a83ad118ab5283c6d4ea8831647714ec6df13dc17276a32c5f", func := "trellis/trellislaw9.PathsNone", spec := "pathsNone", unfollowed := true, recurses := true, named := ["trellis/trellislaw9.pathsMark"], apart := false, laid := [("trellis/trellislaw9.pathsMark", laid_trellis_trellislaw9_pathsMark)] }
def PathsNoneSaid : Prop := pathsNoneRow.holds Tryd.pinned (OpenSpec.ofChange pathsNoneSpec)

/-- ITS FALSE NEIGHBOUR: 'it returns false'. Refute it at one input. -/
def pathsNoneWrong : ChangeSpec := { name := "pathsNone", fn := fun _ => fun
  | [d1, d2, d3, d4] => { results := [.lit (.bool false)], args := [d1, d2, d3, d4] }
  | _ => none }
def PathsNoneWrongFalsely : Prop := pathsNoneRow.holds Tryd.pinned (OpenSpec.ofChange pathsNoneWrong)

/- THE SECOND FORM. 'bulk': how many values and letters a reading holds, each counted each time it is reached (what is shared counts as often as it is met; a slice's spare places count too). A statement '..UptoSaid' is the law's where the arguments, and the package variables that the reading takes, are together of bulk at most 1048576: NARROWER than '..Said'. Prove '..Said' where nothing that the law and all that it calls make is longer than what came in: it says more and counts as full. Else prove '..UptoSaid'. A law counts once. -/
mutual
def uptoBulk {H : Type} : DataW H → Nat
  | .lit (.string bytes) => bytes.length + 1
  | .lit _ => 1
  | .nil => 1
  | .ptr d => uptoBulk d + 1
  | .slice elems spare => uptoBulkAll elems + uptoBulkAll spare + 1
  | .agg parts => uptoBulkAll parts + 1
  | .iface _ d => uptoBulk d + 1
  | .map entries => uptoBulkEntries entries + 1
  | .held _ => 1
def uptoBulkAll {H : Type} : List (DataW H) → Nat
  | [] => 0
  | d :: r => uptoBulk d + uptoBulkAll r
def uptoBulkEntries {H : Type} : List (Lit × DataW H) → Nat
  | [] => 0
  | x :: r => uptoBulkEntry x + uptoBulkEntries r
def uptoBulkEntry {H : Type} : Lit × DataW H → Nat
  | (.string bytes, d) => bytes.length + uptoBulk d + 1
  | (_, d) => uptoBulk d + 1
 end
def uptoSmall : (H : Type) → List (DataW H) → Bool := fun _ ds => decide (uptoBulkAll ds ≤ 1048576)
def OpenSpec.upto (s : _root_.Go.ChangeSpec) : _root_.Go.OpenSpec := { _root_.Go.OpenSpec.ofChange s with cond := some uptoSmall }

/-- 'trellislaw8.LocksFits', WHERE WHAT IT READS IS OF BULK AT MOST 1048576: true; the input reads as it did. -/
def locksFitsUptoRow : OpenClaim := { program := "ytkiakofohkecaaadoor", sum := "33a5028bddcdc8a83ad118ab5283c6d4ea8831647714ec6df13dc17276a32c5f", func := "trellis/trellislaw8.LocksFits", spec := "locksFits", named := ["trellis/locks.fits", "trellis/locks.joins"], apart := false, laid := [("trellis/locks.fits", laid_trellis_locks_fits), ("trellis/locks.joins", laid_trellis_locks_joins)], narrowed := true }
def LocksFitsUptoSaid : Prop := locksFitsUptoRow.holds Tryd.pinned (OpenSpec.upto locksFitsSpec)

/-- 'trellislaw9.PathsHops', WHERE WHAT IT READS IS OF BULK AT MOST 1048576: true; the input reads as it did. -/
def pathsHopsUptoRow : OpenClaim := { program := "ytkiakofohkecaaadoor", sum := "33a5028bddcdc8a83ad118ab5283c6d4ea8831647714ec6df13dc17276a32c5f", func := "trellis/trellislaw9.PathsHops", spec := "pathsHops", unfollowed := true, recurses := true, named := ["trellis/trellislaw9.pathsMark"], apart := false, laid := [("trellis/trellislaw9.pathsMark", laid_trellis_trellislaw9_pathsMark)], narrowed := true }
def PathsHopsUptoSaid : Prop := pathsHopsUptoRow.holds Tryd.pinned (OpenSpec.upto pathsHopsSpec)

/-- 'trellislaw9.PathsReaches', WHERE WHAT IT READS IS OF BULK AT MOST 1048576: true; the input reads as it did. -/
def pathsReachesUptoRow : OpenClaim := { program := "ytkiakofohkecaaadoor", sum := "33a5028bddcdc8a83ad118ab5283c6d4ea8831647714ec6df13dc17276a32c5f", func := "trellis/trellislaw9.PathsReaches", spec := "pathsReaches", unfollowed := true, recurses := true, named := ["trellis/trellislaw9.pathsMark"], apart := false, laid := [("trellis/trellislaw9.pathsMark", laid_trellis_trellislaw9_pathsMark)], narrowed := true }
def PathsReachesUptoSaid : Prop := pathsReachesUptoRow.holds Tryd.pinned (OpenSpec.upto pathsReachesSpec)

/-- 'trellislaw9.PathsNear', WHERE WHAT IT READS IS OF BULK AT MOST 1048576: true; the input reads as it did. -/
def pathsNearUptoRow : OpenClaim := { program := "ytkiakofohkecaaadoor", sum := "33a5028bddcdc8a83ad118ab5283c6d4ea8831647714ec6df13dc17276a32c5f", func := "trellis/trellislaw9.PathsNear", spec := "pathsNear", unfollowed := true, recurses := true, named := ["trellis/trellislaw9.pathsMark"], apart := false, laid := [("trellis/trellislaw9.pathsMark", laid_trellis_trellislaw9_pathsMark)], narrowed := true }
def PathsNearUptoSaid : Prop := pathsNearUptoRow.holds Tryd.pinned (OpenSpec.upto pathsNearSpec)

/-- 'trellislaw9.PathsWays', WHERE WHAT IT READS IS OF BULK AT MOST 1048576: true; the input reads as it did. -/
def pathsWaysUptoRow : OpenClaim := { program := "ytkiakofohkecaaadoor", sum := "33a5028bddcdc8a83ad118ab5283c6d4ea8831647714ec6df13dc17276a32c5f", func := "trellis/trellislaw9.PathsWays", spec := "pathsWays", unfollowed := true, recurses := true, named := ["trellis/trellislaw9.pathsMark"], apart := false, laid := [("trellis/trellislaw9.pathsMark", laid_trellis_trellislaw9_pathsMark)], narrowed := true }
def PathsWaysUptoSaid : Prop := pathsWaysUptoRow.holds Tryd.pinned (OpenSpec.upto pathsWaysSpec)

/-- 'trellislaw9.PathsLeast', WHERE WHAT IT READS IS OF BULK AT MOST 1048576: true; the input reads as it did. -/
def pathsLeastUptoRow : OpenClaim := { program := "ytkiakofohkecaaadoor", sum := "33a5028bddcdc8a83ad118ab5283c6d4ea8831647714ec6df13dc17276a32c5f", func := "trellis/trellislaw9.PathsLeast", spec := "pathsLeast", unfollowed := true, recurses := true, named := ["trellis/trellislaw9.pathsMark"], apart := false, laid := [("trellis/trellislaw9.pathsMark", laid_trellis_trellislaw9_pathsMark)], narrowed := true }
def PathsLeastUptoSaid : Prop := pathsLeastUptoRow.holds Tryd.pinned (OpenSpec.upto pathsLeastSpec)

/-- 'trellislaw9.PathsParts', WHERE WHAT IT READS IS OF BULK AT MOST 1048576: true; the input reads as it did. -/
def pathsPartsUptoRow : OpenClaim := { program := "ytkiakofohkecaaadoor", sum := "33a5028bddcdc8a83ad118ab5283c6d4ea8831647714ec6df13dc17276a32c5f", func := "trellis/trellislaw9.PathsParts", spec := "pathsParts", unfollowed := true, recurses := true, named := ["trellis/trellislaw9.pathsMark"], apart := false, laid := [("trellis/trellislaw9.pathsMark", laid_trellis_trellislaw9_pathsMark)], narrowed := true }
def PathsPartsUptoSaid : Prop := pathsPartsUptoRow.holds Tryd.pinned (OpenSpec.upto pathsPartsSpec)

/-- 'trellislaw9.PathsOrders', WHERE WHAT IT READS IS OF BULK AT MOST 1048576: true; the input reads as it did. -/
def pathsOrdersUptoRow : OpenClaim := { program := "ytkiakofohkecaaadoor", sum := "33a5028bddcdc8a83ad118ab5283c6d4ea8831647714ec6df13dc17276a32c5f", func := "trellis/trellislaw9.PathsOrders", spec := "pathsOrders", unfollowed := true, recurses := true, named := ["trellis/trellislaw9.pathsMark"], apart := false, laid := [("trellis/trellislaw9.pathsMark", laid_trellis_trellislaw9_pathsMark)], narrowed := true }
def PathsOrdersUptoSaid : Prop := pathsOrdersUptoRow.holds Tryd.pinned (OpenSpec.upto pathsOrdersSpec)

/-- 'trellislaw9.PathsForward', WHERE WHAT IT READS IS OF BULK AT MOST 1048576: true; the input reads as it did. -/
def pathsForwardUptoRow : OpenClaim := { program := "ytkiakofohkecaaadoor", sum := "33a5028bddcdc8a83ad118ab5283c6d4ea8831647714ec6df13dc17276a32c5f", func := "trellis/trellislaw9.PathsForward", spec := "pathsForward", unfollowed := true, recurses := true, named := ["trellis/trellislaw9.pathsMark"], apart := false, laid := [("trellis/trellislaw9.pathsMark", laid_trellis_trellislaw9_pathsMark)], narrowed := true }
def PathsForwardUptoSaid : Prop := pathsForwardUptoRow.holds Tryd.pinned (OpenSpec.upto pathsForwardSpec)

/-- 'trellislaw9.PathsTogether', WHERE WHAT IT READS IS OF BULK AT MOST 1048576: true; the input reads as it did. -/
def pathsTogetherUptoRow : OpenClaim := { program := "ytkiakofohkecaaadoor", sum := "33a5028bddcdc8a83ad118ab5283c6d4ea8831647714ec6df13dc17276a32c5f", func := "trellis/trellislaw9.PathsTogether", spec := "pathsTogether", unfollowed := true, recurses := true, named := ["trellis/trellislaw9.pathsMark"], apart := false, laid := [("trellis/trellislaw9.pathsMark", laid_trellis_trellislaw9_pathsMark)], narrowed := true }
def PathsTogetherUptoSaid : Prop := pathsTogetherUptoRow.holds Tryd.pinned (OpenSpec.upto pathsTogetherSpec)

/-- 'trellislaw9.PathsNone', WHERE WHAT IT READS IS OF BULK AT MOST 1048576: true; the input reads as it did. -/
def pathsNoneUptoRow : OpenClaim := { program := "ytkiakofohkecaaadoor", sum := "33a5028bddcdc8a83ad118ab5283c6d4ea8831647714ec6df13dc17276a32c5f", func := "trellis/trellislaw9.PathsNone", spec := "pathsNone", unfollowed := true, recurses := true, named := ["trellis/trellislaw9.pathsMark"], apart := false, laid := [("trellis/trellislaw9.pathsMark", laid_trellis_trellislaw9_pathsMark)], narrowed := true }
def PathsNoneUptoSaid : Prop := pathsNoneUptoRow.holds Tryd.pinned (OpenSpec.upto pathsNoneSpec)

end Rows
end Go.Proofs.YtkiakofohkecaaaDoor
