/-
  DERIVED. GIVEN WITH THE SEED: THE CARDS: each row of YtkiakofohkecaaaDoorRows.lean that lists a variable, with what it lists TIED to the program's text (the seventh form; the later family's looks); each row that meets fmt, with fmt's text TOLD by the authors' own Lean function (tested against real Go, not proved from fmt's source: count such statements apart). THE CARD IS WHAT COUNTS. Prove the row's statement (the work); the ties are given (YtkiakofohkecaaaDoorTie.lean); close each card by the builder's one call (the guide's Derived/Test/ToyasCard.lean, 'card_holds'). Laid BY PROGRAM, IN A SANDBOX (cutbox-door.mjs). By AI agents, Wed Nov 11 2026. No macro, syntax, notation, axiom, sorry.
-/
import Derived.Test.YtkiakofohkecaaaDoorRows
import GoSem.ClaimSeven
namespace Go.Proofs.YtkiakofohkecaaaDoor
namespace Rows

/-- THE TIED CARD OF 'trellislaw8.LocksFits'. -/
def locksFitsCard : Claim7 := { stood := { row := locksFitsRow, standIns := [], harness := (true, "fe1bb44f7dd6cba0ac42ed176eb14bbbe3a87d99612c550b826180021bfb97f2"), looks := false }, kinds := [], alts := [], laidByText := true, laidKinds := [.data, .data], laidTests := true, laidLooks := .later }
def LocksFitsCardSaid : Prop := Claim7.holds Tryd.pinned (.plain (OpenSpec.ofChange locksFitsSpec)) locksFitsCard

/-- THE TIED CARD OF 'trellislaw9.PathsHops'. -/
def pathsHopsCard : Claim7 := { stood := { row := pathsHopsRow, standIns := [], harness := (true, "fe1bb44f7dd6cba0ac42ed176eb14bbbe3a87d99612c550b826180021bfb97f2"), looks := false }, kinds := [], alts := [], laidByText := true, laidKinds := [.data], laidTests := true, laidLooks := .later }
def PathsHopsCardSaid : Prop := Claim7.holds Tryd.pinned (.plain (OpenSpec.ofChange pathsHopsSpec)) pathsHopsCard

/-- THE TIED CARD OF 'trellislaw9.PathsReaches'. -/
def pathsReachesCard : Claim7 := { stood := { row := pathsReachesRow, standIns := [], harness := (true, "fe1bb44f7dd6cba0ac42ed176eb14bbbe3a87d99612c550b826180021bfb97f2"), looks := false }, kinds := [], alts := [], laidByText := true, laidKinds := [.data], laidTests := true, laidLooks := .later }
def PathsReachesCardSaid : Prop := Claim7.holds Tryd.pinned (.plain (OpenSpec.ofChange pathsReachesSpec)) pathsReachesCard

/-- THE TIED CARD OF 'trellislaw9.PathsNear'. -/
def pathsNearCard : Claim7 := { stood := { row := pathsNearRow, standIns := [], harness := (true, "fe1bb44f7dd6cba0ac42ed176eb14bbbe3a87d99612c550b826180021bfb97f2"), looks := false }, kinds := [], alts := [], laidByText := true, laidKinds := [.data], laidTests := true, laidLooks := .later }
def PathsNearCardSaid : Prop := Claim7.holds Tryd.pinned (.plain (OpenSpec.ofChange pathsNearSpec)) pathsNearCard

/-- THE TIED CARD OF 'trellislaw9.PathsWays'. -/
def pathsWaysCard : Claim7 := { stood := { row := pathsWaysRow, standIns := [], harness := (true, "fe1bb44f7dd6cba0ac42ed176eb14bbbe3a87d99612c550b826180021bfb97f2"), looks := false }, kinds := [], alts := [], laidByText := true, laidKinds := [.data], laidTests := true, laidLooks := .later }
def PathsWaysCardSaid : Prop := Claim7.holds Tryd.pinned (.plain (OpenSpec.ofChange pathsWaysSpec)) pathsWaysCard

/-- THE TIED CARD OF 'trellislaw9.PathsLeast'. -/
def pathsLeastCard : Claim7 := { stood := { row := pathsLeastRow, standIns := [], harness := (true, "fe1bb44f7dd6cba0ac42ed176eb14bbbe3a87d99612c550b826180021bfb97f2"), looks := false }, kinds := [], alts := [], laidByText := true, laidKinds := [.data], laidTests := true, laidLooks := .later }
def PathsLeastCardSaid : Prop := Claim7.holds Tryd.pinned (.plain (OpenSpec.ofChange pathsLeastSpec)) pathsLeastCard

/-- THE TIED CARD OF 'trellislaw9.PathsParts'. -/
def pathsPartsCard : Claim7 := { stood := { row := pathsPartsRow, standIns := [], harness := (true, "fe1bb44f7dd6cba0ac42ed176eb14bbbe3a87d99612c550b826180021bfb97f2"), looks := false }, kinds := [], alts := [], laidByText := true, laidKinds := [.data], laidTests := true, laidLooks := .later }
def PathsPartsCardSaid : Prop := Claim7.holds Tryd.pinned (.plain (OpenSpec.ofChange pathsPartsSpec)) pathsPartsCard

/-- THE TIED CARD OF 'trellislaw9.PathsOrders'. -/
def pathsOrdersCard : Claim7 := { stood := { row := pathsOrdersRow, standIns := [], harness := (true, "fe1bb44f7dd6cba0ac42ed176eb14bbbe3a87d99612c550b826180021bfb97f2"), looks := false }, kinds := [], alts := [], laidByText := true, laidKinds := [.data], laidTests := true, laidLooks := .later }
def PathsOrdersCardSaid : Prop := Claim7.holds Tryd.pinned (.plain (OpenSpec.ofChange pathsOrdersSpec)) pathsOrdersCard

/-- THE TIED CARD OF 'trellislaw9.PathsForward'. -/
def pathsForwardCard : Claim7 := { stood := { row := pathsForwardRow, standIns := [], harness := (true, "fe1bb44f7dd6cba0ac42ed176eb14bbbe3a87d99612c550b826180021bfb97f2"), looks := false }, kinds := [], alts := [], laidByText := true, laidKinds := [.data], laidTests := true, laidLooks := .later }
def PathsForwardCardSaid : Prop := Claim7.holds Tryd.pinned (.plain (OpenSpec.ofChange pathsForwardSpec)) pathsForwardCard

/-- THE TIED CARD OF 'trellislaw9.PathsTogether'. -/
def pathsTogetherCard : Claim7 := { stood := { row := pathsTogetherRow, standIns := [], harness := (true, "fe1bb44f7dd6cba0ac42ed176eb14bbbe3a87d99612c550b826180021bfb97f2"), looks := false }, kinds := [], alts := [], laidByText := true, laidKinds := [.data], laidTests := true, laidLooks := .later }
def PathsTogetherCardSaid : Prop := Claim7.holds Tryd.pinned (.plain (OpenSpec.ofChange pathsTogetherSpec)) pathsTogetherCard

/-- THE TIED CARD OF 'trellislaw9.PathsNone'. -/
def pathsNoneCard : Claim7 := { stood := { row := pathsNoneRow, standIns := [], harness := (true, "fe1bb44f7dd6cba0ac42ed176eb14bbbe3a87d99612c550b826180021bfb97f2"), looks := false }, kinds := [], alts := [], laidByText := true, laidKinds := [.data], laidTests := true, laidLooks := .later }
def PathsNoneCardSaid : Prop := Claim7.holds Tryd.pinned (.plain (OpenSpec.ofChange pathsNoneSpec)) pathsNoneCard

/-- THE SECOND FORM's CARD OF 'trellislaw8.LocksFits'. -/
def locksFitsUptoCard : Claim7 := { stood := { row := locksFitsUptoRow, standIns := [], harness := (true, "fe1bb44f7dd6cba0ac42ed176eb14bbbe3a87d99612c550b826180021bfb97f2"), looks := false }, kinds := [], alts := [], laidByText := true, laidKinds := [.data, .data], laidTests := true, laidLooks := .later }
def LocksFitsUptoCardSaid : Prop := Claim7.holds Tryd.pinned (.plain (OpenSpec.upto locksFitsSpec)) locksFitsUptoCard

/-- THE SECOND FORM's CARD OF 'trellislaw9.PathsHops'. -/
def pathsHopsUptoCard : Claim7 := { stood := { row := pathsHopsUptoRow, standIns := [], harness := (true, "fe1bb44f7dd6cba0ac42ed176eb14bbbe3a87d99612c550b826180021bfb97f2"), looks := false }, kinds := [], alts := [], laidByText := true, laidKinds := [.data], laidTests := true, laidLooks := .later }
def PathsHopsUptoCardSaid : Prop := Claim7.holds Tryd.pinned (.plain (OpenSpec.upto pathsHopsSpec)) pathsHopsUptoCard

/-- THE SECOND FORM's CARD OF 'trellislaw9.PathsReaches'. -/
def pathsReachesUptoCard : Claim7 := { stood := { row := pathsReachesUptoRow, standIns := [], harness := (true, "fe1bb44f7dd6cba0ac42ed176eb14bbbe3a87d99612c550b826180021bfb97f2"), looks := false }, kinds := [], alts := [], laidByText := true, laidKinds := [.data], laidTests := true, laidLooks := .later }
def PathsReachesUptoCardSaid : Prop := Claim7.holds Tryd.pinned (.plain (OpenSpec.upto pathsReachesSpec)) pathsReachesUptoCard

/-- THE SECOND FORM's CARD OF 'trellislaw9.PathsNear'. -/
def pathsNearUptoCard : Claim7 := { stood := { row := pathsNearUptoRow, standIns := [], harness := (true, "fe1bb44f7dd6cba0ac42ed176eb14bbbe3a87d99612c550b826180021bfb97f2"), looks := false }, kinds := [], alts := [], laidByText := true, laidKinds := [.data], laidTests := true, laidLooks := .later }
def PathsNearUptoCardSaid : Prop := Claim7.holds Tryd.pinned (.plain (OpenSpec.upto pathsNearSpec)) pathsNearUptoCard

/-- THE SECOND FORM's CARD OF 'trellislaw9.PathsWays'. -/
def pathsWaysUptoCard : Claim7 := { stood := { row := pathsWaysUptoRow, standIns := [], harness := (true, "fe1bb44f7dd6cba0ac42ed176eb14bbbe3a87d99612c550b826180021bfb97f2"), looks := false }, kinds := [], alts := [], laidByText := true, laidKinds := [.data], laidTests := true, laidLooks := .later }
def PathsWaysUptoCardSaid : Prop := Claim7.holds Tryd.pinned (.plain (OpenSpec.upto pathsWaysSpec)) pathsWaysUptoCard

/-- THE SECOND FORM's CARD OF 'trellislaw9.PathsLeast'. -/
def pathsLeastUptoCard : Claim7 := { stood := { row := pathsLeastUptoRow, standIns := [], harness := (true, "fe1bb44f7dd6cba0ac42ed176eb14bbbe3a87d99612c550b826180021bfb97f2"), looks := false }, kinds := [], alts := [], laidByText := true, laidKinds := [.data], laidTests := true, laidLooks := .later }
def PathsLeastUptoCardSaid : Prop := Claim7.holds Tryd.pinned (.plain (OpenSpec.upto pathsLeastSpec)) pathsLeastUptoCard

/-- THE SECOND FORM's CARD OF 'trellislaw9.PathsParts'. -/
def pathsPartsUptoCard : Claim7 := { stood := { row := pathsPartsUptoRow, standIns := [], harness := (true, "fe1bb44f7dd6cba0ac42ed176eb14bbbe3a87d99612c550b826180021bfb97f2"), looks := false }, kinds := [], alts := [], laidByText := true, laidKinds := [.data], laidTests := true, laidLooks := .later }
def PathsPartsUptoCardSaid : Prop := Claim7.holds Tryd.pinned (.plain (OpenSpec.upto pathsPartsSpec)) pathsPartsUptoCard

/-- THE SECOND FORM's CARD OF 'trellislaw9.PathsOrders'. -/
def pathsOrdersUptoCard : Claim7 := { stood := { row := pathsOrdersUptoRow, standIns := [], harness := (true, "fe1bb44f7dd6cba0ac42ed176eb14bbbe3a87d99612c550b826180021bfb97f2"), looks := false }, kinds := [], alts := [], laidByText := true, laidKinds := [.data], laidTests := true, laidLooks := .later }
def PathsOrdersUptoCardSaid : Prop := Claim7.holds Tryd.pinned (.plain (OpenSpec.upto pathsOrdersSpec)) pathsOrdersUptoCard

/-- THE SECOND FORM's CARD OF 'trellislaw9.PathsForward'. -/
def pathsForwardUptoCard : Claim7 := { stood := { row := pathsForwardUptoRow, standIns := [], harness := (true, "fe1bb44f7dd6cba0ac42ed176eb14bbbe3a87d99612c550b826180021bfb97f2"), looks := false }, kinds := [], alts := [], laidByText := true, laidKinds := [.data], laidTests := true, laidLooks := .later }
def PathsForwardUptoCardSaid : Prop := Claim7.holds Tryd.pinned (.plain (OpenSpec.upto pathsForwardSpec)) pathsForwardUptoCard

/-- THE SECOND FORM's CARD OF 'trellislaw9.PathsTogether'. -/
def pathsTogetherUptoCard : Claim7 := { stood := { row := pathsTogetherUptoRow, standIns := [], harness := (true, "fe1bb44f7dd6cba0ac42ed176eb14bbbe3a87d99612c550b826180021bfb97f2"), looks := false }, kinds := [], alts := [], laidByText := true, laidKinds := [.data], laidTests := true, laidLooks := .later }
def PathsTogetherUptoCardSaid : Prop := Claim7.holds Tryd.pinned (.plain (OpenSpec.upto pathsTogetherSpec)) pathsTogetherUptoCard

/-- THE SECOND FORM's CARD OF 'trellislaw9.PathsNone'. -/
def pathsNoneUptoCard : Claim7 := { stood := { row := pathsNoneUptoRow, standIns := [], harness := (true, "fe1bb44f7dd6cba0ac42ed176eb14bbbe3a87d99612c550b826180021bfb97f2"), looks := false }, kinds := [], alts := [], laidByText := true, laidKinds := [.data], laidTests := true, laidLooks := .later }
def PathsNoneUptoCardSaid : Prop := Claim7.holds Tryd.pinned (.plain (OpenSpec.upto pathsNoneSpec)) pathsNoneUptoCard
end Rows
end Go.Proofs.YtkiakofohkecaaaDoor
