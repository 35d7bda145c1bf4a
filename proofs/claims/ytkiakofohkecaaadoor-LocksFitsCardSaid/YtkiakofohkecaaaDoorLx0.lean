/- That the program keeps the order of its assignments; what the other texts of this claim lean on. No condition. -/
import Derived.Test.YtkiakofohkecaaaDoorRows
import Derived.Test.YtkiakofohkecaaaDoorFw12
namespace Go.Proofs.YtkiakofohkecaaaDoor
theorem follows_mixed : Tryd.prog.follows .mixedOrders = true := by kernel_rfl
end Go.Proofs.YtkiakofohkecaaaDoor
