import Derived.Test.YtkiakofohkecaaaDoorRows
import Derived.Test.YtkiakofohkecaaaDoorMb
namespace Go.Proofs.YtkiakofohkecaaaDoor
theorem follows_mixed : Tryd.prog.follows .mixedOrders = true := by kernel_rfl
end Go.Proofs.YtkiakofohkecaaaDoor
