/- That the program keeps the order of its assignments; what the other texts of this claim lean on. No condition. -/
import Derived.Test.YtkiakofohkecaaaRows
import Derived.Test.YtkiakofohkecaaaFw14
namespace Go.Proofs.Ytkiakofohkecaaa
theorem follows_mixed : Try.prog.follows .mixedOrders = true := by kernel_rfl
end Go.Proofs.Ytkiakofohkecaaa
