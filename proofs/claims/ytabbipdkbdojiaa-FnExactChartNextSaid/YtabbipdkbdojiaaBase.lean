/- What all texts of functions import: the program, the abstract layer, the data. No condition. -/
import Derived.Test.YtabbipdkbdojiaaChecked
import Derived.Test.YtabbipdkbdojiaaAb15
import Derived.Test.YtabbipdkbdojiaaData
namespace Go.Proofs.Ytabbipdkbdojiaa
open Go Go.Ab
theorem mixed : Try.prog.follows .mixedOrders = true := Try.checked.mixed
end Go.Proofs.Ytabbipdkbdojiaa
