/- What all texts of functions import: the program, the abstract layer, the data. No condition. -/
import Derived.Test.YtedlpghakpfjjaaChecked
import Derived.Test.YtedlpghakpfjjaaAb15
import Derived.Test.YtedlpghakpfjjaaData
namespace Go.Proofs.Ytedlpghakpfjjaa
open Go Go.Ab
theorem mixed : Try.prog.follows .mixedOrders = true := Try.checked.mixed
end Go.Proofs.Ytedlpghakpfjjaa
