/- The code of some functions of the program, as the abstract layer has it, each with the equation that says so. No condition. -/
import Derived.Test.YtabbipdkbdojiaaBase
namespace Go.Proofs.Ytabbipdkbdojiaa
open Go Go.Ab
end Go.Proofs.Ytabbipdkbdojiaa
