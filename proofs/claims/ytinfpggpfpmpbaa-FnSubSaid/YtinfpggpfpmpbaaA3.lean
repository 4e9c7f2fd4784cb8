import Derived.Test.YtinfpggpfpmpbaaA2
namespace Go.Proofs.Ytinfpggpfpmpbaa
open Go.RowKit

end Go.Proofs.Ytinfpggpfpmpbaa
