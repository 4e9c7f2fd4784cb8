import Derived.Test.YtinfpggpfpmpbaaB1
namespace Go.Proofs.Ytinfpggpfpmpbaa
open Go.RowKit

end Go.Proofs.Ytinfpggpfpmpbaa
