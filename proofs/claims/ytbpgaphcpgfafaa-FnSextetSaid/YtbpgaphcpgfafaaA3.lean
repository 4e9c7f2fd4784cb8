import Derived.Test.YtbpgaphcpgfafaaA2
namespace Go.Proofs.Ytbpgaphcpgfafaa
open Go.RowKit

end Go.Proofs.Ytbpgaphcpgfafaa
