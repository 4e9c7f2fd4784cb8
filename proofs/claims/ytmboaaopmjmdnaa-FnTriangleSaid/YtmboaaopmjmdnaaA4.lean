import Derived.Test.YtmboaaopmjmdnaaA3
namespace Go.Proofs.Ytmboaaopmjmdnaa
open Go.RowKit

end Go.Proofs.Ytmboaaopmjmdnaa
