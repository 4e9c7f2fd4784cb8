import Derived.Test.YtmboaaopmjmdnaaA4
namespace Go.Proofs.Ytmboaaopmjmdnaa
open Go.RowKit

end Go.Proofs.Ytmboaaopmjmdnaa
