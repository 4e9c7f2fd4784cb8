import Derived.Test.YtmboaaopmjmdnaaB1
namespace Go.Proofs.Ytmboaaopmjmdnaa
open Go.RowKit

end Go.Proofs.Ytmboaaopmjmdnaa
