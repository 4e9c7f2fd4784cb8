import Derived.Test.YthggjkpnjogcaaaB1
namespace Go.Proofs.Ythggjkpnjogcaaa
open Go.RowKit

end Go.Proofs.Ythggjkpnjogcaaa
