/- Walks: the law ParseOrder. No condition but the cell that the library's search reads. -/
import Derived.Test.YtbinaeemcidicaaZQP
import Derived.Test.YtbinaeemcidicaaZOrd
namespace Go.Proofs.Ytbinaeemcidicaa
open Go.PB Go.RowKit
attribute [local irreducible] Go.Calls
end Go.Proofs.Ytbinaeemcidicaa
