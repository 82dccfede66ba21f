/- What stands behind the first token that is left does not count: in plain Lean. No condition. -/
import Derived.Test.YtbinaeemcidicaaZInv
namespace Go.Proofs.Ytbinaeemcidicaa
end Go.Proofs.Ytbinaeemcidicaa
namespace Go.Proofs.Ytbinaeemcidicaa
end Go.Proofs.Ytbinaeemcidicaa
