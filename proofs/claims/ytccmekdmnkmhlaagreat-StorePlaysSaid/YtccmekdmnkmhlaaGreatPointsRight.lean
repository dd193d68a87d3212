/-
  What the document's Points and window.Right answer. No condition but a bound on the length. (soft)
-/
import Derived.Test.YtccmekdmnkmhlaaGreatPoints
namespace Go.Proofs.YtccmekdmnkmhlaaGreat
open Go.RowKit

end Go.Proofs.YtccmekdmnkmhlaaGreat
