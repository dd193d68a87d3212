/-
  Lists of labels, rows and lists of rows that are alike, or not; what a row takes; are labels few and short enough. No condition but bounds on the lengths. (soft)
-/
import Derived.Test.YtbnacoakjhhndaaGreatRowPut
import Derived.Test.YtbnacoakjhhndaaGreatLabelSame
namespace Go.Proofs.YtbnacoakjhhndaaGreat
open Go.RowKit

end Go.Proofs.YtbnacoakjhhndaaGreat
