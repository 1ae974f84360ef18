/-
  Arguments as the rows read them: lists of bytes.
-/
import Derived.Test.YtnhejnnpcnoeeaaGreatSkRow
import Derived.Test.YtnhejnnpcnoeeaaGreatSkX5
import Derived.ChangeSlices
import Derived.WideShapes
namespace Go.Sk
open Go.RowKit Go.ChangeShapes Go.WideShapes
section
variable {H : Type} {enc : TypeId × Value → H} {P : Program} {w : World} {base : Nat}
end
end Go.Sk
