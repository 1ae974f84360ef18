/-
  A global whose cells are known for good: the table that the card lists and strconv.Itoa reads.
-/
import Derived.Calls
import Derived.Lib.ItoaNum
namespace Go.Sk
def im0 : Nat → Option (Array Value) := fun b => if b = 1 then some (Lib.pow10Tab.map fun z => Value.int .u64 z).toArray else none
end Go.Sk

