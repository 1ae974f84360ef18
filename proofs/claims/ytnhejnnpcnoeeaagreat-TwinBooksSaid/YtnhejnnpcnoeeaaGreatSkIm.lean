/-
  Globals whose cells are known for good (block, cells): none here. A law whose card lists tables has a text of its own in this place.
-/
import Derived.Calls
namespace Go.Sk
def im0 : Nat → Option (Array Value) := fun _ => none
end Go.Sk
