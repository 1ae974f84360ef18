/-
  Slices that were written in place and will not be written any more: what is behind them is known.
-/
import Derived.Test.YtfhgobimlckfeaaGreatDoorSkX7
import Derived.Test.YtfhgobimlckfeaaGreatDoorSkX3
namespace Go.Sk

end Go.Sk

