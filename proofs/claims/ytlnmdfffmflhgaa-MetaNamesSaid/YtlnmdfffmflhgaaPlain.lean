/- Words of my own, printed by a program of mine. -/
import Derived.Test.YtlnmdfffmflhgaaDfns
section
namespace Go.Ev
set_option maxRecDepth 100000
theorem metaNames_m : law05_MetaNames 10000 = some true := by kernel_rfl
end Go.Ev
end