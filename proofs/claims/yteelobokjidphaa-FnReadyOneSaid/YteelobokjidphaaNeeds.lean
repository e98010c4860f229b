/- What a node needs, directly or not: the contracts of the program and of the reference. No condition. -/
import Derived.Test.YteelobokjidphaaUse
import Derived.Test.YteelobokjidphaaUsePure
import Derived.Test.YteelobokjidphaaOwn
import Derived.Test.YteelobokjidphaaBits
import Derived.RegionTactic
namespace Go.Proofs.Yteelobokjidphaa
open Go.RowKit
set_option maxRecDepth 100000

end Go.Proofs.Yteelobokjidphaa
