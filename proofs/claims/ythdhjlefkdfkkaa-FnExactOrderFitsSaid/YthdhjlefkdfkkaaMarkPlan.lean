/- The contracts of the statements' own helpers over plans: mark, held. No condition. -/
import Derived.Test.YthdhjlefkdfkkaaLawPlan
namespace Go.Proofs.Ythdhjlefkdfkkaa
open Go.RowKit
set_option maxRecDepth 100000

end Go.Proofs.Ythdhjlefkdfkkaa
