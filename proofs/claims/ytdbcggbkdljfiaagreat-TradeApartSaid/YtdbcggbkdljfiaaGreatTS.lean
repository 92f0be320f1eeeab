
/- Trade: the chapter's example. -/
import Derived.Test.YtdbcggbkdljfiaaGreatG1
namespace Go.Fx.Gen
open Go.Fx Go.Proofs
namespace Trd
theorem sane_run : f6.run = some true := by kernel_rfl
end Trd
end Go.Fx.Gen
