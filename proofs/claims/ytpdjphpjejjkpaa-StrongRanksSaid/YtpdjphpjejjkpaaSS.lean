/- The chapter's examples hold. -/
import Derived.Test.YtpdjphpjejjkpaaG2
namespace Go.Fx.Gen
open Go.Proofs
theorem sane_run : f6.run = some true := by kernel_rfl
end Go.Fx.Gen
