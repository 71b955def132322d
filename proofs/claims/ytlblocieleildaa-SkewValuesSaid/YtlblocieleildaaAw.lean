/- The closed call awake, run by the kernel on the abstract machine. -/
import Derived.Test.YtlblocieleildaaSk1
set_option maxRecDepth 100000
namespace Go.Proofs.Ytlblocieleildaa
open Go.Am
theorem awake_run : call Try.prog SkH 100000 11 [] heap0 = some (.bool true, heap0, true) := by kernel_rfl
end Go.Proofs.Ytlblocieleildaa
