/- What all laws use: the calls but for awake. -/
import Derived.Test.YtlblocieleildaaTp1
set_option linter.unusedVariables false
namespace Go.Proofs.Ytlblocieleildaa
open Go.Am
theorem cfT_ne {f : FuncId} (h : f ≠ 11) : cfT f = callW Try.prog SkH f := cfA_ne h
theorem cfT_at {h : Heap} : cfT 11 [] h = some (.bool true, h, true) := cfA_at
theorem bool_beq (b : Bool) : (b == b) = true := by cases b <;> rfl
attribute [go_sem] bool_beq
end Go.Proofs.Ytlblocieleildaa
