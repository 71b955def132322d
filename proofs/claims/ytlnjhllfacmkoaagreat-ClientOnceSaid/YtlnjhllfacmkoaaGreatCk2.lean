/- The closed call awake, and the law of a nil client, run by the kernel on the abstract machine. -/
import Derived.Test.YtlnjhllfacmkoaaGreatCk1
set_option maxRecDepth 100000
namespace Go.Proofs.YtlnjhllfacmkoaaGreat
open Go.Am
theorem awake_run : call Tryz.prog ClH 1000 7 [] heap0 = some (.bool true, heap0, true) := by kernel_rfl
theorem nobody_run (s r a0 a1 a2 a3 a4 a5 a6 a7 a8 a9 b0 b1 b2 : Int) : call Tryz.prog ClH 1000 6 [.int .i64 s, .int .i64 r, .agg #[.int .i64 a0, .int .i64 a1, .int .i64 a2, .int .i64 a3, .int .i64 a4, .int .i64 a5, .int .u32 a6, .int .u32 a7, .int .u32 a8, .int .u64 a9, .int .u64 b0, .int .u64 b1, .int .u64 b2]] heap0 = some (.bool true, heap0, true) := by
  intros; kernel_rfl
end Go.Proofs.YtlnjhllfacmkoaaGreat
