/- Contracts of flat functions of the client's program, by runs along a script. -/
import Derived.Test.YtlnjhllfacmkoaaGreatCk1
import Derived.Test.YtlnjhllfacmkoaaGreatAm36
set_option linter.unusedVariables false
set_option maxRecDepth 100000
namespace Go.Proofs.YtlnjhllfacmkoaaGreat
open Go.Am

/-- an equation that arithmetic is not to look into -/
def Eqv (a b : Int) : Prop := a = b
theorem Eqv.symm {a b : Int} (h : Eqv a b) : b = a := Eq.symm h
theorem Eqv.rfl {a : Int} : Eqv a a := Eq.refl a
theorem Eqv.out {a b : Int} (h : Eqv a b) : a = b := h
theorem r_c145_1000000000 (x x0 x1 x2 x3 x4 x5 x6 : Int) (h : Heap) : flatX Tryz.prog ClH [15, 17, 24, 27, 29, 30, 32, 34, 38, 39, 42, 44, 46, 47, 50] 200 145 [.int .u64 x, .int .u64 1000000000] h [.int .u64 x0, .int .u64 x1, .int .u64 (1000000000 * x0), .int .u64 (1000000000 * x1), .int .u64 x2, .int .u64 (1000000000 * x1 + x2), .int .u64 x3, .int .u64 x4, .int .u64 0, .int .u64 x3, .int .u64 0, .int .u64 x4, .int .u64 x5, .int .u64 (x4 + x5), .int .u64 x6] = some ([.int .u64 (x4 + x5), .int .u64 x6], h, [.bin .and 22 (.int .u64 x) (.int .u64 4294967295) (.int .u64 x0), .bin .shr 22 (.int .u64 x) (.int .u64 32) (.int .u64 x1), .bin .mul 22 (.int .u64 x0) (.int .u64 1000000000) (.int .u64 (1000000000 * x0)), .bin .mul 22 (.int .u64 x1) (.int .u64 1000000000) (.int .u64 (1000000000 * x1)), .bin .shr 22 (.int .u64 (1000000000 * x0)) (.int .u64 32) (.int .u64 x2), .bin .add 22 (.int .u64 (1000000000 * x1)) (.int .u64 x2) (.int .u64 (1000000000 * x1 + x2)), .bin .and 22 (.int .u64 (1000000000 * x1 + x2)) (.int .u64 4294967295) (.int .u64 x3), .bin .shr 22 (.int .u64 (1000000000 * x1 + x2)) (.int .u64 32) (.int .u64 x4), .bin .mul 22 (.int .u64 x0) (.int .u64 0) (.int .u64 0), .bin .add 22 (.int .u64 x3) (.int .u64 0) (.int .u64 x3), .bin .mul 22 (.int .u64 x1) (.int .u64 0) (.int .u64 0), .bin .add 22 (.int .u64 0) (.int .u64 x4) (.int .u64 x4), .bin .shr 22 (.int .u64 x3) (.int .u64 32) (.int .u64 x5), .bin .add 22 (.int .u64 x4) (.int .u64 x5) (.int .u64 (x4 + x5)), .bin .mul 22 (.int .u64 x) (.int .u64 1000000000) (.int .u64 x6)]) := by kernel_rfl
theorem c145_1000000000 (x : Int) (hx : 0 ≤ x ∧ x < 18446744073709551616) (h : Heap) : callW Tryz.prog ClH 145 [.int .u64 x, .int .u64 1000000000] h = some (.tuple #[.int .u64 (x * 1000000000 / 18446744073709551616), .int .u64 (x * 1000000000 % 18446744073709551616)], h, true) := by
  obtain ⟨x0, hx0⟩ : ∃ z : Int, z = x % 2 ^ 32 := ⟨_, rfl⟩
  obtain ⟨x1, hx1⟩ : ∃ z : Int, z = x / 2 ^ 32 := ⟨_, rfl⟩
  obtain ⟨x2, hx2⟩ : ∃ z : Int, z = (1000000000 * x0) / 2 ^ 32 := ⟨_, rfl⟩
  obtain ⟨x3, hx3⟩ : ∃ z : Int, z = (1000000000 * x1 + x2) % 2 ^ 32 := ⟨_, rfl⟩
  obtain ⟨x4, hx4⟩ : ∃ z : Int, z = (1000000000 * x1 + x2) / 2 ^ 32 := ⟨_, rfl⟩
  obtain ⟨x5, hx5⟩ : ∃ z : Int, z = x3 / 2 ^ 32 := ⟨_, rfl⟩
  obtain ⟨x6, hx6⟩ : ∃ z : Int, z = (x * 1000000000) % 18446744073709551616 := ⟨_, rfl⟩
  have key := flat_ok (P := Tryz.prog) (H := ClH) (fun h => r_c145_1000000000 x x0 x1 x2 x3 x4 x5 x6 h) rfl (ob_cons (ob_and 32 (by decide) (by omega) (by decide) hx0.symm) (ob_cons (ob_shr 32 (by decide) hx1.symm) (ob_cons (ob_mul (wu64 (by omega))) (ob_cons (ob_mul (wu64 (by omega))) (ob_cons (ob_shr 32 (by decide) hx2.symm) (ob_cons (ob_add (wu64 (by omega))) (ob_cons (ob_and 32 (by decide) (by omega) (by decide) hx3.symm) (ob_cons (ob_shr 32 (by decide) hx4.symm) (ob_cons (ob_mul (wu64 (by omega))) (ob_cons (ob_add (wu64 (by omega))) (ob_cons (ob_mul (wu64 (by omega))) (ob_cons (ob_add (wu64 (by omega))) (ob_cons (ob_shr 32 (by decide) hx5.symm) (ob_cons (ob_add (wu64 (by omega))) (ob_cons (ob_mul (wu64 hx6.symm)) ob_nil))))))))))))))) h
  have e0 : (x4 + x5 : Int) = x * 1000000000 / 18446744073709551616 := by omega
  have e1 : (x6 : Int) = x * 1000000000 % 18446744073709551616 := by omega
  have eq : packR [.int .u64 (x4 + x5), .int .u64 x6] = .tuple #[.int .u64 (x * 1000000000 / 18446744073709551616), .int .u64 (x * 1000000000 % 18446744073709551616)] := by rw [e0, e1]; rfl
  rw [eq] at key
  exact key
theorem r_c145_4294967296 (x x0 x1 x2 x3 x4 x5 x6 : Int) (h : Heap) : flatX Tryz.prog ClH [15, 17, 24, 27, 29, 30, 32, 34, 38, 39, 42, 44, 46, 47, 50] 200 145 [.int .u64 x, .int .u64 4294967296] h [.int .u64 x0, .int .u64 x1, .int .u64 0, .int .u64 0, .int .u64 x2, .int .u64 x2, .int .u64 x3, .int .u64 x4, .int .u64 x0, .int .u64 (x0 + x3), .int .u64 x1, .int .u64 (x1 + x4), .int .u64 x5, .int .u64 (x1 + x4 + x5), .int .u64 x6] = some ([.int .u64 (x1 + x4 + x5), .int .u64 x6], h, [.bin .and 22 (.int .u64 x) (.int .u64 4294967295) (.int .u64 x0), .bin .shr 22 (.int .u64 x) (.int .u64 32) (.int .u64 x1), .bin .mul 22 (.int .u64 x0) (.int .u64 0) (.int .u64 0), .bin .mul 22 (.int .u64 x1) (.int .u64 0) (.int .u64 0), .bin .shr 22 (.int .u64 0) (.int .u64 32) (.int .u64 x2), .bin .add 22 (.int .u64 0) (.int .u64 x2) (.int .u64 x2), .bin .and 22 (.int .u64 x2) (.int .u64 4294967295) (.int .u64 x3), .bin .shr 22 (.int .u64 x2) (.int .u64 32) (.int .u64 x4), .bin .mul 22 (.int .u64 x0) (.int .u64 1) (.int .u64 x0), .bin .add 22 (.int .u64 x3) (.int .u64 x0) (.int .u64 (x0 + x3)), .bin .mul 22 (.int .u64 x1) (.int .u64 1) (.int .u64 x1), .bin .add 22 (.int .u64 x1) (.int .u64 x4) (.int .u64 (x1 + x4)), .bin .shr 22 (.int .u64 (x0 + x3)) (.int .u64 32) (.int .u64 x5), .bin .add 22 (.int .u64 (x1 + x4)) (.int .u64 x5) (.int .u64 (x1 + x4 + x5)), .bin .mul 22 (.int .u64 x) (.int .u64 4294967296) (.int .u64 x6)]) := by kernel_rfl
theorem c145_4294967296 (x : Int) (hx : 0 ≤ x ∧ x < 18446744073709551616) (h : Heap) : callW Tryz.prog ClH 145 [.int .u64 x, .int .u64 4294967296] h = some (.tuple #[.int .u64 (x * 4294967296 / 18446744073709551616), .int .u64 (x * 4294967296 % 18446744073709551616)], h, true) := by
  obtain ⟨x0, hx0⟩ : ∃ z : Int, z = x % 2 ^ 32 := ⟨_, rfl⟩
  obtain ⟨x1, hx1⟩ : ∃ z : Int, z = x / 2 ^ 32 := ⟨_, rfl⟩
  obtain ⟨x2, hx2⟩ : ∃ z : Int, z = 0 / 2 ^ 32 := ⟨_, rfl⟩
  obtain ⟨x3, hx3⟩ : ∃ z : Int, z = x2 % 2 ^ 32 := ⟨_, rfl⟩
  obtain ⟨x4, hx4⟩ : ∃ z : Int, z = x2 / 2 ^ 32 := ⟨_, rfl⟩
  obtain ⟨x5, hx5⟩ : ∃ z : Int, z = (x0 + x3) / 2 ^ 32 := ⟨_, rfl⟩
  obtain ⟨x6, hx6⟩ : ∃ z : Int, z = (x * 4294967296) % 18446744073709551616 := ⟨_, rfl⟩
  have key := flat_ok (P := Tryz.prog) (H := ClH) (fun h => r_c145_4294967296 x x0 x1 x2 x3 x4 x5 x6 h) rfl (ob_cons (ob_and 32 (by decide) (by omega) (by decide) hx0.symm) (ob_cons (ob_shr 32 (by decide) hx1.symm) (ob_cons (ob_mul (wu64 (by omega))) (ob_cons (ob_mul (wu64 (by omega))) (ob_cons (ob_shr 32 (by decide) hx2.symm) (ob_cons (ob_add (wu64 (by omega))) (ob_cons (ob_and 32 (by decide) (by omega) (by decide) hx3.symm) (ob_cons (ob_shr 32 (by decide) hx4.symm) (ob_cons (ob_mul (wu64 (by omega))) (ob_cons (ob_add (wu64 (by omega))) (ob_cons (ob_mul (wu64 (by omega))) (ob_cons (ob_add (wu64 (by omega))) (ob_cons (ob_shr 32 (by decide) hx5.symm) (ob_cons (ob_add (wu64 (by omega))) (ob_cons (ob_mul (wu64 hx6.symm)) ob_nil))))))))))))))) h
  have e0 : (x1 + x4 + x5 : Int) = x * 4294967296 / 18446744073709551616 := by omega
  have e1 : (x6 : Int) = x * 4294967296 % 18446744073709551616 := by omega
  have eq : packR [.int .u64 (x1 + x4 + x5), .int .u64 x6] = .tuple #[.int .u64 (x * 4294967296 / 18446744073709551616), .int .u64 (x * 4294967296 % 18446744073709551616)] := by rw [e0, e1]; rfl
  rw [eq] at key
  exact key
theorem r_c145_0 (x x0 x1 x2 x3 x4 x5 : Int) (h : Heap) : flatX Tryz.prog ClH [15, 17, 24, 27, 29, 30, 32, 34, 38, 39, 42, 44, 46, 47, 50] 200 145 [.int .u64 x, .int .u64 0] h [.int .u64 x0, .int .u64 x1, .int .u64 0, .int .u64 0, .int .u64 x2, .int .u64 x2, .int .u64 x3, .int .u64 x4, .int .u64 0, .int .u64 x3, .int .u64 0, .int .u64 x4, .int .u64 x5, .int .u64 (x4 + x5), .int .u64 0] = some ([.int .u64 (x4 + x5), .int .u64 0], h, [.bin .and 22 (.int .u64 x) (.int .u64 4294967295) (.int .u64 x0), .bin .shr 22 (.int .u64 x) (.int .u64 32) (.int .u64 x1), .bin .mul 22 (.int .u64 x0) (.int .u64 0) (.int .u64 0), .bin .mul 22 (.int .u64 x1) (.int .u64 0) (.int .u64 0), .bin .shr 22 (.int .u64 0) (.int .u64 32) (.int .u64 x2), .bin .add 22 (.int .u64 0) (.int .u64 x2) (.int .u64 x2), .bin .and 22 (.int .u64 x2) (.int .u64 4294967295) (.int .u64 x3), .bin .shr 22 (.int .u64 x2) (.int .u64 32) (.int .u64 x4), .bin .mul 22 (.int .u64 x0) (.int .u64 0) (.int .u64 0), .bin .add 22 (.int .u64 x3) (.int .u64 0) (.int .u64 x3), .bin .mul 22 (.int .u64 x1) (.int .u64 0) (.int .u64 0), .bin .add 22 (.int .u64 0) (.int .u64 x4) (.int .u64 x4), .bin .shr 22 (.int .u64 x3) (.int .u64 32) (.int .u64 x5), .bin .add 22 (.int .u64 x4) (.int .u64 x5) (.int .u64 (x4 + x5)), .bin .mul 22 (.int .u64 x) (.int .u64 0) (.int .u64 0)]) := by kernel_rfl
theorem c145_0 (x : Int) (hx : 0 ≤ x ∧ x < 18446744073709551616) (h : Heap) : callW Tryz.prog ClH 145 [.int .u64 x, .int .u64 0] h = some (.tuple #[.int .u64 (0), .int .u64 0], h, true) := by
  obtain ⟨x0, hx0⟩ : ∃ z : Int, z = x % 2 ^ 32 := ⟨_, rfl⟩
  obtain ⟨x1, hx1⟩ : ∃ z : Int, z = x / 2 ^ 32 := ⟨_, rfl⟩
  obtain ⟨x2, hx2⟩ : ∃ z : Int, z = 0 / 2 ^ 32 := ⟨_, rfl⟩
  obtain ⟨x3, hx3⟩ : ∃ z : Int, z = x2 % 2 ^ 32 := ⟨_, rfl⟩
  obtain ⟨x4, hx4⟩ : ∃ z : Int, z = x2 / 2 ^ 32 := ⟨_, rfl⟩
  obtain ⟨x5, hx5⟩ : ∃ z : Int, z = x3 / 2 ^ 32 := ⟨_, rfl⟩
  have key := flat_ok (P := Tryz.prog) (H := ClH) (fun h => r_c145_0 x x0 x1 x2 x3 x4 x5 h) rfl (ob_cons (ob_and 32 (by decide) (by omega) (by decide) hx0.symm) (ob_cons (ob_shr 32 (by decide) hx1.symm) (ob_cons (ob_mul (wu64 (by omega))) (ob_cons (ob_mul (wu64 (by omega))) (ob_cons (ob_shr 32 (by decide) hx2.symm) (ob_cons (ob_add (wu64 (by omega))) (ob_cons (ob_and 32 (by decide) (by omega) (by decide) hx3.symm) (ob_cons (ob_shr 32 (by decide) hx4.symm) (ob_cons (ob_mul (wu64 (by omega))) (ob_cons (ob_add (wu64 (by omega))) (ob_cons (ob_mul (wu64 (by omega))) (ob_cons (ob_add (wu64 (by omega))) (ob_cons (ob_shr 32 (by decide) hx5.symm) (ob_cons (ob_add (wu64 (by omega))) (ob_cons (ob_mul (wu64 (by omega))) ob_nil))))))))))))))) h
  have e0 : (x4 + x5 : Int) = 0 := by omega
  have eq : packR [.int .u64 (x4 + x5), .int .u64 0] = .tuple #[.int .u64 (0), .int .u64 0] := by rw [e0]; rfl
  rw [eq] at key
  exact key
theorem r_c145_era (h : Heap) : flatX Tryz.prog ClH [] 200 145 [.int .u64 0, .int .u64 4294967296000000000] h [] = some ([.int .u64 0, .int .u64 0], h, []) := by kernel_rfl
theorem c145_era  (h : Heap) : callW Tryz.prog ClH 145 [.int .u64 0, .int .u64 4294967296000000000] h = some (.tuple #[.int .u64 0, .int .u64 0], h, true) := by
  have key := flat_ok (P := Tryz.prog) (H := ClH) (fun h => r_c145_era h) rfl ob_nil h
  exact key
theorem r_c146_p (x : Int) (h : Heap) : flatX Tryz.prog ClH [4, 9] 200 146 [.int .i64 x] h [.bool false, .int .u64 x] = some ([.int .u64 x], h, [.bin .lss 3 (.int .i64 x) (.int .i64 0) (.bool false), .conv 3 22 (.int .i64 x) (.int .u64 x)]) := by kernel_rfl
theorem c146_p (x : Int) (hx : 0 ≤ x ∧ x ≤ 9223372036854775807) (h : Heap) : callW Tryz.prog ClH 146 [.int .i64 x] h = some (.int .u64 x, h, true) := by
  have key := flat_ok (P := Tryz.prog) (H := ClH) (fun h => r_c146_p x h) rfl (ob_cons (ob_nlss (by omega)) (ob_cons (ob_conv Tryz.underlying3 Tryz.underlying22 (by rw [IntKind.wrap_u64]; omega)) ob_nil)) h
  exact key
theorem r_c146_n (x x0 x1 : Int) (h : Heap) : flatX Tryz.prog ClH [4, 6, 7] 200 146 [.int .i64 x] h [.bool true, .int .u64 x0, .int .u64 x1] = some ([.int .u64 x1], h, [.bin .lss 3 (.int .i64 x) (.int .i64 0) (.bool true), .conv 3 22 (.int .i64 x) (.int .u64 x0), .un .neg (.int .u64 x0) (.int .u64 x1)]) := by kernel_rfl
theorem c146_n (x : Int) (hx : -9223372036854775808 ≤ x ∧ x < 0) (h : Heap) : callW Tryz.prog ClH 146 [.int .i64 x] h = some (.int .u64 (-x), h, true) := by
  obtain ⟨x0, hx0⟩ : ∃ z : Int, z = x % 18446744073709551616 := ⟨_, rfl⟩
  obtain ⟨x1, hx1⟩ : ∃ z : Int, z = (-x0) % 18446744073709551616 := ⟨_, rfl⟩
  have key := flat_ok (P := Tryz.prog) (H := ClH) (fun h => r_c146_n x x0 x1 h) rfl (ob_cons (ob_lss (by omega)) (ob_cons (ob_conv Tryz.underlying3 Tryz.underlying22 (by rw [IntKind.wrap_u64]; omega)) (ob_cons (ob_neg (wu64 (by omega))) ob_nil))) h
  have e0 : (x1 : Int) = -x := by omega
  have eq : packR [.int .u64 x1] = .int .u64 (-x) := by rw [e0]; rfl
  rw [eq] at key
  exact key
theorem r_c146_0 (h : Heap) : flatX Tryz.prog ClH [] 200 146 [.int .i64 0] h [] = some ([.int .u64 0], h, []) := by kernel_rfl
theorem c146_0  (h : Heap) : callW Tryz.prog ClH 146 [.int .i64 0] h = some (.int .u64 0, h, true) := by
  have key := flat_ok (P := Tryz.prog) (H := ClH) (fun h => r_c146_0 h) rfl ob_nil h
  exact key
theorem r_c146_1000000000 (h : Heap) : flatX Tryz.prog ClH [] 200 146 [.int .i64 1000000000] h [] = some ([.int .u64 1000000000], h, []) := by kernel_rfl
theorem c146_1000000000  (h : Heap) : callW Tryz.prog ClH 146 [.int .i64 1000000000] h = some (.int .u64 1000000000, h, true) := by
  have key := flat_ok (P := Tryz.prog) (H := ClH) (fun h => r_c146_1000000000 h) rfl ob_nil h
  exact key
theorem r_c146_4294967296000000000 (h : Heap) : flatX Tryz.prog ClH [] 200 146 [.int .i64 4294967296000000000] h [] = some ([.int .u64 4294967296000000000], h, []) := by kernel_rfl
theorem c146_4294967296000000000  (h : Heap) : callW Tryz.prog ClH 146 [.int .i64 4294967296000000000] h = some (.int .u64 4294967296000000000, h, true) := by
  have key := flat_ok (P := Tryz.prog) (H := ClH) (fun h => r_c146_4294967296000000000 h) rfl ob_nil h
  exact key
theorem r_c147_p (x : Int) (h : Heap) : flatX Tryz.prog ClH [13, 15] 200 147 [.int .u64 x, .bool false] h [.bool false, .int .i64 x] = some ([.int .i64 x, .bool true], h, [.bin .geq 22 (.int .u64 x) (.int .u64 9223372036854775808) (.bool false), .conv 22 3 (.int .u64 x) (.int .i64 x)]) := by kernel_rfl
theorem c147_p (x : Int) (hx : 0 ≤ x ∧ x ≤ 9223372036854775807) (h : Heap) : callW Tryz.prog ClH 147 [.int .u64 x, .bool false] h = some (.tuple #[.int .i64 x, .bool true], h, true) := by
  have key := flat_ok (P := Tryz.prog) (H := ClH) (fun h => r_c147_p x h) rfl (ob_cons (ob_ngeq (by omega)) (ob_cons (ob_conv Tryz.underlying22 Tryz.underlying3 (by rw [IntKind.wrap_i64]; omega)) ob_nil)) h
  exact key
theorem r_c147_n (x x0 x1 : Int) (h : Heap) : flatX Tryz.prog ClH [8, 10, 11] 200 147 [.int .u64 x, .bool true] h [.bool false, .int .u64 x0, .int .i64 x1] = some ([.int .i64 x1, .bool true], h, [.bin .gtr 22 (.int .u64 x) (.int .u64 9223372036854775808) (.bool false), .un .neg (.int .u64 x) (.int .u64 x0), .conv 22 3 (.int .u64 x0) (.int .i64 x1)]) := by kernel_rfl
theorem c147_n (x : Int) (hx : 0 ≤ x ∧ x ≤ 9223372036854775807) (h : Heap) : callW Tryz.prog ClH 147 [.int .u64 x, .bool true] h = some (.tuple #[.int .i64 (-x), .bool true], h, true) := by
  obtain ⟨x0, hx0⟩ : ∃ z : Int, z = (-x) % 18446744073709551616 := ⟨_, rfl⟩
  obtain ⟨x1, hx1⟩ : ∃ z : Int, z = (x0 + 9223372036854775808) % 18446744073709551616 - 9223372036854775808 := ⟨_, rfl⟩
  have key := flat_ok (P := Tryz.prog) (H := ClH) (fun h => r_c147_n x x0 x1 h) rfl (ob_cons (ob_ngtr (by omega)) (ob_cons (ob_neg (wu64 (by omega))) (ob_cons (ob_conv Tryz.underlying22 Tryz.underlying3 (by rw [IntKind.wrap_i64]; omega)) ob_nil))) h
  have e0 : (x1 : Int) = -x := by omega
  have eq : packR [.int .i64 x1, .bool true] = .tuple #[.int .i64 (-x), .bool true] := by rw [e0]; rfl
  rw [eq] at key
  exact key
theorem r_c147_0 (h : Heap) : flatX Tryz.prog ClH [] 200 147 [.int .u64 0, .bool false] h [] = some ([.int .i64 0, .bool true], h, []) := by kernel_rfl
theorem c147_0  (h : Heap) : callW Tryz.prog ClH 147 [.int .u64 0, .bool false] h = some (.tuple #[.int .i64 0, .bool true], h, true) := by
  have key := flat_ok (P := Tryz.prog) (H := ClH) (fun h => r_c147_0 h) rfl ob_nil h
  exact key
theorem md3 (a b c : Int) : ((b + a % 18446744073709551616) - c % 18446744073709551616) % 18446744073709551616 = (b + a - c) % 18446744073709551616 := by omega
theorem md4 (a b c : Int) : ((a % 18446744073709551616 + b) - c % 18446744073709551616) % 18446744073709551616 = (a + b - c) % 18446744073709551616 := by omega
theorem dv0 {y x x0 x1 : Int} (hy : 0 < y ∧ y < 1000000000) (hx : 0 ≤ x ∧ x < 18446744073709551616) (h0 : x0 = x / 2 ^ 30) (h1 : x1 = 17179869184 * y + x0) : (0 ≤ x0 ∧ x0 < 17179869184) ∧ 0 ≤ x1 ∧ x1 < 17179869184000000000 := by omega
theorem dv2 {x x0 x2 x3 x4 : Int} (hx : 0 ≤ x ∧ x < 18446744073709551616) (h0 : x0 = x / 2 ^ 30) (h2 : x2 = (x * 17179869184) % 18446744073709551616) (h3 : x3 = x2 / 2 ^ 32) (h4 : x4 = x2 % 2 ^ 32) :
    x2 = (x - x0 * 1073741824) * 17179869184 ∧ x2 = x3 * 4294967296 + x4 ∧ 0 ≤ x3 ∧ x3 < 4294967296 ∧ 0 ≤ x4 ∧ x4 < 4294967296 ∧ 0 ≤ x2 ∧ x2 < 18446744073709551616 := by omega
theorem dv1 {x1 x5 x6 : Int} (h1 : 0 ≤ x1 ∧ x1 < 17179869184000000000) (h5 : x5 = x1 / 4000000000) (h6 : x6 = (x1 - 4000000000 * x5) % 18446744073709551616) : 0 ≤ x5 ∧ x5 < 4294967296 ∧ x6 = x1 - 4000000000 * x5 ∧ 0 ≤ x6 ∧ x6 < 4000000000 := by omega
theorem dv3 {x1 x3 x5 x6 : Int} (h3 : 0 ≤ x3 ∧ x3 < 4294967296) (h6 : x6 = x1 - 4000000000 * x5) (h7 : 0 ≤ x6 ∧ x6 < 4000000000) : (x3 + x1 * 4294967296 - x5 * 17179869184000000000) % 18446744073709551616 = x6 * 4294967296 + x3 := by omega
theorem dv4 {x1 x3 x5 x6 : Int} (h3 : 0 ≤ x3 ∧ x3 < 4294967296) (h6 : x6 = x1 - 4000000000 * x5) (h7 : 0 ≤ x6 ∧ x6 < 4000000000) : (x1 * 4294967296 + x3 - x5 * 17179869184000000000) % 18446744073709551616 = x6 * 4294967296 + x3 := by omega
theorem dv7 {x7 a : Int} (h : x7 = (a * 4294967296) % 18446744073709551616) : 0 ≤ x7 ∧ x7 ≤ 18446744069414584320 := by omega
theorem dvN {y x x0 x1 x2 x3 x4 x5 x6 x9 x10 x11 x14 x15 : Int} (h1 : x1 = 17179869184 * y + x0) (h2 : x2 = (x - x0 * 1073741824) * 17179869184) (h3 : x2 = x3 * 4294967296 + x4) (h4 : 0 ≤ x4 ∧ x4 < 4294967296) (h6 : x6 = x1 - 4000000000 * x5) (h9 : x9 = x6 * 4294967296 + x3) (h11 : x11 = x9 - 4000000000 * x10)
    (h12 : 0 ≤ x11 ∧ x11 < 4000000000) (h14 : x14 = x11 * 4294967296 + x4) (h15 : x15 = x14 / 2 ^ 34) : y * 18446744073709551616 + x = 1000000000 * (x10 + 4294967296 * x5) + x15 ∧ 0 ≤ x15 ∧ x15 < 1000000000 ∧ 0 ≤ x14 ∧ x14 < 18446744073709551616 := by
  have hM : (y * 18446744073709551616 + x) * 17179869184 = 17179869184000000000 * (x10 + 4294967296 * x5) + x14 := by omega
  omega
theorem r_c173 (h : Heap) : flatX Tryz.prog ClH [] 200 173 [.int .u64 1000000000] h [] = some ([.int .i64 30], h, []) := by kernel_rfl
theorem c173 (h : Heap) : callW Tryz.prog ClH 173 [.int .u64 1000000000] h = some (.int .i64 30, h, true) := flat_ok (P := Tryz.prog) (H := ClH) (fun h => r_c173 h) rfl ob_nil h
theorem r_c163 (h : Heap) : flatX Tryz.prog ClH [4] 200 163 [.int .u64 1000000000] h [.int .i64 30] = some ([.int .i64 34], h, [.call 173 [.int .u64 1000000000] (.int .i64 30)]) := by kernel_rfl
theorem c163  (h : Heap) : callW Tryz.prog ClH 163 [.int .u64 1000000000] h = some (.int .i64 34, h, true) := by
  have key := flat_ok (P := Tryz.prog) (H := ClH) (fun h => r_c163 h) rfl (ob_cons (ob_call c173) ob_nil) h
  exact key
theorem r_c144_a (x x0 x1 : Int) (h : Heap) : flatX Tryz.prog ClH [30, 33] 200 144 [.int .u64 0, .int .u64 x, .int .u64 1000000000] h [.int .u64 x0, .int .u64 x1] = some ([.int .u64 x0, .int .u64 x1], h, [.bin .quo 22 (.int .u64 x) (.int .u64 1000000000) (.int .u64 x0), .bin .rem 22 (.int .u64 x) (.int .u64 1000000000) (.int .u64 x1)]) := by kernel_rfl
theorem c144_a (x : Int) (hx : 0 ≤ x ∧ x < 18446744073709551616) (h : Heap) : callW Tryz.prog ClH 144 [.int .u64 0, .int .u64 x, .int .u64 1000000000] h = some (.tuple #[.int .u64 (x / 1000000000), .int .u64 (x % 1000000000)], h, true) := by
  obtain ⟨x0, hx0⟩ : ∃ z : Int, z = x / 1000000000 := ⟨_, rfl⟩
  obtain ⟨x1, hx1⟩ : ∃ z : Int, z = x % 1000000000 := ⟨_, rfl⟩
  have key := flat_ok (P := Tryz.prog) (H := ClH) (fun h => r_c144_a x x0 x1 h) rfl (ob_cons ((ob_quo (by omega) (wu64 (by rw [Int.tdiv_eq_ediv_of_nonneg (by omega)]; omega)))) (ob_cons (ob_rem (by omega) (by rw [Int.tmod_eq_emod_of_nonneg (by omega)]; omega)) ob_nil)) h
  have e0 : (x0 : Int) = x / 1000000000 := by omega
  have e1 : (x1 : Int) = x % 1000000000 := by omega
  have eq : packR [.int .u64 x0, .int .u64 x1] = .tuple #[.int .u64 (x / 1000000000), .int .u64 (x % 1000000000)] := by rw [e0, e1]; rfl
  rw [eq] at key
  exact key
theorem r_c144_b (y x x0 x1 x2 x3 x4 x5 x6 x7 x8 x9 x10 x11 x12 x13 x14 x15 : Int) (h : Heap) : flatX Tryz.prog ClH [24, 27, 35, 46, 50, 51, 54, 56, 58, 61, 65, 66, 68, 72, 74, 76, 77, 87, 89, 92, 93, 96, 100, 101, 103, 107, 109, 111, 112, 122, 124, 126, 128, 131, 132, 134] 200 144 [.int .u64 y, .int .u64 x, .int .u64 1000000000] h [.bool false, .bool false, .int .i64 34, .int .u64 (17179869184 * y), .int .u64 x0, .int .u64 x1, .int .u64 x2, .int .u64 x3, .int .u64 x4, .int .u64 x5, .int .u64 (4000000000 * x5), .int .u64 x6, .bool false, .int .u64 0, .int .u64 (4294967296 * x6), .int .u64 (x3 + 4294967296 * x6), .bool false, .int .u64 x7, .int .u64 (x3 + x7), .int .u64 x8, .int .u64 x9, .int .u64 x10, .int .u64 (4000000000 * x10), .int .u64 x11, .bool false, .int .u64 0, .int .u64 (4294967296 * x11), .int .u64 (4294967296 * x11 + x4), .bool false, .int .u64 (4294967296 * x5), .int .u64 (x10 + 4294967296 * x5), .int .u64 x12, .int .u64 (x12 + x4), .int .u64 x13, .int .u64 x14, .int .u64 x15] = some ([.int .u64 (x10 + 4294967296 * x5), .int .u64 x15], h, [.bin .leq 22 (.int .u64 1000000000) (.int .u64 y) (.bool false), .bin .eql 22 (.int .u64 y) (.int .u64 0) (.bool false), .call 163 [.int .u64 1000000000] (.int .i64 34), .bin .shl 22 (.int .u64 y) (.int .u64 34) (.int .u64 (17179869184 * y)), .bin .shr 22 (.int .u64 x) (.int .u64 30) (.int .u64 x0), .bin .or 22 (.int .u64 (17179869184 * y)) (.int .u64 x0) (.int .u64 x1), .bin .shl 22 (.int .u64 x) (.int .u64 34) (.int .u64 x2), .bin .shr 22 (.int .u64 x2) (.int .u64 32) (.int .u64 x3), .bin .and 22 (.int .u64 x2) (.int .u64 4294967295) (.int .u64 x4), .bin .quo 22 (.int .u64 x1) (.int .u64 4000000000) (.int .u64 x5), .bin .mul 22 (.int .u64 x5) (.int .u64 4000000000) (.int .u64 (4000000000 * x5)), .bin .sub 22 (.int .u64 x1) (.int .u64 (4000000000 * x5)) (.int .u64 x6), .bin .geq 22 (.int .u64 x5) (.int .u64 4294967296) (.bool false), .bin .mul 22 (.int .u64 x5) (.int .u64 0) (.int .u64 0), .bin .mul 22 (.int .u64 4294967296) (.int .u64 x6) (.int .u64 (4294967296 * x6)), .bin .add 22 (.int .u64 (4294967296 * x6)) (.int .u64 x3) (.int .u64 (x3 + 4294967296 * x6)), .bin .gtr 22 (.int .u64 0) (.int .u64 (x3 + 4294967296 * x6)) (.bool false), .bin .mul 22 (.int .u64 x1) (.int .u64 4294967296) (.int .u64 x7), .bin .add 22 (.int .u64 x7) (.int .u64 x3) (.int .u64 (x3 + x7)), .bin .mul 22 (.int .u64 x5) (.int .u64 17179869184000000000) (.int .u64 x8), .bin .sub 22 (.int .u64 (x3 + x7)) (.int .u64 x8) (.int .u64 x9), .bin .quo 22 (.int .u64 x9) (.int .u64 4000000000) (.int .u64 x10), .bin .mul 22 (.int .u64 x10) (.int .u64 4000000000) (.int .u64 (4000000000 * x10)), .bin .sub 22 (.int .u64 x9) (.int .u64 (4000000000 * x10)) (.int .u64 x11), .bin .geq 22 (.int .u64 x10) (.int .u64 4294967296) (.bool false), .bin .mul 22 (.int .u64 x10) (.int .u64 0) (.int .u64 0), .bin .mul 22 (.int .u64 4294967296) (.int .u64 x11) (.int .u64 (4294967296 * x11)), .bin .add 22 (.int .u64 (4294967296 * x11)) (.int .u64 x4) (.int .u64 (4294967296 * x11 + x4)), .bin .gtr 22 (.int .u64 0) (.int .u64 (4294967296 * x11 + x4)) (.bool false), .bin .mul 22 (.int .u64 x5) (.int .u64 4294967296) (.int .u64 (4294967296 * x5)), .bin .add 22 (.int .u64 (4294967296 * x5)) (.int .u64 x10) (.int .u64 (x10 + 4294967296 * x5)), .bin .mul 22 (.int .u64 x9) (.int .u64 4294967296) (.int .u64 x12), .bin .add 22 (.int .u64 x12) (.int .u64 x4) (.int .u64 (x12 + x4)), .bin .mul 22 (.int .u64 x10) (.int .u64 17179869184000000000) (.int .u64 x13), .bin .sub 22 (.int .u64 (x12 + x4)) (.int .u64 x13) (.int .u64 x14), .bin .shr 22 (.int .u64 x14) (.int .u64 34) (.int .u64 x15)]) := by kernel_rfl
theorem c144_b (y x : Int) (hy : 0 < y ∧ y < 1000000000) (hx : 0 ≤ x ∧ x < 18446744073709551616) (h : Heap) : callW Tryz.prog ClH 144 [.int .u64 y, .int .u64 x, .int .u64 1000000000] h = some (.tuple #[.int .u64 ((y * 18446744073709551616 + x) / 1000000000), .int .u64 ((y * 18446744073709551616 + x) % 1000000000)], h, true) := by
  obtain ⟨x0, hx0⟩ : ∃ z : Int, Eqv z (x / 2 ^ 30) := ⟨_, Eqv.rfl⟩
  obtain ⟨x1, hx1⟩ : ∃ z : Int, Eqv z ((17179869184 * y) + x0) := ⟨_, Eqv.rfl⟩
  obtain ⟨x2, hx2⟩ : ∃ z : Int, Eqv z ((x * 17179869184) % 18446744073709551616) := ⟨_, Eqv.rfl⟩
  obtain ⟨x3, hx3⟩ : ∃ z : Int, Eqv z (x2 / 2 ^ 32) := ⟨_, Eqv.rfl⟩
  obtain ⟨x4, hx4⟩ : ∃ z : Int, Eqv z (x2 % 2 ^ 32) := ⟨_, Eqv.rfl⟩
  obtain ⟨x5, hx5⟩ : ∃ z : Int, Eqv z (x1 / 4000000000) := ⟨_, Eqv.rfl⟩
  obtain ⟨x6, hx6⟩ : ∃ z : Int, Eqv z ((x1 - (4000000000 * x5)) % 18446744073709551616) := ⟨_, Eqv.rfl⟩
  obtain ⟨x7, hx7⟩ : ∃ z : Int, Eqv z ((x1 * 4294967296) % 18446744073709551616) := ⟨_, Eqv.rfl⟩
  obtain ⟨x8, hx8⟩ : ∃ z : Int, Eqv z ((x5 * 17179869184000000000) % 18446744073709551616) := ⟨_, Eqv.rfl⟩
  obtain ⟨x9, hx9⟩ : ∃ z : Int, Eqv z (((x3 + x7) - x8) % 18446744073709551616) := ⟨_, Eqv.rfl⟩
  obtain ⟨x10, hx10⟩ : ∃ z : Int, Eqv z (x9 / 4000000000) := ⟨_, Eqv.rfl⟩
  obtain ⟨x11, hx11⟩ : ∃ z : Int, Eqv z ((x9 - (4000000000 * x10)) % 18446744073709551616) := ⟨_, Eqv.rfl⟩
  obtain ⟨x12, hx12⟩ : ∃ z : Int, Eqv z ((x9 * 4294967296) % 18446744073709551616) := ⟨_, Eqv.rfl⟩
  obtain ⟨x13, hx13⟩ : ∃ z : Int, Eqv z ((x10 * 17179869184000000000) % 18446744073709551616) := ⟨_, Eqv.rfl⟩
  obtain ⟨x14, hx14⟩ : ∃ z : Int, Eqv z (((x12 + x4) - x13) % 18446744073709551616) := ⟨_, Eqv.rfl⟩
  obtain ⟨x15, hx15⟩ : ∃ z : Int, Eqv z (x14 / 2 ^ 34) := ⟨_, Eqv.rfl⟩
  have q0 := dv0 hy hx hx0.out hx1.out
  have q2 := dv2 hx hx0.out hx2.out hx3.out hx4.out
  have q5 := dv1 q0.2 hx5.out hx6.out
  have q9 : x9 = x6 * 4294967296 + x3 := by rw [hx9.out, hx7.out, hx8.out, md3]; exact dv3 ⟨q2.2.2.1, q2.2.2.2.1⟩ q5.2.2.1 q5.2.2.2
  have b9 : 0 ≤ x9 ∧ x9 < 17179869184000000000 := by omega
  have q10 := dv1 b9 hx10.out hx11.out
  have q14 : x14 = x11 * 4294967296 + x4 := by rw [hx14.out, hx12.out, hx13.out, md4]; exact dv4 ⟨q2.2.2.2.2.1, q2.2.2.2.2.2.1⟩ q10.2.2.1 q10.2.2.2
  have q7 := dv7 hx7.out
  have q12 := dv7 hx12.out
  have qN := dvN hx1.out q2.1 q2.2.1 ⟨q2.2.2.2.2.1, q2.2.2.2.2.2.1⟩ q5.2.2.1 q9 q10.2.2.1 q10.2.2.2 q14 hx15.out
  have u1 := hx1.out
  have hq5 : x1 / 4000000000 = x5 := hx5.symm
  have hq10 : x9 / 4000000000 = x10 := hx10.symm
  have key := flat_ok (P := Tryz.prog) (H := ClH) (fun h => r_c144_b y x x0 x1 x2 x3 x4 x5 x6 x7 x8 x9 x10 x11 x12 x13 x14 x15 h) rfl (ob_cons (ob_nleq (by omega)) (ob_cons (ob_neql (by omega)) (ob_cons (ob_call c163) (ob_cons (ob_shl 34 (by decide) (by rw [IntKind.wrap_u64]; omega)) (ob_cons (ob_shr 30 (by decide) hx0.symm) (ob_cons (ob_or 34 (by omega) (by omega) (by omega) (by omega) (by omega)) (ob_cons (ob_shl 34 (by decide) (by rw [IntKind.wrap_u64]; omega)) (ob_cons (ob_shr 32 (by decide) hx3.symm) (ob_cons (ob_and 32 (by decide) (by omega) (by decide) hx4.symm) (ob_cons ((ob_quo (by omega) (wu64 (by rw [Int.tdiv_eq_ediv_of_nonneg (by omega)]; omega)))) (ob_cons (ob_mul (wu64 (by omega))) (ob_cons (ob_sub (wu64 hx6.symm)) (ob_cons (ob_ngeq (by omega)) (ob_cons (ob_mul (wu64 (by omega))) (ob_cons (ob_mul (wu64 (by omega))) (ob_cons (ob_add (wu64 (by omega))) (ob_cons (ob_ngtr (by omega)) (ob_cons (ob_mul (wu64 hx7.symm)) (ob_cons (ob_add (wu64 (by omega))) (ob_cons (ob_mul (wu64 hx8.symm)) (ob_cons (ob_sub (wu64 hx9.symm)) (ob_cons ((ob_quo (by omega) (wu64 (by rw [Int.tdiv_eq_ediv_of_nonneg (by omega)]; omega)))) (ob_cons (ob_mul (wu64 (by omega))) (ob_cons (ob_sub (wu64 hx11.symm)) (ob_cons (ob_ngeq (by omega)) (ob_cons (ob_mul (wu64 (by omega))) (ob_cons (ob_mul (wu64 (by omega))) (ob_cons (ob_add (wu64 (by omega))) (ob_cons (ob_ngtr (by omega)) (ob_cons (ob_mul (wu64 (by omega))) (ob_cons (ob_add (wu64 (by omega))) (ob_cons (ob_mul (wu64 hx12.symm)) (ob_cons (ob_add (wu64 (by omega))) (ob_cons (ob_mul (wu64 hx13.symm)) (ob_cons (ob_sub (wu64 hx14.symm)) (ob_cons (ob_shr 34 (by decide) hx15.symm) ob_nil)))))))))))))))))))))))))))))))))))) h
  have e0 : (x10 + 4294967296 * x5 : Int) = (y * 18446744073709551616 + x) / 1000000000 := by omega
  have e1 : (x15 : Int) = (y * 18446744073709551616 + x) % 1000000000 := by omega
  have eq : packR [.int .u64 (x10 + 4294967296 * x5), .int .u64 x15] = .tuple #[.int .u64 ((y * 18446744073709551616 + x) / 1000000000), .int .u64 ((y * 18446744073709551616 + x) % 1000000000)] := by rw [e0, e1]; rfl
  rw [eq] at key
  exact key
theorem c144 (y x : Int) (hy : 0 ≤ y ∧ y < 1000000000) (hx : 0 ≤ x ∧ x < 18446744073709551616) (h : Heap) : callW Tryz.prog ClH 144 [.int .u64 y, .int .u64 x, .int .u64 1000000000] h = some (.tuple #[.int .u64 ((y * 18446744073709551616 + x) / 1000000000), .int .u64 ((y * 18446744073709551616 + x) % 1000000000)], h, true) := by
  by_cases h0 : y = 0
  · subst h0
    rw [Int.zero_mul, Int.zero_add]
    exact c144_a x hx h
  · exact c144_b y x ⟨by omega, hy.2⟩ hx h
end Go.Proofs.YtlnjhllfacmkoaaGreat
