/- Contracts of flat functions of the client's program, by runs along a script. -/
import Derived.Test.YtlnjhllfacmkoaaGreatCk3
set_option linter.unusedVariables false
set_option maxRecDepth 100000
set_option maxHeartbeats 4000000
namespace Go.Proofs.YtlnjhllfacmkoaaGreat
open Go.Am

theorem r_c144_00 (h : Heap) : flatX Tryz.prog ClH [] 200 144 [.int .u64 0, .int .u64 0, .int .u64 1000000000] h [] = some ([.int .u64 0, .int .u64 0], h, []) := by kernel_rfl
theorem c144_00  (h : Heap) : callW Tryz.prog ClH 144 [.int .u64 0, .int .u64 0, .int .u64 1000000000] h = some (.tuple #[.int .u64 0, .int .u64 0], h, true) := by
  have key := flat_ok (P := Tryz.prog) (H := ClH) (fun h => r_c144_00 h) rfl ob_nil h
  exact key
theorem r_c147_0n (h : Heap) : flatX Tryz.prog ClH [] 200 147 [.int .u64 0, .bool true] h [] = some ([.int .i64 0, .bool true], h, []) := by kernel_rfl
theorem c147_0n  (h : Heap) : callW Tryz.prog ClH 147 [.int .u64 0, .bool true] h = some (.tuple #[.int .i64 0, .bool true], h, true) := by
  have key := flat_ok (P := Tryz.prog) (H := ClH) (fun h => r_c147_0n h) rfl ob_nil h
  exact key
theorem r_c119_Mp (a x0 x1 x2 x3 : Int) (h : Heap) : flatX Tryz.prog ClH [15, 17, 18, 23, 24, 29, 30, 34, 52] 200 119 [.int .i64 a, .int .i64 1000000000, .int .i64 1000000000] h [.int .u64 a, .int .u64 1000000000, .tuple #[.int .u64 x0, .int .u64 x1], .int .u64 1000000000, .bool false, .int .u64 1000000000, .tuple #[.int .u64 x2, .int .u64 x3], .bool false, .tuple #[.int .i64 x2, .bool true]] = some ([.int .i64 x2, .bool true], h, [.call 146 [.int .i64 a] (.int .u64 a), .call 146 [.int .i64 1000000000] (.int .u64 1000000000), .call 145 [.int .u64 a, .int .u64 1000000000] (.tuple #[.int .u64 x0, .int .u64 x1]), .call 146 [.int .i64 1000000000] (.int .u64 1000000000), .bin .geq 22 (.int .u64 x0) (.int .u64 1000000000) (.bool false), .call 146 [.int .i64 1000000000] (.int .u64 1000000000), .call 144 [.int .u64 x0, .int .u64 x1, .int .u64 1000000000] (.tuple #[.int .u64 x2, .int .u64 x3]), .bin .lss 3 (.int .i64 a) (.int .i64 0) (.bool false), .call 147 [.int .u64 x2, .bool false] (.tuple #[.int .i64 x2, .bool true])]) := by kernel_rfl
theorem c119_Mp (a : Int) (ha : 0 ≤ a ∧ a ≤ 8796093022208) (h : Heap) : callW Tryz.prog ClH 119 [.int .i64 a, .int .i64 1000000000, .int .i64 1000000000] h = some (.tuple #[.int .i64 (a), .bool true], h, true) := by
  obtain ⟨x0, hx0⟩ : ∃ z : Int, z = (a) * 1000000000 / 18446744073709551616 := ⟨_, rfl⟩
  obtain ⟨x1, hx1⟩ : ∃ z : Int, z = (a) * 1000000000 % 18446744073709551616 := ⟨_, rfl⟩
  obtain ⟨x2, hx2⟩ : ∃ z : Int, z = ((x0) * 18446744073709551616 + (x1)) / 1000000000 := ⟨_, rfl⟩
  obtain ⟨x3, hx3⟩ : ∃ z : Int, z = ((x0) * 18446744073709551616 + (x1)) % 1000000000 := ⟨_, rfl⟩
  have key := flat_ok (P := Tryz.prog) (H := ClH) (fun h => r_c119_Mp a x0 x1 x2 x3 h) rfl (ob_cons (ob_call (c146_p (a) (by omega))) (ob_cons (ob_call c146_1000000000) (ob_cons (ob_call (by intro h; rw [hx0, hx1]; exact c145_1000000000 (a) (by omega) h)) (ob_cons (ob_call c146_1000000000) (ob_cons (ob_ngeq (by omega)) (ob_cons (ob_call c146_1000000000) (ob_cons (ob_call (by intro h; rw [hx2, hx3]; exact c144 (x0) (x1) (by omega) (by omega) h)) (ob_cons (ob_nlss (by omega)) (ob_cons (ob_call (c147_p (x2) (by omega))) ob_nil))))))))) h
  have e0 : (x2 : Int) = a := by omega
  have eq : packR [.int .i64 x2, .bool true] = .tuple #[.int .i64 (a), .bool true] := by rw [e0]; rfl
  rw [eq] at key
  exact key
theorem r_c119_Mn (a x0 x1 x2 x3 : Int) (h : Heap) : flatX Tryz.prog ClH [15, 17, 18, 23, 24, 29, 30, 34, 44, 52] 200 119 [.int .i64 a, .int .i64 1000000000, .int .i64 1000000000] h [.int .u64 (-a), .int .u64 1000000000, .tuple #[.int .u64 x0, .int .u64 x1], .int .u64 1000000000, .bool false, .int .u64 1000000000, .tuple #[.int .u64 x2, .int .u64 x3], .bool true, .bool false, .tuple #[.int .i64 (-x2), .bool true]] = some ([.int .i64 (-x2), .bool true], h, [.call 146 [.int .i64 a] (.int .u64 (-a)), .call 146 [.int .i64 1000000000] (.int .u64 1000000000), .call 145 [.int .u64 (-a), .int .u64 1000000000] (.tuple #[.int .u64 x0, .int .u64 x1]), .call 146 [.int .i64 1000000000] (.int .u64 1000000000), .bin .geq 22 (.int .u64 x0) (.int .u64 1000000000) (.bool false), .call 146 [.int .i64 1000000000] (.int .u64 1000000000), .call 144 [.int .u64 x0, .int .u64 x1, .int .u64 1000000000] (.tuple #[.int .u64 x2, .int .u64 x3]), .bin .lss 3 (.int .i64 a) (.int .i64 0) (.bool true), .bin .neq 22 (.int .u64 x3) (.int .u64 0) (.bool false), .call 147 [.int .u64 x2, .bool true] (.tuple #[.int .i64 (-x2), .bool true])]) := by kernel_rfl
theorem c119_Mn (a : Int) (ha : -8796093022208 ≤ a ∧ a < 0) (h : Heap) : callW Tryz.prog ClH 119 [.int .i64 a, .int .i64 1000000000, .int .i64 1000000000] h = some (.tuple #[.int .i64 (a), .bool true], h, true) := by
  obtain ⟨x0, hx0⟩ : ∃ z : Int, z = (-a) * 1000000000 / 18446744073709551616 := ⟨_, rfl⟩
  obtain ⟨x1, hx1⟩ : ∃ z : Int, z = (-a) * 1000000000 % 18446744073709551616 := ⟨_, rfl⟩
  obtain ⟨x2, hx2⟩ : ∃ z : Int, z = ((x0) * 18446744073709551616 + (x1)) / 1000000000 := ⟨_, rfl⟩
  obtain ⟨x3, hx3⟩ : ∃ z : Int, z = ((x0) * 18446744073709551616 + (x1)) % 1000000000 := ⟨_, rfl⟩
  have key := flat_ok (P := Tryz.prog) (H := ClH) (fun h => r_c119_Mn a x0 x1 x2 x3 h) rfl (ob_cons (ob_call (c146_n (a) (by omega))) (ob_cons (ob_call c146_1000000000) (ob_cons (ob_call (by intro h; rw [hx0, hx1]; exact c145_1000000000 (-a) (by omega) h)) (ob_cons (ob_call c146_1000000000) (ob_cons (ob_ngeq (by omega)) (ob_cons (ob_call c146_1000000000) (ob_cons (ob_call (by intro h; rw [hx2, hx3]; exact c144 (x0) (x1) (by omega) (by omega) h)) (ob_cons (ob_lss (by omega)) (ob_cons (ob_nneq (by omega)) (ob_cons (ob_call (c147_n (x2) (by omega))) ob_nil)))))))))) h
  have e0 : (-x2 : Int) = a := by omega
  have eq : packR [.int .i64 (-x2), .bool true] = .tuple #[.int .i64 (a), .bool true] := by rw [e0]; rfl
  rw [eq] at key
  exact key
theorem r_c119_Zp (a : Int) (h : Heap) : flatX Tryz.prog ClH [15, 17, 18, 23, 29, 30, 34, 52] 200 119 [.int .i64 a, .int .i64 0, .int .i64 1000000000] h [.int .u64 a, .int .u64 0, .tuple #[.int .u64 0, .int .u64 0], .int .u64 1000000000, .int .u64 1000000000, .tuple #[.int .u64 0, .int .u64 0], .bool false, .tuple #[.int .i64 0, .bool true]] = some ([.int .i64 0, .bool true], h, [.call 146 [.int .i64 a] (.int .u64 a), .call 146 [.int .i64 0] (.int .u64 0), .call 145 [.int .u64 a, .int .u64 0] (.tuple #[.int .u64 0, .int .u64 0]), .call 146 [.int .i64 1000000000] (.int .u64 1000000000), .call 146 [.int .i64 1000000000] (.int .u64 1000000000), .call 144 [.int .u64 0, .int .u64 0, .int .u64 1000000000] (.tuple #[.int .u64 0, .int .u64 0]), .bin .lss 3 (.int .i64 a) (.int .i64 0) (.bool false), .call 147 [.int .u64 0, .bool false] (.tuple #[.int .i64 0, .bool true])]) := by kernel_rfl
theorem c119_Zp (a : Int) (ha : 0 ≤ a ∧ a ≤ 8796093022208) (h : Heap) : callW Tryz.prog ClH 119 [.int .i64 a, .int .i64 0, .int .i64 1000000000] h = some (.tuple #[.int .i64 0, .bool true], h, true) := by
  have key := flat_ok (P := Tryz.prog) (H := ClH) (fun h => r_c119_Zp a h) rfl (ob_cons (ob_call (c146_p (a) (by omega))) (ob_cons (ob_call c146_0) (ob_cons (ob_call (c145_0 (a) (by omega))) (ob_cons (ob_call c146_1000000000) (ob_cons (ob_call c146_1000000000) (ob_cons (ob_call c144_00) (ob_cons (ob_nlss (by omega)) (ob_cons (ob_call c147_0) ob_nil)))))))) h
  exact key
theorem r_c119_Zn (a : Int) (h : Heap) : flatX Tryz.prog ClH [15, 17, 18, 23, 29, 30, 34, 52] 200 119 [.int .i64 a, .int .i64 0, .int .i64 1000000000] h [.int .u64 (-a), .int .u64 0, .tuple #[.int .u64 0, .int .u64 0], .int .u64 1000000000, .int .u64 1000000000, .tuple #[.int .u64 0, .int .u64 0], .bool true, .tuple #[.int .i64 0, .bool true]] = some ([.int .i64 0, .bool true], h, [.call 146 [.int .i64 a] (.int .u64 (-a)), .call 146 [.int .i64 0] (.int .u64 0), .call 145 [.int .u64 (-a), .int .u64 0] (.tuple #[.int .u64 0, .int .u64 0]), .call 146 [.int .i64 1000000000] (.int .u64 1000000000), .call 146 [.int .i64 1000000000] (.int .u64 1000000000), .call 144 [.int .u64 0, .int .u64 0, .int .u64 1000000000] (.tuple #[.int .u64 0, .int .u64 0]), .bin .lss 3 (.int .i64 a) (.int .i64 0) (.bool true), .call 147 [.int .u64 0, .bool true] (.tuple #[.int .i64 0, .bool true])]) := by kernel_rfl
theorem c119_Zn (a : Int) (ha : -8796093022208 ≤ a ∧ a < 0) (h : Heap) : callW Tryz.prog ClH 119 [.int .i64 a, .int .i64 0, .int .i64 1000000000] h = some (.tuple #[.int .i64 0, .bool true], h, true) := by
  have key := flat_ok (P := Tryz.prog) (H := ClH) (fun h => r_c119_Zn a h) rfl (ob_cons (ob_call (c146_n (a) (by omega))) (ob_cons (ob_call c146_0) (ob_cons (ob_call (c145_0 (-a) (by omega))) (ob_cons (ob_call c146_1000000000) (ob_cons (ob_call c146_1000000000) (ob_cons (ob_call c144_00) (ob_cons (ob_lss (by omega)) (ob_cons (ob_call c147_0n) ob_nil)))))))) h
  exact key
theorem c119_M (a : Int) (ha : -8796093022208 ≤ a ∧ a ≤ 8796093022208) (h : Heap) : callW Tryz.prog ClH 119 [.int .i64 a, .int .i64 1000000000, .int .i64 1000000000] h = some (.tuple #[.int .i64 a, .bool true], h, true) := by
  by_cases h0 : 0 ≤ a
  · exact c119_Mp a ⟨h0, ha.2⟩ h
  · exact c119_Mn a ⟨ha.1, by omega⟩ h
theorem c119_Z (a : Int) (ha : -8796093022208 ≤ a ∧ a ≤ 8796093022208) (h : Heap) : callW Tryz.prog ClH 119 [.int .i64 a, .int .i64 0, .int .i64 1000000000] h = some (.tuple #[.int .i64 0, .bool true], h, true) := by
  by_cases h0 : 0 ≤ a
  · exact c119_Zp a ⟨h0, ha.2⟩ h
  · exact c119_Zn a ⟨ha.1, by omega⟩ h
theorem r_c154 (p x0 x1 x2 x3 x4 : Int) (h : Heap) : flatX Tryz.prog ClH [9, 11, 16, 21, 23, 27] 200 154 [.int .i64 p] h [.int .u64 p, .bool false, .tuple #[.int .u64 x0, .int .u64 x1], .int .u64 x2, .tuple #[.int .u64 x3, .int .u64 x4], .bool true] = some ([.int .u64 x3], h, [.conv 3 22 (.int .i64 p) (.int .u64 p), .bin .lss 3 (.int .i64 p) (.int .i64 0) (.bool false), .call 145 [.int .u64 p, .int .u64 4294967296] (.tuple #[.int .u64 x0, .int .u64 x1]), .bin .rem 22 (.int .u64 x0) (.int .u64 1000000000) (.int .u64 x2), .call 144 [.int .u64 x2, .int .u64 x1, .int .u64 1000000000] (.tuple #[.int .u64 x3, .int .u64 x4]), .bin .geq 3 (.int .i64 p) (.int .i64 0) (.bool true)]) := by kernel_rfl
theorem c154 (p : Int) (hp : 0 ≤ p ∧ p ≤ 4000000000000000000) (h : Heap) : callW Tryz.prog ClH 154 [.int .i64 p] h = some (.int .u64 (p * 4294967296 / 1000000000), h, true) := by
  obtain ⟨x0, hx0⟩ : ∃ z : Int, z = (p) * 4294967296 / 18446744073709551616 := ⟨_, rfl⟩
  obtain ⟨x1, hx1⟩ : ∃ z : Int, z = (p) * 4294967296 % 18446744073709551616 := ⟨_, rfl⟩
  obtain ⟨x2, hx2⟩ : ∃ z : Int, z = x0 % 1000000000 := ⟨_, rfl⟩
  obtain ⟨x3, hx3⟩ : ∃ z : Int, z = ((x2) * 18446744073709551616 + (x1)) / 1000000000 := ⟨_, rfl⟩
  obtain ⟨x4, hx4⟩ : ∃ z : Int, z = ((x2) * 18446744073709551616 + (x1)) % 1000000000 := ⟨_, rfl⟩
  have m0 : 0 ≤ x0 ∧ x0 < 1000000000 := by omega
  have m1 : x2 = x0 := by omega
  have m2 : x0 * 18446744073709551616 + x1 = p * 4294967296 := by omega
  have key := flat_ok (P := Tryz.prog) (H := ClH) (fun h => r_c154 p x0 x1 x2 x3 x4 h) rfl (ob_cons (ob_conv Tryz.underlying3 Tryz.underlying22 (by rw [IntKind.wrap_u64]; omega)) (ob_cons (ob_nlss (by omega)) (ob_cons (ob_call (by intro h; rw [hx0, hx1]; exact c145_4294967296 (p) (by omega) h)) (ob_cons (ob_rem (by omega) (by rw [Int.tmod_eq_emod_of_nonneg (by omega)]; omega)) (ob_cons (ob_call (by intro h; rw [hx3, hx4]; exact c144 (x2) (x1) (by omega) (by omega) h)) (ob_cons (ob_geq (by omega)) ob_nil)))))) h
  have e0 : (x3 : Int) = p * 4294967296 / 1000000000 := by omega
  have eq : packR [.int .u64 x3] = .int .u64 (p * 4294967296 / 1000000000) := by rw [e0]; rfl
  rw [eq] at key
  exact key
theorem r_c190 (p : Int) (h : Heap) : flatX Tryz.prog ClH [] 200 190 [.int .i64 p, .int .i64 4294967296000000000] h [] = some ([.bool true], h, []) := by kernel_rfl
theorem c190 (p : Int)  (h : Heap) : callW Tryz.prog ClH 190 [.int .i64 p, .int .i64 4294967296000000000] h = some (.bool true, h, true) := by
  have key := flat_ok (P := Tryz.prog) (H := ClH) (fun h => r_c190 p h) rfl ob_nil h
  exact key
theorem r_c175 (p x0 x1 : Int) (h : Heap) : flatX Tryz.prog ClH [9, 13, 16, 17, 20] 200 175 [.int .i64 p, .int .i64 4294967296000000000] h [.bool true, .int .i64 x0, .int .i64 x1, .bool true, .bool false] = some ([.int .i64 x0, .bool true], h, [.call 190 [.int .i64 p, .int .i64 4294967296000000000] (.bool true), .bin .quo 3 (.int .i64 p) (.int .i64 4294967296000000000) (.int .i64 x0), .bin .rem 3 (.int .i64 p) (.int .i64 4294967296000000000) (.int .i64 x1), .bin .neq 3 (.int .i64 x1) (.int .i64 0) (.bool true), .bin .lss 3 (.int .i64 p) (.int .i64 0) (.bool false)]) := by kernel_rfl
theorem c175 (p : Int) (hp : 0 < p ∧ p < 4294967296000000000) (h : Heap) : callW Tryz.prog ClH 175 [.int .i64 p, .int .i64 4294967296000000000] h = some (.tuple #[.int .i64 (0), .bool true], h, true) := by
  obtain ⟨x0, hx0⟩ : ∃ z : Int, z = p / 4294967296000000000 := ⟨_, rfl⟩
  obtain ⟨x1, hx1⟩ : ∃ z : Int, z = p % 4294967296000000000 := ⟨_, rfl⟩
  have key := flat_ok (P := Tryz.prog) (H := ClH) (fun h => r_c175 p x0 x1 h) rfl (ob_cons (ob_call (c190 (p))) (ob_cons ((ob_quo (by omega) (w64 (by rw [Int.tdiv_eq_ediv_of_nonneg (by omega)]; omega) (by omega)))) (ob_cons (ob_rem (by omega) (by rw [Int.tmod_eq_emod_of_nonneg (by omega)]; omega)) (ob_cons (ob_neq (by omega)) (ob_cons (ob_nlss (by omega)) ob_nil))))) h
  have e0 : (x0 : Int) = 0 := by omega
  have eq : packR [.int .i64 x0, .bool true] = .tuple #[.int .i64 (0), .bool true] := by rw [e0]; rfl
  rw [eq] at key
  exact key
theorem r_c155 (p : Int) (h : Heap) : flatX Tryz.prog ClH [7] 200 155 [.int .i64 p] h [.tuple #[.int .i64 0, .bool true]] = some ([.int .i64 0], h, [.call 175 [.int .i64 p, .int .i64 4294967296000000000] (.tuple #[.int .i64 0, .bool true])]) := by kernel_rfl
theorem c155 (p : Int) (hp : 0 < p ∧ p < 4294967296000000000) (h : Heap) : callW Tryz.prog ClH 155 [.int .i64 p] h = some (.int .i64 0, h, true) := by
  have key := flat_ok (P := Tryz.prog) (H := ClH) (fun h => r_c155 p h) rfl (ob_cons (ob_call (c175 (p) (by omega))) ob_nil) h
  exact key
theorem r_c156_a (a b : Int) (h : Heap) : flatX Tryz.prog ClH [7, 8] 200 156 [.int .u64 a, .int .u64 b] h [.int .u64 (a - b), .int .i64 (a - b)] = some ([.int .i64 (a - b)], h, [.bin .sub 22 (.int .u64 a) (.int .u64 b) (.int .u64 (a - b)), .conv 22 3 (.int .u64 (a - b)) (.int .i64 (a - b))]) := by kernel_rfl
theorem c156_a (a b : Int) (ha : 0 ≤ a ∧ a < 18446744073709551616) (hb : 0 ≤ b ∧ b < 18446744073709551616) (hd : b ≤ a ∧ a - b ≤ 9223372036854775807) (h : Heap) : callW Tryz.prog ClH 156 [.int .u64 a, .int .u64 b] h = some (.int .i64 (a - b), h, true) := by
  have key := flat_ok (P := Tryz.prog) (H := ClH) (fun h => r_c156_a a b h) rfl (ob_cons (ob_sub (wu64 (by omega))) (ob_cons (ob_conv Tryz.underlying22 Tryz.underlying3 (by rw [IntKind.wrap_i64]; omega)) ob_nil)) h
  exact key
theorem r_c156_b (a b x0 x1 : Int) (h : Heap) : flatX Tryz.prog ClH [7, 8] 200 156 [.int .u64 a, .int .u64 b] h [.int .u64 x0, .int .i64 x1] = some ([.int .i64 x1], h, [.bin .sub 22 (.int .u64 a) (.int .u64 b) (.int .u64 x0), .conv 22 3 (.int .u64 x0) (.int .i64 x1)]) := by kernel_rfl
theorem c156_b (a b : Int) (ha : 0 ≤ a ∧ a < 18446744073709551616) (hb : 0 ≤ b ∧ b < 18446744073709551616) (hd : a < b ∧ b - a ≤ 9223372036854775807) (h : Heap) : callW Tryz.prog ClH 156 [.int .u64 a, .int .u64 b] h = some (.int .i64 (a - b), h, true) := by
  obtain ⟨x0, hx0⟩ : ∃ z : Int, z = (a - b) % 18446744073709551616 := ⟨_, rfl⟩
  obtain ⟨x1, hx1⟩ : ∃ z : Int, z = (x0 + 9223372036854775808) % 18446744073709551616 - 9223372036854775808 := ⟨_, rfl⟩
  have key := flat_ok (P := Tryz.prog) (H := ClH) (fun h => r_c156_b a b x0 x1 h) rfl (ob_cons (ob_sub (wu64 hx0.symm)) (ob_cons (ob_conv Tryz.underlying22 Tryz.underlying3 (by rw [IntKind.wrap_i64]; omega)) ob_nil)) h
  have e0 : (x1 : Int) = a - b := by omega
  have eq : packR [.int .i64 x1] = .int .i64 (a - b) := by rw [e0]; rfl
  rw [eq] at key
  exact key
theorem r_c157 (h : Heap) : flatX Tryz.prog ClH [10, 12, 13, 24] 200 157 [.int .i64 0, .int .i64 4294967296000000000] h [.int .u64 0, .int .u64 4294967296000000000, .tuple #[.int .u64 0, .int .u64 0], .tuple #[.int .i64 0, .bool true]] = some ([.int .i64 0, .bool true], h, [.call 146 [.int .i64 0] (.int .u64 0), .call 146 [.int .i64 4294967296000000000] (.int .u64 4294967296000000000), .call 145 [.int .u64 0, .int .u64 4294967296000000000] (.tuple #[.int .u64 0, .int .u64 0]), .call 147 [.int .u64 0, .bool false] (.tuple #[.int .i64 0, .bool true])]) := by kernel_rfl
theorem c157  (h : Heap) : callW Tryz.prog ClH 157 [.int .i64 0, .int .i64 4294967296000000000] h = some (.tuple #[.int .i64 0, .bool true], h, true) := by
  have key := flat_ok (P := Tryz.prog) (H := ClH) (fun h => r_c157 h) rfl (ob_cons (ob_call c146_0) (ob_cons (ob_call c146_4294967296000000000) (ob_cons (ob_call c145_era) (ob_cons (ob_call c147_0) ob_nil)))) h
  exact key
theorem r_c158 (t : Int) (h : Heap) : flatX Tryz.prog ClH [9, 12, 15, 16] 200 158 [.int .i64 0, .int .i64 t] h [.int .i64 t, .int .i64 t, .int .i64 0, .int .i64 0] = some ([.int .i64 t, .bool true], h, [.bin .add 3 (.int .i64 0) (.int .i64 t) (.int .i64 t), .bin .xor 3 (.int .i64 0) (.int .i64 t) (.int .i64 t), .bin .xor 3 (.int .i64 t) (.int .i64 t) (.int .i64 0), .bin .and 3 (.int .i64 t) (.int .i64 0) (.int .i64 0)]) := by kernel_rfl
theorem c158 (t : Int) (ht : -9223372036854775808 ≤ t ∧ t ≤ 9223372036854775807) (h : Heap) : callW Tryz.prog ClH 158 [.int .i64 0, .int .i64 t] h = some (.tuple #[.int .i64 t, .bool true], h, true) := by
  have key := flat_ok (P := Tryz.prog) (H := ClH) (fun h => r_c158 t h) rfl (ob_cons (ob_add (w64 (by omega) (by omega))) (ob_cons (ob_xor0 (by omega)) (ob_cons (ob_xorself) (ob_cons (ob_and0) ob_nil)))) h
  exact key
theorem tm0 {b x0 : Int} (hb : 0 ≤ b ∧ b ≤ 2199023255552) (h : x0 = (b + 3900000000000000000) * 4294967296 / 1000000000) : 16750372454400000000 ≤ x0 ∧ x0 ≤ 16750381899200000000 := by omega
theorem tm1 {w x1 x2 x3 x4 x5 : Int} (hw : 0 ≤ w ∧ w < 1000000000) (h1 : x1 = (4 * w + 16750372454400000000) * 1000000000 / 18446744073709551616) (h2 : x2 = (4 * w + 16750372454400000000) * 1000000000 % 18446744073709551616) (h3 : x3 = x2 / 2 ^ 32) (h4 : x4 = (4294967296 * x1) + x3) (h5 : x5 = x2 % 2 ^ 32) :
    (0 ≤ x1 ∧ x1 < 1073741824) ∧ (0 ≤ x2 ∧ x2 < 18446744073709551616) ∧ (0 ≤ x3 ∧ x3 < 4294967296) ∧ (0 ≤ x5 ∧ x5 < 4294967296) ∧ x4 = 4294967296 * x1 + x3 ∧ x4 * 4294967296 + x5 = 4000000000 * w + 16750372454400000000000000000 := by
  have a1 : x1 * 18446744073709551616 + x2 = (4 * w + 16750372454400000000) * 1000000000 := by omega
  have a2 : 0 ≤ x2 ∧ x2 < 18446744073709551616 := by omega
  clear h1 h2
  omega
theorem tm2 {w x4 x5 : Int} (h5 : 0 ≤ x5 ∧ x5 < 4294967296) (h : x4 * 4294967296 + x5 = 4000000000 * w + 16750372454400000000000000000) : x5 = w * 4000000000 % 4294967296 := by omega
theorem tm3a {w x4 x5 : Int} (h : x4 * 4294967296 + x5 = 4000000000 * w + 16750372454400000000000000000) : w * 4000000000 + 4294967295 = (x5 - 1) + (x4 + 1 - 3900000000000000000) * 4294967296 := by omega
theorem tm3b {y x4 x5 : Int} (h5 : 0 ≤ x5 ∧ x5 < 4294967296) (hf : ¬ x5 = 0) (e : y = (x5 - 1) + (x4 + 1 - 3900000000000000000) * 4294967296) : x4 + 1 = 3900000000000000000 + y / 4294967296 := by omega
theorem tm4b {y x4 x5 : Int} (hf : x5 = 0) (e : y = (x5 - 1) + (x4 + 1 - 3900000000000000000) * 4294967296) : x4 = 3900000000000000000 + y / 4294967296 := by omega
theorem tm3 {w x4 x5 : Int} (h5 : 0 ≤ x5 ∧ x5 < 4294967296) (h : x4 * 4294967296 + x5 = 4000000000 * w + 16750372454400000000000000000) (hf : ¬ x5 = 0) : x4 + 1 = 3900000000000000000 + (w * 4000000000 + 4294967295) / 4294967296 := tm3b h5 hf (tm3a h)
theorem tm4 {w x4 x5 : Int} (h5 : 0 ≤ x5 ∧ x5 < 4294967296) (h : x4 * 4294967296 + x5 = 4000000000 * w + 16750372454400000000000000000) (hf : x5 = 0) : x4 = 3900000000000000000 + (w * 4000000000 + 4294967295) / 4294967296 := tm4b hf (tm3a h)
theorem tm5 {w x4 x5 : Int} (hw : 0 ≤ w ∧ w < 1000000000) (h5 : 0 ≤ x5 ∧ x5 < 4294967296) (h : x4 * 4294967296 + x5 = 4000000000 * w + 16750372454400000000000000000) : 3900000000000000000 ≤ x4 ∧ x4 ≤ 3900000001000000000 := by omega
theorem r_c133_pp (w b x0 x1 x2 x3 x4 x5 : Int) (h : Heap) : flatX Tryz.prog ClH [17, 20, 23, 25, 28, 31, 35, 41, 51, 55, 57, 58, 59, 61, 62, 64, 67, 73, 84, 88] 200 133 [.int .u64 (4 * w + 16750372454400000000), .int .i64 (b + 3900000000000000000)] h [.bool false, .bool false, .int .u64 x0, .int .i64 0, .int .i64 (4 * w - x0 + 16750372454400000000), .bool true, .bool false, .bool false, .tuple #[.int .u64 x1, .int .u64 x2], .int .u64 (4294967296 * x1), .int .u64 x3, .int .u64 x4, .int .i64 x4, .int .u64 x5, .bool true, .int .i64 (x4 + 1), .tuple #[.int .i64 0, .bool true], .tuple #[.int .i64 (x4 + 1), .bool true], .bool false, .bool false] = some ([.int .i64 (x4 + 1), .int .i64 0], h, [.bin .lss 3 (.int .i64 (b + 3900000000000000000)) (.int .i64 (-8000000000000000000)) (.bool false), .bin .gtr 3 (.int .i64 (b + 3900000000000000000)) (.int .i64 8000000000000000000) (.bool false), .call 154 [.int .i64 (b + 3900000000000000000)] (.int .u64 x0), .call 155 [.int .i64 (b + 3900000000000000000)] (.int .i64 0), .call 156 [.int .u64 (4 * w + 16750372454400000000), .int .u64 x0] (.int .i64 (4 * w - x0 + 16750372454400000000)), .bin .geq 3 (.int .i64 (4 * w - x0 + 16750372454400000000)) (.int .i64 0) (.bool true), .bin .lss 22 (.int .u64 (4 * w + 16750372454400000000)) (.int .u64 x0) (.bool false), .bin .lss 3 (.int .i64 (4 * w - x0 + 16750372454400000000)) (.int .i64 0) (.bool false), .call 145 [.int .u64 (4 * w + 16750372454400000000), .int .u64 1000000000] (.tuple #[.int .u64 x1, .int .u64 x2]), .bin .shl 22 (.int .u64 x1) (.int .u64 32) (.int .u64 (4294967296 * x1)), .bin .shr 22 (.int .u64 x2) (.int .u64 32) (.int .u64 x3), .bin .or 22 (.int .u64 (4294967296 * x1)) (.int .u64 x3) (.int .u64 x4), .conv 22 3 (.int .u64 x4) (.int .i64 x4), .bin .and 22 (.int .u64 x2) (.int .u64 4294967295) (.int .u64 x5), .bin .neq 22 (.int .u64 x5) (.int .u64 0) (.bool true), .bin .add 3 (.int .i64 x4) (.int .i64 1) (.int .i64 (x4 + 1)), .call 157 [.int .i64 0, .int .i64 4294967296000000000] (.tuple #[.int .i64 0, .bool true]), .call 158 [.int .i64 0, .int .i64 (x4 + 1)] (.tuple #[.int .i64 (x4 + 1), .bool true]), .bin .lss 3 (.int .i64 (x4 + 1)) (.int .i64 (-8000000000000000000)) (.bool false), .bin .gtr 3 (.int .i64 (x4 + 1)) (.int .i64 8000000000000000000) (.bool false)]) := by kernel_rfl
theorem c133_pp (w b : Int) (hw : 0 ≤ w ∧ w < 1000000000) (hb : 0 ≤ b ∧ b ≤ 2199023255552) (hd : ((b + 3900000000000000000) * 4294967296 / 1000000000) ≤ 4 * w + 16750372454400000000) (hf : ¬ (w * 4000000000) % 4294967296 = 0) (h : Heap) : callW Tryz.prog ClH 133 [.int .u64 (4 * w + 16750372454400000000), .int .i64 (b + 3900000000000000000)] h = some (.tuple #[.int .i64 (3900000000000000000 + (w * 4000000000 + 4294967295) / 4294967296), .int .i64 0], h, true) := by
  obtain ⟨x0, hx0⟩ : ∃ z : Int, Eqv z ((b + 3900000000000000000) * 4294967296 / 1000000000) := ⟨_, Eqv.rfl⟩
  obtain ⟨x1, hx1⟩ : ∃ z : Int, Eqv z ((4 * w + 16750372454400000000) * 1000000000 / 18446744073709551616) := ⟨_, Eqv.rfl⟩
  obtain ⟨x2, hx2⟩ : ∃ z : Int, Eqv z ((4 * w + 16750372454400000000) * 1000000000 % 18446744073709551616) := ⟨_, Eqv.rfl⟩
  obtain ⟨x3, hx3⟩ : ∃ z : Int, Eqv z (x2 / 2 ^ 32) := ⟨_, Eqv.rfl⟩
  obtain ⟨x4, hx4⟩ : ∃ z : Int, Eqv z ((4294967296 * x1) + x3) := ⟨_, Eqv.rfl⟩
  obtain ⟨x5, hx5⟩ : ∃ z : Int, Eqv z (x2 % 2 ^ 32) := ⟨_, Eqv.rfl⟩
  have t0 := tm0 hb hx0.out
  have tr : Eqv (x4 + 1) (3900000000000000000 + (w * 4000000000 + 4294967295) / 4294967296) ∧ (0 ≤ x1 ∧ x1 < 1073741824) ∧ (0 ≤ x2 ∧ x2 < 18446744073709551616) ∧ (0 ≤ x3 ∧ x3 < 4294967296) ∧ (0 ≤ x5 ∧ x5 < 4294967296) ∧ x4 = 4294967296 * x1 + x3 ∧ (3900000000000000000 ≤ x4 ∧ x4 ≤ 3900000001000000000) ∧ ¬ x5 = 0 := by
    have t1 := tm1 hw hx1.out hx2.out hx3.out hx4.out hx5.out
    have t5 := tm5 hw t1.2.2.2.1 t1.2.2.2.2.2
    have t2 := tm2 t1.2.2.2.1 t1.2.2.2.2.2
    rw [← t2] at hf
    exact ⟨tm3 t1.2.2.2.1 t1.2.2.2.2.2 hf, t1.1, t1.2.1, t1.2.2.1, t1.2.2.2.1, t1.2.2.2.2.1, t5, hf⟩
  obtain ⟨tr, tb1, tb2, tb3, tb5, te, t5, hf'⟩ := tr
  rw [← hx0.out] at hd
  clear hf
  have key := flat_ok (P := Tryz.prog) (H := ClH) (fun h => r_c133_pp w b x0 x1 x2 x3 x4 x5 h) rfl (ob_cons (ob_nlss (by omega)) (ob_cons (ob_ngtr (by omega)) (ob_cons (ob_call (by intro h; rw [hx0.out]; exact c154 (b + 3900000000000000000) (by omega) h)) (ob_cons (ob_call (c155 (b + 3900000000000000000) (by omega))) (ob_cons (ob_call (by intro h; rw [show (4 * w - x0 + 16750372454400000000 : Int) = (4 * w + 16750372454400000000) - (x0) from by omega]; exact c156_a (4 * w + 16750372454400000000) (x0) (by omega) (by omega) (by omega) h)) (ob_cons (ob_geq (by omega)) (ob_cons (ob_nlss (by omega)) (ob_cons (ob_nlss (by omega)) (ob_cons (ob_call (by intro h; rw [hx1.out, hx2.out]; exact c145_1000000000 (4 * w + 16750372454400000000) (by omega) h)) (ob_cons (ob_shl 32 (by decide) (by rw [IntKind.wrap_u64]; omega)) (ob_cons (ob_shr 32 (by decide) hx3.symm) (ob_cons (ob_or 32 (by omega) (by omega) (by omega) (by omega) (by omega)) (ob_cons (ob_conv Tryz.underlying22 Tryz.underlying3 (by rw [IntKind.wrap_i64]; omega)) (ob_cons (ob_and 32 (by decide) (by omega) (by decide) hx5.symm) (ob_cons (ob_neq (by omega)) (ob_cons (ob_add (w64 (by omega) (by omega))) (ob_cons (ob_call c157) (ob_cons (ob_call (c158 (x4 + 1) (by omega))) (ob_cons (ob_nlss (by omega)) (ob_cons (ob_ngtr (by omega)) ob_nil)))))))))))))))))))) h
  have e0 : (x4 + 1 : Int) = 3900000000000000000 + (w * 4000000000 + 4294967295) / 4294967296 := tr.out
  have eq : packR [.int .i64 (x4 + 1), .int .i64 0] = .tuple #[.int .i64 (3900000000000000000 + (w * 4000000000 + 4294967295) / 4294967296), .int .i64 0] := by rw [e0]; rfl
  rw [eq] at key
  exact key
theorem r_c133_pz (w b x0 x1 x2 x3 x4 x5 : Int) (h : Heap) : flatX Tryz.prog ClH [17, 20, 23, 25, 28, 31, 35, 41, 51, 55, 57, 58, 59, 61, 62, 67, 73, 84, 88] 200 133 [.int .u64 (4 * w + 16750372454400000000), .int .i64 (b + 3900000000000000000)] h [.bool false, .bool false, .int .u64 x0, .int .i64 0, .int .i64 (4 * w - x0 + 16750372454400000000), .bool true, .bool false, .bool false, .tuple #[.int .u64 x1, .int .u64 x2], .int .u64 (4294967296 * x1), .int .u64 x3, .int .u64 x4, .int .i64 x4, .int .u64 x5, .bool false, .tuple #[.int .i64 0, .bool true], .tuple #[.int .i64 x4, .bool true], .bool false, .bool false] = some ([.int .i64 x4, .int .i64 0], h, [.bin .lss 3 (.int .i64 (b + 3900000000000000000)) (.int .i64 (-8000000000000000000)) (.bool false), .bin .gtr 3 (.int .i64 (b + 3900000000000000000)) (.int .i64 8000000000000000000) (.bool false), .call 154 [.int .i64 (b + 3900000000000000000)] (.int .u64 x0), .call 155 [.int .i64 (b + 3900000000000000000)] (.int .i64 0), .call 156 [.int .u64 (4 * w + 16750372454400000000), .int .u64 x0] (.int .i64 (4 * w - x0 + 16750372454400000000)), .bin .geq 3 (.int .i64 (4 * w - x0 + 16750372454400000000)) (.int .i64 0) (.bool true), .bin .lss 22 (.int .u64 (4 * w + 16750372454400000000)) (.int .u64 x0) (.bool false), .bin .lss 3 (.int .i64 (4 * w - x0 + 16750372454400000000)) (.int .i64 0) (.bool false), .call 145 [.int .u64 (4 * w + 16750372454400000000), .int .u64 1000000000] (.tuple #[.int .u64 x1, .int .u64 x2]), .bin .shl 22 (.int .u64 x1) (.int .u64 32) (.int .u64 (4294967296 * x1)), .bin .shr 22 (.int .u64 x2) (.int .u64 32) (.int .u64 x3), .bin .or 22 (.int .u64 (4294967296 * x1)) (.int .u64 x3) (.int .u64 x4), .conv 22 3 (.int .u64 x4) (.int .i64 x4), .bin .and 22 (.int .u64 x2) (.int .u64 4294967295) (.int .u64 x5), .bin .neq 22 (.int .u64 x5) (.int .u64 0) (.bool false), .call 157 [.int .i64 0, .int .i64 4294967296000000000] (.tuple #[.int .i64 0, .bool true]), .call 158 [.int .i64 0, .int .i64 x4] (.tuple #[.int .i64 x4, .bool true]), .bin .lss 3 (.int .i64 x4) (.int .i64 (-8000000000000000000)) (.bool false), .bin .gtr 3 (.int .i64 x4) (.int .i64 8000000000000000000) (.bool false)]) := by kernel_rfl
theorem c133_pz (w b : Int) (hw : 0 ≤ w ∧ w < 1000000000) (hb : 0 ≤ b ∧ b ≤ 2199023255552) (hd : ((b + 3900000000000000000) * 4294967296 / 1000000000) ≤ 4 * w + 16750372454400000000) (hf : (w * 4000000000) % 4294967296 = 0) (h : Heap) : callW Tryz.prog ClH 133 [.int .u64 (4 * w + 16750372454400000000), .int .i64 (b + 3900000000000000000)] h = some (.tuple #[.int .i64 (3900000000000000000 + (w * 4000000000 + 4294967295) / 4294967296), .int .i64 0], h, true) := by
  obtain ⟨x0, hx0⟩ : ∃ z : Int, Eqv z ((b + 3900000000000000000) * 4294967296 / 1000000000) := ⟨_, Eqv.rfl⟩
  obtain ⟨x1, hx1⟩ : ∃ z : Int, Eqv z ((4 * w + 16750372454400000000) * 1000000000 / 18446744073709551616) := ⟨_, Eqv.rfl⟩
  obtain ⟨x2, hx2⟩ : ∃ z : Int, Eqv z ((4 * w + 16750372454400000000) * 1000000000 % 18446744073709551616) := ⟨_, Eqv.rfl⟩
  obtain ⟨x3, hx3⟩ : ∃ z : Int, Eqv z (x2 / 2 ^ 32) := ⟨_, Eqv.rfl⟩
  obtain ⟨x4, hx4⟩ : ∃ z : Int, Eqv z ((4294967296 * x1) + x3) := ⟨_, Eqv.rfl⟩
  obtain ⟨x5, hx5⟩ : ∃ z : Int, Eqv z (x2 % 2 ^ 32) := ⟨_, Eqv.rfl⟩
  have t0 := tm0 hb hx0.out
  have tr : Eqv (x4) (3900000000000000000 + (w * 4000000000 + 4294967295) / 4294967296) ∧ (0 ≤ x1 ∧ x1 < 1073741824) ∧ (0 ≤ x2 ∧ x2 < 18446744073709551616) ∧ (0 ≤ x3 ∧ x3 < 4294967296) ∧ (0 ≤ x5 ∧ x5 < 4294967296) ∧ x4 = 4294967296 * x1 + x3 ∧ (3900000000000000000 ≤ x4 ∧ x4 ≤ 3900000001000000000) ∧ x5 = 0 := by
    have t1 := tm1 hw hx1.out hx2.out hx3.out hx4.out hx5.out
    have t5 := tm5 hw t1.2.2.2.1 t1.2.2.2.2.2
    have t2 := tm2 t1.2.2.2.1 t1.2.2.2.2.2
    rw [← t2] at hf
    exact ⟨tm4 t1.2.2.2.1 t1.2.2.2.2.2 hf, t1.1, t1.2.1, t1.2.2.1, t1.2.2.2.1, t1.2.2.2.2.1, t5, hf⟩
  obtain ⟨tr, tb1, tb2, tb3, tb5, te, t5, hf'⟩ := tr
  rw [← hx0.out] at hd
  clear hf
  have key := flat_ok (P := Tryz.prog) (H := ClH) (fun h => r_c133_pz w b x0 x1 x2 x3 x4 x5 h) rfl (ob_cons (ob_nlss (by omega)) (ob_cons (ob_ngtr (by omega)) (ob_cons (ob_call (by intro h; rw [hx0.out]; exact c154 (b + 3900000000000000000) (by omega) h)) (ob_cons (ob_call (c155 (b + 3900000000000000000) (by omega))) (ob_cons (ob_call (by intro h; rw [show (4 * w - x0 + 16750372454400000000 : Int) = (4 * w + 16750372454400000000) - (x0) from by omega]; exact c156_a (4 * w + 16750372454400000000) (x0) (by omega) (by omega) (by omega) h)) (ob_cons (ob_geq (by omega)) (ob_cons (ob_nlss (by omega)) (ob_cons (ob_nlss (by omega)) (ob_cons (ob_call (by intro h; rw [hx1.out, hx2.out]; exact c145_1000000000 (4 * w + 16750372454400000000) (by omega) h)) (ob_cons (ob_shl 32 (by decide) (by rw [IntKind.wrap_u64]; omega)) (ob_cons (ob_shr 32 (by decide) hx3.symm) (ob_cons (ob_or 32 (by omega) (by omega) (by omega) (by omega) (by omega)) (ob_cons (ob_conv Tryz.underlying22 Tryz.underlying3 (by rw [IntKind.wrap_i64]; omega)) (ob_cons (ob_and 32 (by decide) (by omega) (by decide) hx5.symm) (ob_cons (ob_nneq (by omega)) (ob_cons (ob_call c157) (ob_cons (ob_call (c158 (x4) (by omega))) (ob_cons (ob_nlss (by omega)) (ob_cons (ob_ngtr (by omega)) ob_nil))))))))))))))))))) h
  have e0 : (x4 : Int) = 3900000000000000000 + (w * 4000000000 + 4294967295) / 4294967296 := tr.out
  have eq : packR [.int .i64 x4, .int .i64 0] = .tuple #[.int .i64 (3900000000000000000 + (w * 4000000000 + 4294967295) / 4294967296), .int .i64 0] := by rw [e0]; rfl
  rw [eq] at key
  exact key
theorem r_c133_np (w b x0 x1 x2 x3 x4 x5 : Int) (h : Heap) : flatX Tryz.prog ClH [17, 20, 23, 25, 28, 31, 41, 45, 51, 55, 57, 58, 59, 61, 62, 64, 67, 73, 84, 88] 200 133 [.int .u64 (4 * w + 16750372454400000000), .int .i64 (b + 3900000000000000000)] h [.bool false, .bool false, .int .u64 x0, .int .i64 0, .int .i64 (4 * w - x0 + 16750372454400000000), .bool false, .bool true, .bool false, .tuple #[.int .u64 x1, .int .u64 x2], .int .u64 (4294967296 * x1), .int .u64 x3, .int .u64 x4, .int .i64 x4, .int .u64 x5, .bool true, .int .i64 (x4 + 1), .tuple #[.int .i64 0, .bool true], .tuple #[.int .i64 (x4 + 1), .bool true], .bool false, .bool false] = some ([.int .i64 (x4 + 1), .int .i64 0], h, [.bin .lss 3 (.int .i64 (b + 3900000000000000000)) (.int .i64 (-8000000000000000000)) (.bool false), .bin .gtr 3 (.int .i64 (b + 3900000000000000000)) (.int .i64 8000000000000000000) (.bool false), .call 154 [.int .i64 (b + 3900000000000000000)] (.int .u64 x0), .call 155 [.int .i64 (b + 3900000000000000000)] (.int .i64 0), .call 156 [.int .u64 (4 * w + 16750372454400000000), .int .u64 x0] (.int .i64 (4 * w - x0 + 16750372454400000000)), .bin .geq 3 (.int .i64 (4 * w - x0 + 16750372454400000000)) (.int .i64 0) (.bool false), .bin .lss 3 (.int .i64 (4 * w - x0 + 16750372454400000000)) (.int .i64 0) (.bool true), .bin .gtr 22 (.int .u64 (4 * w + 16750372454400000000)) (.int .u64 x0) (.bool false), .call 145 [.int .u64 (4 * w + 16750372454400000000), .int .u64 1000000000] (.tuple #[.int .u64 x1, .int .u64 x2]), .bin .shl 22 (.int .u64 x1) (.int .u64 32) (.int .u64 (4294967296 * x1)), .bin .shr 22 (.int .u64 x2) (.int .u64 32) (.int .u64 x3), .bin .or 22 (.int .u64 (4294967296 * x1)) (.int .u64 x3) (.int .u64 x4), .conv 22 3 (.int .u64 x4) (.int .i64 x4), .bin .and 22 (.int .u64 x2) (.int .u64 4294967295) (.int .u64 x5), .bin .neq 22 (.int .u64 x5) (.int .u64 0) (.bool true), .bin .add 3 (.int .i64 x4) (.int .i64 1) (.int .i64 (x4 + 1)), .call 157 [.int .i64 0, .int .i64 4294967296000000000] (.tuple #[.int .i64 0, .bool true]), .call 158 [.int .i64 0, .int .i64 (x4 + 1)] (.tuple #[.int .i64 (x4 + 1), .bool true]), .bin .lss 3 (.int .i64 (x4 + 1)) (.int .i64 (-8000000000000000000)) (.bool false), .bin .gtr 3 (.int .i64 (x4 + 1)) (.int .i64 8000000000000000000) (.bool false)]) := by kernel_rfl
theorem c133_np (w b : Int) (hw : 0 ≤ w ∧ w < 1000000000) (hb : 0 ≤ b ∧ b ≤ 2199023255552) (hd : 4 * w + 16750372454400000000 < ((b + 3900000000000000000) * 4294967296 / 1000000000)) (hf : ¬ (w * 4000000000) % 4294967296 = 0) (h : Heap) : callW Tryz.prog ClH 133 [.int .u64 (4 * w + 16750372454400000000), .int .i64 (b + 3900000000000000000)] h = some (.tuple #[.int .i64 (3900000000000000000 + (w * 4000000000 + 4294967295) / 4294967296), .int .i64 0], h, true) := by
  obtain ⟨x0, hx0⟩ : ∃ z : Int, Eqv z ((b + 3900000000000000000) * 4294967296 / 1000000000) := ⟨_, Eqv.rfl⟩
  obtain ⟨x1, hx1⟩ : ∃ z : Int, Eqv z ((4 * w + 16750372454400000000) * 1000000000 / 18446744073709551616) := ⟨_, Eqv.rfl⟩
  obtain ⟨x2, hx2⟩ : ∃ z : Int, Eqv z ((4 * w + 16750372454400000000) * 1000000000 % 18446744073709551616) := ⟨_, Eqv.rfl⟩
  obtain ⟨x3, hx3⟩ : ∃ z : Int, Eqv z (x2 / 2 ^ 32) := ⟨_, Eqv.rfl⟩
  obtain ⟨x4, hx4⟩ : ∃ z : Int, Eqv z ((4294967296 * x1) + x3) := ⟨_, Eqv.rfl⟩
  obtain ⟨x5, hx5⟩ : ∃ z : Int, Eqv z (x2 % 2 ^ 32) := ⟨_, Eqv.rfl⟩
  have t0 := tm0 hb hx0.out
  have tr : Eqv (x4 + 1) (3900000000000000000 + (w * 4000000000 + 4294967295) / 4294967296) ∧ (0 ≤ x1 ∧ x1 < 1073741824) ∧ (0 ≤ x2 ∧ x2 < 18446744073709551616) ∧ (0 ≤ x3 ∧ x3 < 4294967296) ∧ (0 ≤ x5 ∧ x5 < 4294967296) ∧ x4 = 4294967296 * x1 + x3 ∧ (3900000000000000000 ≤ x4 ∧ x4 ≤ 3900000001000000000) ∧ ¬ x5 = 0 := by
    have t1 := tm1 hw hx1.out hx2.out hx3.out hx4.out hx5.out
    have t5 := tm5 hw t1.2.2.2.1 t1.2.2.2.2.2
    have t2 := tm2 t1.2.2.2.1 t1.2.2.2.2.2
    rw [← t2] at hf
    exact ⟨tm3 t1.2.2.2.1 t1.2.2.2.2.2 hf, t1.1, t1.2.1, t1.2.2.1, t1.2.2.2.1, t1.2.2.2.2.1, t5, hf⟩
  obtain ⟨tr, tb1, tb2, tb3, tb5, te, t5, hf'⟩ := tr
  rw [← hx0.out] at hd
  clear hf
  have key := flat_ok (P := Tryz.prog) (H := ClH) (fun h => r_c133_np w b x0 x1 x2 x3 x4 x5 h) rfl (ob_cons (ob_nlss (by omega)) (ob_cons (ob_ngtr (by omega)) (ob_cons (ob_call (by intro h; rw [hx0.out]; exact c154 (b + 3900000000000000000) (by omega) h)) (ob_cons (ob_call (c155 (b + 3900000000000000000) (by omega))) (ob_cons (ob_call (by intro h; rw [show (4 * w - x0 + 16750372454400000000 : Int) = (4 * w + 16750372454400000000) - (x0) from by omega]; exact c156_b (4 * w + 16750372454400000000) (x0) (by omega) (by omega) (by omega) h)) (ob_cons (ob_ngeq (by omega)) (ob_cons (ob_lss (by omega)) (ob_cons (ob_ngtr (by omega)) (ob_cons (ob_call (by intro h; rw [hx1.out, hx2.out]; exact c145_1000000000 (4 * w + 16750372454400000000) (by omega) h)) (ob_cons (ob_shl 32 (by decide) (by rw [IntKind.wrap_u64]; omega)) (ob_cons (ob_shr 32 (by decide) hx3.symm) (ob_cons (ob_or 32 (by omega) (by omega) (by omega) (by omega) (by omega)) (ob_cons (ob_conv Tryz.underlying22 Tryz.underlying3 (by rw [IntKind.wrap_i64]; omega)) (ob_cons (ob_and 32 (by decide) (by omega) (by decide) hx5.symm) (ob_cons (ob_neq (by omega)) (ob_cons (ob_add (w64 (by omega) (by omega))) (ob_cons (ob_call c157) (ob_cons (ob_call (c158 (x4 + 1) (by omega))) (ob_cons (ob_nlss (by omega)) (ob_cons (ob_ngtr (by omega)) ob_nil)))))))))))))))))))) h
  have e0 : (x4 + 1 : Int) = 3900000000000000000 + (w * 4000000000 + 4294967295) / 4294967296 := tr.out
  have eq : packR [.int .i64 (x4 + 1), .int .i64 0] = .tuple #[.int .i64 (3900000000000000000 + (w * 4000000000 + 4294967295) / 4294967296), .int .i64 0] := by rw [e0]; rfl
  rw [eq] at key
  exact key
theorem r_c133_nz (w b x0 x1 x2 x3 x4 x5 : Int) (h : Heap) : flatX Tryz.prog ClH [17, 20, 23, 25, 28, 31, 41, 45, 51, 55, 57, 58, 59, 61, 62, 67, 73, 84, 88] 200 133 [.int .u64 (4 * w + 16750372454400000000), .int .i64 (b + 3900000000000000000)] h [.bool false, .bool false, .int .u64 x0, .int .i64 0, .int .i64 (4 * w - x0 + 16750372454400000000), .bool false, .bool true, .bool false, .tuple #[.int .u64 x1, .int .u64 x2], .int .u64 (4294967296 * x1), .int .u64 x3, .int .u64 x4, .int .i64 x4, .int .u64 x5, .bool false, .tuple #[.int .i64 0, .bool true], .tuple #[.int .i64 x4, .bool true], .bool false, .bool false] = some ([.int .i64 x4, .int .i64 0], h, [.bin .lss 3 (.int .i64 (b + 3900000000000000000)) (.int .i64 (-8000000000000000000)) (.bool false), .bin .gtr 3 (.int .i64 (b + 3900000000000000000)) (.int .i64 8000000000000000000) (.bool false), .call 154 [.int .i64 (b + 3900000000000000000)] (.int .u64 x0), .call 155 [.int .i64 (b + 3900000000000000000)] (.int .i64 0), .call 156 [.int .u64 (4 * w + 16750372454400000000), .int .u64 x0] (.int .i64 (4 * w - x0 + 16750372454400000000)), .bin .geq 3 (.int .i64 (4 * w - x0 + 16750372454400000000)) (.int .i64 0) (.bool false), .bin .lss 3 (.int .i64 (4 * w - x0 + 16750372454400000000)) (.int .i64 0) (.bool true), .bin .gtr 22 (.int .u64 (4 * w + 16750372454400000000)) (.int .u64 x0) (.bool false), .call 145 [.int .u64 (4 * w + 16750372454400000000), .int .u64 1000000000] (.tuple #[.int .u64 x1, .int .u64 x2]), .bin .shl 22 (.int .u64 x1) (.int .u64 32) (.int .u64 (4294967296 * x1)), .bin .shr 22 (.int .u64 x2) (.int .u64 32) (.int .u64 x3), .bin .or 22 (.int .u64 (4294967296 * x1)) (.int .u64 x3) (.int .u64 x4), .conv 22 3 (.int .u64 x4) (.int .i64 x4), .bin .and 22 (.int .u64 x2) (.int .u64 4294967295) (.int .u64 x5), .bin .neq 22 (.int .u64 x5) (.int .u64 0) (.bool false), .call 157 [.int .i64 0, .int .i64 4294967296000000000] (.tuple #[.int .i64 0, .bool true]), .call 158 [.int .i64 0, .int .i64 x4] (.tuple #[.int .i64 x4, .bool true]), .bin .lss 3 (.int .i64 x4) (.int .i64 (-8000000000000000000)) (.bool false), .bin .gtr 3 (.int .i64 x4) (.int .i64 8000000000000000000) (.bool false)]) := by kernel_rfl
theorem c133_nz (w b : Int) (hw : 0 ≤ w ∧ w < 1000000000) (hb : 0 ≤ b ∧ b ≤ 2199023255552) (hd : 4 * w + 16750372454400000000 < ((b + 3900000000000000000) * 4294967296 / 1000000000)) (hf : (w * 4000000000) % 4294967296 = 0) (h : Heap) : callW Tryz.prog ClH 133 [.int .u64 (4 * w + 16750372454400000000), .int .i64 (b + 3900000000000000000)] h = some (.tuple #[.int .i64 (3900000000000000000 + (w * 4000000000 + 4294967295) / 4294967296), .int .i64 0], h, true) := by
  obtain ⟨x0, hx0⟩ : ∃ z : Int, Eqv z ((b + 3900000000000000000) * 4294967296 / 1000000000) := ⟨_, Eqv.rfl⟩
  obtain ⟨x1, hx1⟩ : ∃ z : Int, Eqv z ((4 * w + 16750372454400000000) * 1000000000 / 18446744073709551616) := ⟨_, Eqv.rfl⟩
  obtain ⟨x2, hx2⟩ : ∃ z : Int, Eqv z ((4 * w + 16750372454400000000) * 1000000000 % 18446744073709551616) := ⟨_, Eqv.rfl⟩
  obtain ⟨x3, hx3⟩ : ∃ z : Int, Eqv z (x2 / 2 ^ 32) := ⟨_, Eqv.rfl⟩
  obtain ⟨x4, hx4⟩ : ∃ z : Int, Eqv z ((4294967296 * x1) + x3) := ⟨_, Eqv.rfl⟩
  obtain ⟨x5, hx5⟩ : ∃ z : Int, Eqv z (x2 % 2 ^ 32) := ⟨_, Eqv.rfl⟩
  have t0 := tm0 hb hx0.out
  have tr : Eqv (x4) (3900000000000000000 + (w * 4000000000 + 4294967295) / 4294967296) ∧ (0 ≤ x1 ∧ x1 < 1073741824) ∧ (0 ≤ x2 ∧ x2 < 18446744073709551616) ∧ (0 ≤ x3 ∧ x3 < 4294967296) ∧ (0 ≤ x5 ∧ x5 < 4294967296) ∧ x4 = 4294967296 * x1 + x3 ∧ (3900000000000000000 ≤ x4 ∧ x4 ≤ 3900000001000000000) ∧ x5 = 0 := by
    have t1 := tm1 hw hx1.out hx2.out hx3.out hx4.out hx5.out
    have t5 := tm5 hw t1.2.2.2.1 t1.2.2.2.2.2
    have t2 := tm2 t1.2.2.2.1 t1.2.2.2.2.2
    rw [← t2] at hf
    exact ⟨tm4 t1.2.2.2.1 t1.2.2.2.2.2 hf, t1.1, t1.2.1, t1.2.2.1, t1.2.2.2.1, t1.2.2.2.2.1, t5, hf⟩
  obtain ⟨tr, tb1, tb2, tb3, tb5, te, t5, hf'⟩ := tr
  rw [← hx0.out] at hd
  clear hf
  have key := flat_ok (P := Tryz.prog) (H := ClH) (fun h => r_c133_nz w b x0 x1 x2 x3 x4 x5 h) rfl (ob_cons (ob_nlss (by omega)) (ob_cons (ob_ngtr (by omega)) (ob_cons (ob_call (by intro h; rw [hx0.out]; exact c154 (b + 3900000000000000000) (by omega) h)) (ob_cons (ob_call (c155 (b + 3900000000000000000) (by omega))) (ob_cons (ob_call (by intro h; rw [show (4 * w - x0 + 16750372454400000000 : Int) = (4 * w + 16750372454400000000) - (x0) from by omega]; exact c156_b (4 * w + 16750372454400000000) (x0) (by omega) (by omega) (by omega) h)) (ob_cons (ob_ngeq (by omega)) (ob_cons (ob_lss (by omega)) (ob_cons (ob_ngtr (by omega)) (ob_cons (ob_call (by intro h; rw [hx1.out, hx2.out]; exact c145_1000000000 (4 * w + 16750372454400000000) (by omega) h)) (ob_cons (ob_shl 32 (by decide) (by rw [IntKind.wrap_u64]; omega)) (ob_cons (ob_shr 32 (by decide) hx3.symm) (ob_cons (ob_or 32 (by omega) (by omega) (by omega) (by omega) (by omega)) (ob_cons (ob_conv Tryz.underlying22 Tryz.underlying3 (by rw [IntKind.wrap_i64]; omega)) (ob_cons (ob_and 32 (by decide) (by omega) (by decide) hx5.symm) (ob_cons (ob_nneq (by omega)) (ob_cons (ob_call c157) (ob_cons (ob_call (c158 (x4) (by omega))) (ob_cons (ob_nlss (by omega)) (ob_cons (ob_ngtr (by omega)) ob_nil))))))))))))))))))) h
  have e0 : (x4 : Int) = 3900000000000000000 + (w * 4000000000 + 4294967295) / 4294967296 := tr.out
  have eq : packR [.int .i64 x4, .int .i64 0] = .tuple #[.int .i64 (3900000000000000000 + (w * 4000000000 + 4294967295) / 4294967296), .int .i64 0] := by rw [e0]; rfl
  rw [eq] at key
  exact key
theorem c133 (w b : Int) (hw : 0 ≤ w ∧ w < 1000000000) (hb : 0 ≤ b ∧ b ≤ 2199023255552) (h : Heap) : callW Tryz.prog ClH 133 [.int .u64 (4 * w + 16750372454400000000), .int .i64 (b + 3900000000000000000)] h = some (.tuple #[.int .i64 (3900000000000000000 + (w * 4000000000 + 4294967295) / 4294967296), .int .i64 0], h, true) := by
  by_cases hd : ((b + 3900000000000000000) * 4294967296 / 1000000000) ≤ 4 * w + 16750372454400000000 <;> by_cases hf : (w * 4000000000) % 4294967296 = 0
  · exact c133_pz w b hw hb hd hf h
  · exact c133_pp w b hw hb hd hf h
  · exact c133_nz w b hw hb (by omega) hf h
  · exact c133_np w b hw hb (by omega) hf h
end Go.Proofs.YtlnjhllfacmkoaaGreat
