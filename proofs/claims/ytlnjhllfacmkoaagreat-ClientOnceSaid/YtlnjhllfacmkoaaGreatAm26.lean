/- Calls run by rewriting: what is to be shown of the code of a function. -/
import Derived.Test.YtlnjhllfacmkoaaGreatAm25
set_option linter.unusedVariables false
set_option linter.unusedSimpArgs false
set_option linter.unusedSectionVars false
namespace Go.Am
open Go.RowKit
noncomputable section
/-- it ends with these results, and nothing old was written -/
def flatQ (P : Program) (rs : List ResultVar) (h : Heap) (vs : List Value) : QQ
  | .normal, e1, h1 | .ret, e1, h1 => h1.wr = h.next ∧ resultsA P e1 h1 rs = some vs
  | .exit _, _, _ => False
/-- it ends, and leaves this -/
def doneQ (P : Program) (rs : List ResultVar) (R : List Value → Heap → Prop) : QQ
  | .normal, e1, h1 | .ret, e1, h1 => ∃ vs, resultsA P e1 h1 rs = some vs ∧ R vs h1
  | .exit _, _, _ => False
section
variable {P : Program} {H : FuncId → Draws} {f : FuncId} {cf : CallF} {fn : Func} {c : Code} {args : List Value} {h : Heap}
theorem flatQ_ret {rs : List ResultVar} {vs : List Value} {e1 : Env} {h1 : Heap} : flatQ P rs h vs .ret e1 h1 = (h1.wr = h.next ∧ resultsA P e1 h1 rs = some vs) := rfl
theorem flatQ_normal {rs : List ResultVar} {vs : List Value} {e1 : Env} {h1 : Heap} : flatQ P rs h vs .normal e1 h1 = (h1.wr = h.next ∧ resultsA P e1 h1 rs = some vs) := rfl
theorem doneQ_ret {rs : List ResultVar} {R : List Value → Heap → Prop} {e1 : Env} {h1 : Heap} : doneQ P rs R .ret e1 h1 = ∃ vs, resultsA P e1 h1 rs = some vs ∧ R vs h1 := rfl
theorem doneQ_normal {rs : List ResultVar} {R : List Value → Heap → Prop} {e1 : Env} {h1 : Heap} : doneQ P rs R .normal e1 h1 = ∃ vs, resultsA P e1 h1 rs = some vs ∧ R vs h1 := rfl
theorem resultsA_nil {e1 : Env} {h1 : Heap} : resultsA P e1 h1 [] = some [] := rfl
theorem resultsA_tmp {e1 : Env} {h1 : Heap} (t : Tmp) (rs : List ResultVar) : resultsA P e1 h1 (.tmp t :: rs) = (resultsA P e1 h1 rs).map (List.cons (e1.get t)) := rfl
theorem packR_one (v : Value) : packR [v] = v := rfl
theorem packR_two (v u : Value) : packR [v, u] = .tuple #[v, u] := rfl
theorem packR_three (v u x : Value) : packR [v, u, x] = .tuple #[v, u, x] := rfl
theorem packR_nil : packR [] = .tuple #[] := rfl
theorem leave_flat {h1 : Heap} {vs : List Value} (hw : h1.wr = h.next) (hf : vs.all flat = true) : leave h h1 vs = (packR vs, h, true) := by
  unfold leave
  rw [hw, Nat.beq_refl]
  unfold dropNew
  rw [hf]
  rfl
theorem call_flat {rs : List ResultVar} (vs : List Value) (hf : P.funcs[f]? = some fn) (hb : fn.body = some c) (hr : fn.results.toList = rs) (hfl : vs.all flat = true) (hw : Wp P (callW P H) (H f) c (flatQ P rs h vs) (Env.ofList args 0) (h.low h.next)) :
    callW P H f args h = some (packR vs, h, true) := by
  rw [callW_eq hf hb]
  obtain ⟨x, e, h1, k1, k2⟩ := outQ_iff.1 hw
  rw [k1]
  cases x with
  | exit id => exact k2.elim
  | normal => obtain ⟨k2, k3⟩ := k2; unfold doneK; dsimp only; rw [hr, k3]; exact congrArg some (leave_flat k2 hfl)
  | ret => obtain ⟨k2, k3⟩ := k2; unfold doneK; dsimp only; rw [hr, k3]; exact congrArg some (leave_flat k2 hfl)
theorem call_done {rs : List ResultVar} {R : List Value → Heap → Prop} (hf : P.funcs[f]? = some fn) (hb : fn.body = some c) (hr : fn.results.toList = rs) (hw : Wp P (callW P H) (H f) c (doneQ P rs R) (Env.ofList args 0) (h.low h.next)) :
    ∃ vs h1, R vs h1 ∧ callW P H f args h = some (leave h h1 vs) := by
  rw [callW_eq hf hb]
  obtain ⟨x, e, h1, k1, k2⟩ := outQ_iff.1 hw
  rw [k1]
  cases x with
  | exit id => exact k2.elim
  | normal => obtain ⟨vs, k2, k3⟩ := k2; exact ⟨vs, h1, k3, by unfold doneK; dsimp only; rw [hr, k2]; rfl⟩
  | ret => obtain ⟨vs, k2, k3⟩ := k2; exact ⟨vs, h1, k3, by unfold doneK; dsimp only; rw [hr, k2]; rfl⟩
/-- one new flat block is left behind, under the next number -/
theorem leave_one {h1 : Heap} {b n c : Nat} {blk : Blk} (hw : h1.wr = h.next) (hg : h1.get b = some blk) (hb : h.next ≤ b) (hfl : blk.flat = true) :
    leave h h1 [.slice (some ⟨b, 0, none⟩) n c] = (.slice (some ⟨h.next, 0, none⟩) n c, h.alloc blk, true) := by
  have h1' : Nat.ble h.next b = true := Nat.ble_eq_true_of_le hb
  have h2 : Nat.blt b h.next = false := by
    cases hh : Nat.blt b h.next
    · rfl
    · exact absurd (lt_of_blt hh) (by omega)
  unfold leave
  rw [hw, Nat.beq_refl]
  simp only [cond_true]
  unfold dropNew
  have h3 : ([Value.slice (some ⟨b, 0, none⟩) n c].all flat) = false := rfl
  rw [h3]
  simp only [cond_false]
  have h4 : List.flatMap (newRef h.next) [Value.slice (some ⟨b, 0, none⟩) n c] = [b] := by
    simp [newRef, h1']
  rw [h4]
  dsimp only
  unfold keepNew
  rw [hg]
  dsimp only
  rw [hfl]
  simp only [cond_true, renAll, ren1, h2, Nat.beq_refl, cond_false]
  rfl
/-! ### Loops -/
/-- a loop, by what holds at the begin of each round and a number that falls -/
theorem wq_loop_inv {D : Draws} {b : Code} {Q : QQ} (I : Nat → Env → Heap → Prop) (step : ∀ n e h, I n e h → Wp P cf D b (thenQ (fun e1 h1 => ∃ n', n' < n ∧ I n' e1 h1) Q) e h) : ∀ (n : Nat) (e : Env) (h : Heap), I n e h → Wp P cf D (.loop b) Q e h := by
  intro n
  induction n using Nat.strongRecOn with
  | _ n ih =>
    intro e h hi
    rw [wq_loop]
    obtain ⟨x, e1, h1, k1, k2⟩ := outQ_iff.1 (step n e h hi)
    refine outQ_iff.2 ⟨x, e1, h1, k1, ?_⟩
    cases x with
    | normal => obtain ⟨n', hn, hi'⟩ := k2; exact ih n' hn e1 h1 hi'
    | exit id => exact k2
    | ret => exact k2
theorem wq_mono {D : Draws} {b : Code} {Q Q' : QQ} {e : Env} {h : Heap} (hw : Wp P cf D b Q e h) (hq : ∀ x e h, Q x e h → Q' x e h) : Wp P cf D b Q' e h := by
  obtain ⟨x, e1, h1, k1, k2⟩ := outQ_iff.1 hw
  exact outQ_iff.2 ⟨x, e1, h1, k1, hq _ _ _ k2⟩
end
end
end Go.Am
namespace Go.Am
theorem drawOk_none (fs : List Foot) : drawOk none fs = fs.all quietFoot := rfl
theorem quiet_non (h : Heap) (rd : List Nat) : quietFoot (Foot.mk1 h rd .non) = true := by simp [quietFoot, Foot.mk1, Heap.eff, Eff.wr]
theorem quiet_foot0 (h : Heap) : quietFoot (foot0 h) = true := by simp [quietFoot, foot0]
theorem quiet_call (n : Nat) : quietFoot ⟨true, false, n, n, [], []⟩ = true := by simp [quietFoot]
end Go.Am
namespace Go.Am
theorem drawOk_nil (fs : List Foot) : drawOk (some []) fs = true := rfl
end Go.Am
namespace Go.Am
theorem nx1 (n : Nat) : (n = n + 1) = False := eq_false (by omega)
theorem xn1 (n : Nat) : (n + 1 = n) = False := eq_false (by omega)
theorem nx2 (n : Nat) : (n = n + 1 + 1) = False := eq_false (by omega)
theorem xn2 (n : Nat) : (n + 1 + 1 = n) = False := eq_false (by omega)
theorem nx3 (n : Nat) : (n = n + 1 + 1 + 1) = False := eq_false (by omega)
theorem xn3 (n : Nat) : (n + 1 + 1 + 1 = n) = False := eq_false (by omega)
theorem nx4 (n : Nat) : (n = n + 1 + 1 + 1 + 1) = False := eq_false (by omega)
theorem xn4 (n : Nat) : (n + 1 + 1 + 1 + 1 = n) = False := eq_false (by omega)
theorem nx5 (n : Nat) : (n = n + 1 + 1 + 1 + 1 + 1) = False := eq_false (by omega)
theorem xn5 (n : Nat) : (n + 1 + 1 + 1 + 1 + 1 = n) = False := eq_false (by omega)
theorem nx6 (n : Nat) : (n = n + 1 + 1 + 1 + 1 + 1 + 1) = False := eq_false (by omega)
theorem xn6 (n : Nat) : (n + 1 + 1 + 1 + 1 + 1 + 1 = n) = False := eq_false (by omega)
theorem nx7 (n : Nat) : (n = n + 1 + 1 + 1 + 1 + 1 + 1 + 1) = False := eq_false (by omega)
theorem xn7 (n : Nat) : (n + 1 + 1 + 1 + 1 + 1 + 1 + 1 = n) = False := eq_false (by omega)
theorem nx8 (n : Nat) : (n = n + 1 + 1 + 1 + 1 + 1 + 1 + 1 + 1) = False := eq_false (by omega)
theorem xn8 (n : Nat) : (n + 1 + 1 + 1 + 1 + 1 + 1 + 1 + 1 = n) = False := eq_false (by omega)
end Go.Am
namespace Go.Am
/-- another round begins, and is nearer to the end -/
def again {σ : Type} (μ : σ → Nat) (I : σ → Env → Heap → Prop) (s : σ) (e : Env) (h : Heap) : Prop := ∃ s', μ s' < μ s ∧ I s' e h
theorem wq_rounds {P : Program} {cf : CallF} {D : Draws} {b : Code} {Q : QQ} {σ : Type} (μ : σ → Nat) (I : σ → Env → Heap → Prop) (step : ∀ s e h, I s e h → Wp P cf D b (thenQ (again μ I s) Q) e h) (s : σ) (e : Env) (h : Heap) (hi : I s e h) : Wp P cf D (.loop b) Q e h :=
  wq_loop_inv (fun n e h => ∃ s, μ s = n ∧ I s e h) (fun n e h ⟨s, hn, hi⟩ => wq_mono (step s e h hi) fun x e1 h1 k => by
    cases x with
    | normal => obtain ⟨s', k1, k2⟩ := k; exact ⟨μ s', by omega, s', rfl, k2⟩
    | exit id => exact k
    | ret => exact k) (μ s) e h ⟨s, rfl, hi⟩
end Go.Am
namespace Go.Am
theorem nble (a b : Nat) : Nat.ble a b = decide (a ≤ b) := by
  by_cases h : a ≤ b
  · rw [Nat.ble_eq_true_of_le h]; simp [h]
  · cases hh : Nat.ble a b
    · simp [h]
    · exact absurd (Nat.le_of_ble_eq_true hh) h
theorem nblt (a b : Nat) : Nat.blt a b = decide (a < b) := nble _ _
theorem nbeq (a b : Nat) : Nat.beq a b = decide (a = b) := by
  by_cases h : a = b
  · subst h; simp
  · cases hh : Nat.beq a b
    · simp [h]
    · exact absurd (Nat.eq_of_beq_eq_true hh) h
theorem w64_in (n : Int) (h : -9223372036854775808 ≤ n ∧ n ≤ 9223372036854775807) : wrapF .i64 n = n := (wrapF_eq _ _).trans (Go.IntWalk.i64_in n h)
noncomputable def resM : Option Bool → Option Nat → Heap → Option (Nat × Nat) → Option Value
  | some g, some n, h, some (b, o) => (h.get b).bind (cellAt g n o)
  | _, _, _, _ => none
theorem resultsA_cell {P : Program} {e : Env} {h : Heap} (a : Tmp) (t : TypeId) (rs : List ResultVar) : resultsA P e h (.cell a t :: rs) = (resM (aggT P t) (szOf P t) h (asPtr (e.get a))).bind fun v => (resultsA P e h rs).map (List.cons v) := by
  have h1 : resultA P e h (.cell a t) = resM (aggT P t) (szOf P t) h (asPtr (e.get a)) := by
    simp only [resultA]
    unfold resCell resM
    cases asPtr (e.get a) <;> cases aggT P t <;> cases szOf P t <;> rfl
  simp only [resultsA, h1]
theorem resM_some {h : Heap} (g : Bool) (n b o : Nat) : resM (some g) (some n) h (some (b, o)) = (h.get b).bind (cellAt g n o) := rfl
theorem pa1 (a x : Value) : putAll [a] 0 [x] = [x] := rfl
theorem pa2 (a b x y : Value) : putAll [a, b] 0 [x, y] = [x, y] := rfl
theorem pa2_0 (a b x : Value) : putAll [a, b] 0 [x] = [x, b] := rfl
theorem pa2_1 (a b x : Value) : putAll [a, b] 1 [x] = [a, x] := rfl
theorem pa3 (a b c x y z : Value) : putAll [a, b, c] 0 [x, y, z] = [x, y, z] := rfl
theorem pa3_0 (a b c x : Value) : putAll [a, b, c] 0 [x] = [x, b, c] := rfl
theorem pa3_1 (a b c x : Value) : putAll [a, b, c] 1 [x] = [a, x, c] := rfl
theorem pa3_2 (a b c x : Value) : putAll [a, b, c] 2 [x] = [a, b, x] := rfl
theorem pa3_12 (a b c x y : Value) : putAll [a, b, c] 1 [x, y] = [a, x, y] := rfl
theorem buildM_some (ps : List (Nat × Nat)) (z : Value) (parts : List (Nat × Value)) : buildM parts (some (ps, z)) = buildV (fillA (fun k => ps[k]?) z.cells parts) := rfl
theorem evParts_nil (e : Env) : evParts e #[] = [] := rfl
theorem evParts_eq (e : Env) (l : List (Nat × Operand)) : evParts e l.toArray = l.map fun p => (p.1, ev e p.2) := rfl
theorem fill2 (z0 z1 : Value) (k l : IntKind) (a b : Int) : fillA (fun k => [(0, 1), (1, 1)][k]?) #[z0, z1] [(0, .int k a), (1, .int l b)] = some #[.int k a, .int l b] := rfl
theorem fill3 (z0 z1 z2 : Value) (k l m : IntKind) (a b c : Int) : fillA (fun k => [(0, 1), (1, 1), (2, 1)][k]?) #[z0, z1, z2] [(0, .int k a), (1, .int l b), (2, .int m c)] = some #[.int k a, .int l b, .int m c] := rfl
theorem buildV_some (cs : Array Value) : buildV (some cs) = bif cs.toList.all plainCell then some (.val (.agg cs) [] .non) else none := rfl
end Go.Am
namespace Go.Am
theorem xl0 (n : Nat) : (n < n) = False := eq_false (by omega)
theorem xl1 (n : Nat) : (n + 1 < n) = False := eq_false (by omega)
theorem xl2 (n : Nat) : (n + 1 + 1 < n) = False := eq_false (by omega)
theorem xl3 (n : Nat) : (n + 1 + 1 + 1 < n) = False := eq_false (by omega)
theorem xl4 (n : Nat) : (n + 1 + 1 + 1 + 1 < n) = False := eq_false (by omega)
theorem xl5 (n : Nat) : (n + 1 + 1 + 1 + 1 + 1 < n) = False := eq_false (by omega)
theorem xl6 (n : Nat) : (n + 1 + 1 + 1 + 1 + 1 + 1 < n) = False := eq_false (by omega)
theorem xl7 (n : Nat) : (n + 1 + 1 + 1 + 1 + 1 + 1 + 1 < n) = False := eq_false (by omega)
theorem xl8 (n : Nat) : (n + 1 + 1 + 1 + 1 + 1 + 1 + 1 + 1 < n) = False := eq_false (by omega)
end Go.Am
