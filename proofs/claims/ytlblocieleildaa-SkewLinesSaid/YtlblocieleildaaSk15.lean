/- Two rational numbers compared as structs; two bools; the greater of two numbers. -/
import Derived.Test.YtlblocieleildaaSk6
import Derived.Test.YtlblocieleildaaAm32
set_option maxRecDepth 100000
set_option linter.unusedVariables false
namespace Go.Proofs.Ytlblocieleildaa
open Go.Am
theorem pureRun_bind {α β : Type} (P : Program) (f : α → Sem β) : ∀ s : Sem α, pureRun P (s >>= f) = (pureRun P s).bind (fun x => pureRun P (f x))
  | .pure a => rfl
  | .program k => pureRun_bind P f (k P)
  | .mark _ k => pureRun_bind P f k
  | .load .. | .store .. | .new .. | .shape .. | .freeze .. | .frozen .. | .getObj .. | .setObj .. | .choose .. | .sys .. | .halt .. => rfl
theorem pureRun_pure {α : Type} (P : Program) (a : α) : pureRun P (pure a) = some a := rfl
theorem eqi (d : Nat) (a c : Int) : pureRun Try.prog (Op.equalIn (d + 1) 3 (.int .i64 a) (.int .i64 c)) = some (decide (a = c)) := by kernel_rfl
theorem eqr (a b c d : Int) : pureRun Try.prog (binOp .eql 26 (.agg #[.int .i64 a, .int .i64 b]) (.agg #[.int .i64 c, .int .i64 d])) = some (.bool (decide (a = c) && decide (b = d))) := by
  show pureRun Try.prog (Op.equal 26 _ _ >>= fun r => pure (Value.bool r)) = _
  rw [pureRun_bind]
  unfold Op.equal
  show (pureRun Try.prog (Op.equalIn (9998 + 1 + 1) 26 _ _)).bind _ = _
  unfold Op.equalIn
  rw [pureRun_bind]
  have hu : pureRun Try.prog (underlying 26) = some _ := (by kernel_rfl : pureRun Try.prog (underlying 26) = Try.prog.underlying 26).trans Try.underlying26
  have hp0 : ∀ x y : Int, pureRun Try.prog (part 3 #[.int .i64 x, .int .i64 y] 0) = some (.int .i64 x) := fun x y => by kernel_rfl
  have hp1 : ∀ x y : Int, pureRun Try.prog (part 3 #[.int .i64 x, .int .i64 y] 1) = some (.int .i64 y) := fun x y => by kernel_rfl
  have hs : pureRun Try.prog program = some Try.prog := rfl
  have hs2 : Try.prog.stoodInHeld 26 = false := by kernel_rfl
  rw [hu]
  simp only [Option.bind_some, pureRun_bind, hs, hs2, Bool.false_eq_true, if_false]
  have n1 : ("N" ≠ "_") = True := eq_true (by decide)
  have n2 : ("D" ≠ "_") = True := eq_true (by decide)
  rw [← Array.forIn_toList]
  simp only [List.forIn_cons, List.forIn_nil, n1, n2, if_true, pureRun_bind, hp0, hp1, eqi, Option.bind_some]
  by_cases h1 : a = c <;> by_cases h2 : b = d <;> simp [h1, h2, pureRun_bind, pureRun_pure, hp0, hp1, eqi 9998]
theorem eqb (a b : Bool) : pureRun Try.prog (binOp .eql 4 (.bool a) (.bool b)) = some (.bool (a == b)) := by cases a <;> cases b <;> kernel_rfl
theorem gdr (a b c d : Int) (x y : Operand) : pureRun Try.prog (eqGuard .eql 26 x y (.agg #[.int .i64 a, .int .i64 b]) (.agg #[.int .i64 c, .int .i64 d])) = some () := by kernel_rfl
theorem mx (a b : Int) : pureRun Try.prog (Builtin.max_ #[3, 3] 3 #[.int .i64 a, .int .i64 b]) = some (.int .i64 (if a < b then b else a)) := by kernel_rfl
theorem asIK_agg (cs : Array Value) : asIK (.agg cs) = none := rfl
theorem asIK_bool (b : Bool) : asIK (.bool b) = none := rfl
theorem binI_none (op : BinOp) (y : Option (IntKind × Int)) : binI op none y = none := by unfold binI; rfl
theorem orElse_none (b : Unit → Option Res) : orElse none b = b () := rfl
theorem eqn (a b c d : Int) : pureRun Try.prog (binOp .neq 26 (.agg #[.int .i64 a, .int .i64 b]) (.agg #[.int .i64 c, .int .i64 d])) = some (.bool !(decide (a = c) && decide (b = d))) := by
  have h := eqr a b c d
  have e1 : pureRun Try.prog (binOp .eql 26 (.agg #[.int .i64 a, .int .i64 b]) (.agg #[.int .i64 c, .int .i64 d])) = (pureRun Try.prog (Op.equal 26 (.agg #[.int .i64 a, .int .i64 b]) (.agg #[.int .i64 c, .int .i64 d]))).bind fun r => some (.bool r) := pureRun_bind _ _ _
  have e2 : pureRun Try.prog (binOp .neq 26 (.agg #[.int .i64 a, .int .i64 b]) (.agg #[.int .i64 c, .int .i64 d])) = (pureRun Try.prog (Op.equal 26 (.agg #[.int .i64 a, .int .i64 b]) (.agg #[.int .i64 c, .int .i64 d]))).bind fun r => some (.bool !r) := pureRun_bind _ _ _
  rw [e1] at h
  rw [e2]
  cases hq : pureRun Try.prog (Op.equal 26 (.agg #[.int .i64 a, .int .i64 b]) (.agg #[.int .i64 c, .int .i64 d])) with
  | none => rw [hq] at h; cases h
  | some r => rw [hq] at h; cases h; rfl
section
variable {dst : Option Tmp} {ty : TypeId} {pos : String} {af : Array Edge} {g : Option (Nat × Bool)} {e : Env} {x y : Operand} {t' : TypeId}
theorem binV_rat {a b c d : Int} (hx : ev e x = .agg #[.int .i64 a, .int .i64 b]) (hy : ev e y = .agg #[.int .i64 c, .int .i64 d]) :
    binV Try.prog ⟨dst, .binOp .eql 26 x y t', ty, pos, af, g⟩ .eql 26 e (.agg #[.int .i64 a, .int .i64 b]) (.agg #[.int .i64 c, .int .i64 d]) = some (.val (.bool (decide (a = c) && decide (b = d))) [] .non) := by
  have h1 : pureRun Try.prog (execOp (ev e) ⟨dst, .binOp .eql 26 x y t', ty, pos, af, g⟩) = some (.value (.bool (decide (a = c) && decide (b = d)))) := by
    show pureRun Try.prog ((eqGuard .eql 26 x y (ev e x) (ev e y) >>= fun _ => binOp .eql 26 (ev e x) (ev e y)) >>= fun v => pure (Next.value v)) = _
    rw [hx, hy, pureRun_bind, pureRun_bind, gdr]
    simp only [Option.bind_some, eqr]
    rfl
  show (bif _ then asValue (pureRun Try.prog _) else _) = _
  rw [h1]
  rfl
theorem binV_bool {a b : Bool} (hx : ev e x = .bool a) (hy : ev e y = .bool b) :
    binV Try.prog ⟨dst, .binOp .eql 4 x y t', ty, pos, af, g⟩ .eql 4 e (.bool a) (.bool b) = some (.val (.bool (a == b)) [] .non) := by
  have h1 : pureRun Try.prog (execOp (ev e) ⟨dst, .binOp .eql 4 x y t', ty, pos, af, g⟩) = some (.value (.bool (a == b))) := by
    show pureRun Try.prog ((eqGuard .eql 4 x y (ev e x) (ev e y) >>= fun _ => binOp .eql 4 (ev e x) (ev e y)) >>= fun v => pure (Next.value v)) = _
    rw [hx, hy, pureRun_bind, pureRun_bind]
    simp only [show pureRun Try.prog (eqGuard .eql 4 x y (.bool a) (.bool b)) = some () from rfl, Option.bind_some, eqb]
    rfl
  show (bif _ then asValue (pureRun Try.prog _) else _) = _
  rw [h1]
  rfl
theorem st_max {h : Heap} {a b : Int} (hx : ev e x = .int .i64 a) (hy : ev e y = .int .i64 b) :
    stepOf Try.prog ⟨dst, .call ⟨.builtin .max, #[x, y], #[3, 3]⟩, 3, pos, af, g⟩ e h = some (.val (.int .i64 (if a < b then b else a)) [] .non) := by
  have h1 : pureRun Try.prog (execOp (ev e) ⟨dst, .call ⟨.builtin .max, #[x, y], #[3, 3]⟩, 3, pos, af, g⟩) = some (.value (.int .i64 (if a < b then b else a))) := by
    have h0 : execOp (ev e) ⟨dst, .call ⟨.builtin .max, #[x, y], #[3, 3]⟩, 3, pos, af, g⟩ = (Builtin.max_ #[3, 3] 3 #[ev e x, ev e y] >>= fun v => pure (Next.value v)) := by kernel_rfl
    rw [h0, hx, hy, pureRun_bind, mx]
    rfl
  show pureS Try.prog _ e h = _
  unfold pureS
  have h2 : ([x, y].all fun x => flat (ev e x)) = true := by simp [hx, hy, flat, flat1, flatCell]
  show (bif ([x, y].all fun x => flat (ev e x)) then asValue (pureRun Try.prog _) else none) = _
  rw [h2, h1]
  rfl
end
attribute [go_sem] asIK_agg asIK_bool binI_none orElse_none binV_rat binV_bool
end Go.Proofs.Ytlblocieleildaa
