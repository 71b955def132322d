/- What the laws' less and right give. -/
import Derived.Test.YtlblocieleildaaSk16
set_option linter.unusedSimpArgs false
set_option linter.unusedVariables false
set_option maxRecDepth 20000
set_option maxHeartbeats 8000000
namespace Go.Proofs.Ytlblocieleildaa
open Go.Am

theorem lt_of_eqF {a b : Int} (h : a = b) : (a < b) = False := eq_false (by omega)
theorem lt_dich {a b : Int} (h : ¬ a = b) : ((a < b) = True) ∨ ((a < b) = False) := by
  by_cases hl : a < b
  · exact .inl (eq_true hl)
  · exact .inr (eq_false hl)
structure I26 (n d : Int) (h : Heap) (x y : Int) (e : Env) (h1 : Heap) : Prop where
  hp : h1 = (h.low h.next).alloc ⟨[.int .i64 n, .int .i64 d], true, false, none⟩
  e3 : e.get 3 = .int .i64 x
  e4 : e.get 4 = .int .i64 y
  x0 : 0 ≤ x
  y0 : 0 ≤ y
  g : Int.gcd x y = 1
theorem c27 (n d m e : Int) (hd : d ≠ 0) (he : e ≠ 0) (h : Heap) : callW Try.prog SkH 27 [.agg #[.int .i64 n, .int .i64 d], .agg #[.int .i64 m, .int .i64 e]] h = some (.bool (lessZ n d m e), h, true) := by
  refine call_flat (rs := [.tmp 4]) [_] Try.func27 rfl rfl ?_ ?_
  rotate_left
  · skip
    have hd' : (d = 0) = False := eq_false hd
    have he' : (e = 0) = False := eq_false he
    refine W.forget (fun e1 he1 => ?_)
    have f0_1 := congrArg (fun q => Env.get q 0) he1
    simp only [ofList_cons, ofList_nil, go_sem, Nat.reduceEqDiff, reduceIte] at f0_1
    have f1_1 := congrArg (fun q => Env.get q 1) he1
    simp only [ofList_cons, ofList_nil, go_sem, Nat.reduceEqDiff, reduceIte] at f1_1
    clear he1
    refine W.seq ?_
    refine W.region (fun K hK => ?_)
    simp (config := { maxSteps := 10000000 }) only [go_sem, ↓forkQ_true, ↓forkQ_false, ↓guardQ_some, ↓resQ_val, ↓resQ_unit, ↓resQ_enter, ↓retQ_some, ↓resFQ_val, ↓resFQ_unit, ↓resFQ_enter, ↓retFQ_some, Nat.reduceEqDiff, reduceIte, Nat.reduceAdd, Nat.reduceMul, Nat.reduceSub, reduceCtorEq, Nat.reduceLeDiff, f0_1, f1_1, hd', he']
    refine hK _ _ ?_
    clear hK K
    refine W.forget (fun e2 he2 => ?_)
    have f2_2 := congrArg (fun q => Env.get q 2) he2
    simp only [go_sem, Nat.reduceEqDiff, reduceIte] at f2_2
    have f3_2 := congrArg (fun q => Env.get q 3) he2
    simp only [go_sem, Nat.reduceEqDiff, reduceIte] at f3_2
    have f4_2 := congrArg (fun q => Env.get q 4) he2
    simp only [go_sem, Nat.reduceEqDiff, reduceIte] at f4_2
    clear he2 f0_1 f1_1
    refine W.thenN ?_
    refine W.seq ?_
    refine W.draw dr27_1 (fun K hK => ?_)
    simp (config := { maxSteps := 10000000 }) only [go_sem, ↓forkQ_true, ↓forkQ_false, ↓guardQ_some, ↓resQ_val, ↓resQ_unit, ↓resQ_enter, ↓retQ_some, ↓resFQ_val, ↓resFQ_unit, ↓resFQ_enter, ↓retFQ_some, Nat.reduceEqDiff, reduceIte, Nat.reduceAdd, Nat.reduceMul, Nat.reduceSub, reduceCtorEq, Nat.reduceLeDiff, f2_2, f3_2, f4_2, hd', he']
    refine hK _ _ ?_
    clear hK K
    refine W.forget (fun e3 he3 => ?_)
    have f2_3 := congrArg (fun q => Env.get q 2) he3
    simp only [go_sem, Nat.reduceEqDiff, reduceIte, f2_2] at f2_3
    have f3_3 := congrArg (fun q => Env.get q 3) he3
    simp only [go_sem, Nat.reduceEqDiff, reduceIte, f3_2] at f3_3
    have f4_3 := congrArg (fun q => Env.get q 4) he3
    simp only [go_sem, Nat.reduceEqDiff, reduceIte, f4_2] at f4_3
    have f5_3 := congrArg (fun q => Env.get q 5) he3
    simp only [go_sem, Nat.reduceEqDiff, reduceIte] at f5_3
    have f6_3 := congrArg (fun q => Env.get q 6) he3
    simp only [go_sem, Nat.reduceEqDiff, reduceIte] at f6_3
    clear he3 f2_2 f3_2 f4_2
    refine W.thenN ?_
    refine W.seq ?_
    refine W.draw dr27_2 (fun K hK => ?_)
    simp (config := { maxSteps := 10000000 }) only [go_sem, ↓forkQ_true, ↓forkQ_false, ↓guardQ_some, ↓resQ_val, ↓resQ_unit, ↓resQ_enter, ↓retQ_some, ↓resFQ_val, ↓resFQ_unit, ↓resFQ_enter, ↓retFQ_some, Nat.reduceEqDiff, reduceIte, Nat.reduceAdd, Nat.reduceMul, Nat.reduceSub, reduceCtorEq, Nat.reduceLeDiff, f2_3, f3_3, f4_3, f5_3, f6_3, hd', he']
    refine hK _ _ ?_
    clear hK K
    refine W.forget (fun e4 he4 => ?_)
    have f2_4 := congrArg (fun q => Env.get q 2) he4
    simp only [go_sem, Nat.reduceEqDiff, reduceIte, f2_3] at f2_4
    have f3_4 := congrArg (fun q => Env.get q 3) he4
    simp only [go_sem, Nat.reduceEqDiff, reduceIte, f3_3] at f3_4
    have f4_4 := congrArg (fun q => Env.get q 4) he4
    simp only [go_sem, Nat.reduceEqDiff, reduceIte, f4_3] at f4_4
    have f5_4 := congrArg (fun q => Env.get q 5) he4
    simp only [go_sem, Nat.reduceEqDiff, reduceIte, f5_3] at f5_4
    have f6_4 := congrArg (fun q => Env.get q 6) he4
    simp only [go_sem, Nat.reduceEqDiff, reduceIte, f6_3] at f6_4
    have f7_4 := congrArg (fun q => Env.get q 7) he4
    simp only [go_sem, Nat.reduceEqDiff, reduceIte] at f7_4
    have f8_4 := congrArg (fun q => Env.get q 8) he4
    simp only [go_sem, Nat.reduceEqDiff, reduceIte] at f8_4
    clear he4 f2_3 f3_3 f4_3 f5_3 f6_3
    refine W.thenN ?_
    refine W.seq ?_
    refine W.seq ?_
    refine W.region (fun K hK => ?_)
    simp (config := { maxSteps := 10000000 }) only [go_sem, ↓forkQ_true, ↓forkQ_false, ↓guardQ_some, ↓resQ_val, ↓resQ_unit, ↓resQ_enter, ↓retQ_some, ↓resFQ_val, ↓resFQ_unit, ↓resFQ_enter, ↓retFQ_some, Nat.reduceEqDiff, reduceIte, Nat.reduceAdd, Nat.reduceMul, Nat.reduceSub, reduceCtorEq, Nat.reduceLeDiff, f2_4, f3_4, f4_4, f5_4, f6_4, f7_4, f8_4, hd', he']
    refine hK _ _ ?_
    clear hK K
    refine W.forget (fun e5 he5 => ?_)
    have f2_5 := congrArg (fun q => Env.get q 2) he5
    simp only [go_sem, Nat.reduceEqDiff, reduceIte, f2_4] at f2_5
    have f3_5 := congrArg (fun q => Env.get q 3) he5
    simp only [go_sem, Nat.reduceEqDiff, reduceIte, f3_4] at f3_5
    have f4_5 := congrArg (fun q => Env.get q 4) he5
    simp only [go_sem, Nat.reduceEqDiff, reduceIte, f4_4] at f4_5
    have f5_5 := congrArg (fun q => Env.get q 5) he5
    simp only [go_sem, Nat.reduceEqDiff, reduceIte, f5_4] at f5_5
    have f6_5 := congrArg (fun q => Env.get q 6) he5
    simp only [go_sem, Nat.reduceEqDiff, reduceIte, f6_4] at f6_5
    have f7_5 := congrArg (fun q => Env.get q 7) he5
    simp only [go_sem, Nat.reduceEqDiff, reduceIte, f7_4] at f7_5
    have f8_5 := congrArg (fun q => Env.get q 8) he5
    simp only [go_sem, Nat.reduceEqDiff, reduceIte, f8_4] at f8_5
    have f30_5 := congrArg (fun q => Env.get q 30) he5
    simp only [go_sem, Nat.reduceEqDiff, reduceIte] at f30_5
    clear he5 f2_4 f3_4 f4_4 f5_4 f6_4 f7_4 f8_4
    refine W.thenN ?_
    refine W.cond f30_5 (fun hc6 => ?_) (fun hc6 => ?_)
    · first
      | (cases hc6; done)
      | (exfalso; simp only [decide_eq_true_eq, decide_eq_false_iff_not, Bool.not_eq_true', Bool.not_eq_false', Bool.not_eq_eq_eq_not, Bool.not_true, Bool.not_false] at hc6; omega)
      | (skip
         try simp only [decide_eq_true_eq, decide_eq_false_iff_not, Bool.not_eq_true', Bool.not_eq_false', Bool.not_eq_eq_eq_not, Bool.not_true, Bool.not_false] at hc6
         refine W.seq ?_
         refine W.region (fun K hK => ?_)
         simp (config := { maxSteps := 10000000 }) only [go_sem, ↓forkQ_true, ↓forkQ_false, ↓guardQ_some, ↓resQ_val, ↓resQ_unit, ↓resQ_enter, ↓retQ_some, ↓resFQ_val, ↓resFQ_unit, ↓resFQ_enter, ↓retFQ_some, Nat.reduceEqDiff, reduceIte, Nat.reduceAdd, Nat.reduceMul, Nat.reduceSub, reduceCtorEq, Nat.reduceLeDiff, f2_5, f3_5, f4_5, f5_5, f6_5, f7_5, f8_5, f30_5, hd', he']
         refine hK _ _ ?_
         clear hK K
         refine W.forget (fun e7 he7 => ?_)
         have f2_7 := congrArg (fun q => Env.get q 2) he7
         simp only [go_sem, Nat.reduceEqDiff, reduceIte, f2_5] at f2_7
         have f3_7 := congrArg (fun q => Env.get q 3) he7
         simp only [go_sem, Nat.reduceEqDiff, reduceIte, f3_5] at f3_7
         have f4_7 := congrArg (fun q => Env.get q 4) he7
         simp only [go_sem, Nat.reduceEqDiff, reduceIte, f4_5] at f4_7
         have f5_7 := congrArg (fun q => Env.get q 5) he7
         simp only [go_sem, Nat.reduceEqDiff, reduceIte, f5_5] at f5_7
         have f6_7 := congrArg (fun q => Env.get q 6) he7
         simp only [go_sem, Nat.reduceEqDiff, reduceIte, f6_5] at f6_7
         have f7_7 := congrArg (fun q => Env.get q 7) he7
         simp only [go_sem, Nat.reduceEqDiff, reduceIte, f7_5] at f7_7
         have f8_7 := congrArg (fun q => Env.get q 8) he7
         simp only [go_sem, Nat.reduceEqDiff, reduceIte, f8_5] at f8_7
         clear he7 f2_5 f3_5 f4_5 f5_5 f6_5 f7_5 f8_5 f30_5
         refine W.thenN ?_
         refine W.region (fun K hK => ?_)
         simp (config := { maxSteps := 10000000 }) only [go_sem, ↓forkQ_true, ↓forkQ_false, ↓guardQ_some, ↓resQ_val, ↓resQ_unit, ↓resQ_enter, ↓retQ_some, ↓resFQ_val, ↓resFQ_unit, ↓resFQ_enter, ↓retFQ_some, Nat.reduceEqDiff, reduceIte, Nat.reduceAdd, Nat.reduceMul, Nat.reduceSub, reduceCtorEq, Nat.reduceLeDiff, f2_7, f3_7, f4_7, f5_7, f6_7, f7_7, f8_7, hd', he']
         refine hK _ _ ?_
         clear hK K
         refine W.forget (fun e8 he8 => ?_)
         have f2_8 := congrArg (fun q => Env.get q 2) he8
         simp only [go_sem, Nat.reduceEqDiff, reduceIte, f2_7] at f2_8
         have f3_8 := congrArg (fun q => Env.get q 3) he8
         simp only [go_sem, Nat.reduceEqDiff, reduceIte, f3_7] at f3_8
         have f4_8 := congrArg (fun q => Env.get q 4) he8
         simp only [go_sem, Nat.reduceEqDiff, reduceIte, f4_7] at f4_8
         have f5_8 := congrArg (fun q => Env.get q 5) he8
         simp only [go_sem, Nat.reduceEqDiff, reduceIte, f5_7] at f5_8
         have f6_8 := congrArg (fun q => Env.get q 6) he8
         simp only [go_sem, Nat.reduceEqDiff, reduceIte, f6_7] at f6_8
         have f7_8 := congrArg (fun q => Env.get q 7) he8
         simp only [go_sem, Nat.reduceEqDiff, reduceIte, f7_7] at f7_8
         have f8_8 := congrArg (fun q => Env.get q 8) he8
         simp only [go_sem, Nat.reduceEqDiff, reduceIte, f8_7] at f8_8
         clear he8 f2_7 f3_7 f4_7 f5_7 f6_7 f7_7 f8_7
         refine W.thenN ?_
         refine W.seq ?_
         refine W.seq ?_
         refine W.region (fun K hK => ?_)
         simp (config := { maxSteps := 10000000 }) only [go_sem, ↓forkQ_true, ↓forkQ_false, ↓guardQ_some, ↓resQ_val, ↓resQ_unit, ↓resQ_enter, ↓retQ_some, ↓resFQ_val, ↓resFQ_unit, ↓resFQ_enter, ↓retFQ_some, Nat.reduceEqDiff, reduceIte, Nat.reduceAdd, Nat.reduceMul, Nat.reduceSub, reduceCtorEq, Nat.reduceLeDiff, f2_8, f3_8, f4_8, f5_8, f6_8, f7_8, f8_8, hd', he']
         refine hK _ _ ?_
         clear hK K
         refine W.forget (fun e9 he9 => ?_)
         have f2_9 := congrArg (fun q => Env.get q 2) he9
         simp only [go_sem, Nat.reduceEqDiff, reduceIte, f2_8] at f2_9
         have f3_9 := congrArg (fun q => Env.get q 3) he9
         simp only [go_sem, Nat.reduceEqDiff, reduceIte, f3_8] at f3_9
         have f4_9 := congrArg (fun q => Env.get q 4) he9
         simp only [go_sem, Nat.reduceEqDiff, reduceIte, f4_8] at f4_9
         have f5_9 := congrArg (fun q => Env.get q 5) he9
         simp only [go_sem, Nat.reduceEqDiff, reduceIte, f5_8] at f5_9
         have f6_9 := congrArg (fun q => Env.get q 6) he9
         simp only [go_sem, Nat.reduceEqDiff, reduceIte, f6_8] at f6_9
         have f7_9 := congrArg (fun q => Env.get q 7) he9
         simp only [go_sem, Nat.reduceEqDiff, reduceIte, f7_8] at f7_9
         have f8_9 := congrArg (fun q => Env.get q 8) he9
         simp only [go_sem, Nat.reduceEqDiff, reduceIte, f8_8] at f8_9
         have f38_9 := congrArg (fun q => Env.get q 38) he9
         simp only [go_sem, Nat.reduceEqDiff, reduceIte] at f38_9
         clear he9 f2_8 f3_8 f4_8 f5_8 f6_8 f7_8 f8_8
         refine W.thenN ?_
         refine W.cond f38_9 (fun hc10 => ?_) (fun hc10 => ?_)
         · first
           | (cases hc10; done)
           | (exfalso; simp only [decide_eq_true_eq, decide_eq_false_iff_not, Bool.not_eq_true', Bool.not_eq_false', Bool.not_eq_eq_eq_not, Bool.not_true, Bool.not_false] at hc10; omega)
           | (skip
              try simp only [decide_eq_true_eq, decide_eq_false_iff_not, Bool.not_eq_true', Bool.not_eq_false', Bool.not_eq_eq_eq_not, Bool.not_true, Bool.not_false] at hc10
              refine W.seq ?_
              refine W.region (fun K hK => ?_)
              simp (config := { maxSteps := 10000000 }) only [go_sem, ↓forkQ_true, ↓forkQ_false, ↓guardQ_some, ↓resQ_val, ↓resQ_unit, ↓resQ_enter, ↓retQ_some, ↓resFQ_val, ↓resFQ_unit, ↓resFQ_enter, ↓retFQ_some, Nat.reduceEqDiff, reduceIte, Nat.reduceAdd, Nat.reduceMul, Nat.reduceSub, reduceCtorEq, Nat.reduceLeDiff, f2_9, f3_9, f4_9, f5_9, f6_9, f7_9, f8_9, f38_9, hd', he']
              refine hK _ _ ?_
              clear hK K
              refine W.forget (fun e11 he11 => ?_)
              have f2_11 := congrArg (fun q => Env.get q 2) he11
              simp only [go_sem, Nat.reduceEqDiff, reduceIte, f2_9] at f2_11
              have f3_11 := congrArg (fun q => Env.get q 3) he11
              simp only [go_sem, Nat.reduceEqDiff, reduceIte, f3_9] at f3_11
              have f4_11 := congrArg (fun q => Env.get q 4) he11
              simp only [go_sem, Nat.reduceEqDiff, reduceIte, f4_9] at f4_11
              have f5_11 := congrArg (fun q => Env.get q 5) he11
              simp only [go_sem, Nat.reduceEqDiff, reduceIte, f5_9] at f5_11
              have f6_11 := congrArg (fun q => Env.get q 6) he11
              simp only [go_sem, Nat.reduceEqDiff, reduceIte, f6_9] at f6_11
              have f7_11 := congrArg (fun q => Env.get q 7) he11
              simp only [go_sem, Nat.reduceEqDiff, reduceIte, f7_9] at f7_11
              have f8_11 := congrArg (fun q => Env.get q 8) he11
              simp only [go_sem, Nat.reduceEqDiff, reduceIte, f8_9] at f8_11
              clear he11 f2_9 f3_9 f4_9 f5_9 f6_9 f7_9 f8_9 f38_9
              refine W.thenN ?_
              refine W.region (fun K hK => ?_)
              simp (config := { maxSteps := 10000000 }) only [go_sem, ↓forkQ_true, ↓forkQ_false, ↓guardQ_some, ↓resQ_val, ↓resQ_unit, ↓resQ_enter, ↓retQ_some, ↓resFQ_val, ↓resFQ_unit, ↓resFQ_enter, ↓retFQ_some, Nat.reduceEqDiff, reduceIte, Nat.reduceAdd, Nat.reduceMul, Nat.reduceSub, reduceCtorEq, Nat.reduceLeDiff, f2_11, f3_11, f4_11, f5_11, f6_11, f7_11, f8_11, hd', he']
              refine hK _ _ ?_
              clear hK K
              refine W.forget (fun e12 he12 => ?_)
              have f2_12 := congrArg (fun q => Env.get q 2) he12
              simp only [go_sem, Nat.reduceEqDiff, reduceIte, f2_11] at f2_12
              have f3_12 := congrArg (fun q => Env.get q 3) he12
              simp only [go_sem, Nat.reduceEqDiff, reduceIte, f3_11] at f3_12
              have f4_12 := congrArg (fun q => Env.get q 4) he12
              simp only [go_sem, Nat.reduceEqDiff, reduceIte, f4_11] at f4_12
              have f5_12 := congrArg (fun q => Env.get q 5) he12
              simp only [go_sem, Nat.reduceEqDiff, reduceIte, f5_11] at f5_12
              have f6_12 := congrArg (fun q => Env.get q 6) he12
              simp only [go_sem, Nat.reduceEqDiff, reduceIte, f6_11] at f6_12
              have f7_12 := congrArg (fun q => Env.get q 7) he12
              simp only [go_sem, Nat.reduceEqDiff, reduceIte, f7_11] at f7_12
              have f8_12 := congrArg (fun q => Env.get q 8) he12
              simp only [go_sem, Nat.reduceEqDiff, reduceIte, f8_11] at f8_12
              clear he12 f2_11 f3_11 f4_11 f5_11 f6_11 f7_11 f8_11
              refine W.thenN ?_
              refine W.seq ?_
              refine W.regionA (fun A hA K hK => ?_)
              have gd3 := guardAt hA (j := 3) (d := 48) rfl
              have gd7 := guardAt hA (j := 7) (d := 52) rfl
              clear hA
              simp (config := { maxSteps := 10000000 }) only [go_sem, ↓forkQ_true, ↓forkQ_false, ↓guardQ_some, ↓resQ_val, ↓resQ_unit, ↓resQ_enter, ↓retQ_some, ↓resFQ_val, ↓resFQ_unit, ↓resFQ_enter, ↓retFQ_some, Nat.reduceEqDiff, reduceIte, Nat.reduceAdd, Nat.reduceMul, Nat.reduceSub, reduceCtorEq, Nat.reduceLeDiff, f2_12, f3_12, f4_12, f5_12, f6_12, f7_12, f8_12, hd', he', gd3, gd7]
              repeat' (first | (refine W.forkP (fun hc13 => ?_) (fun hc13 => ?_) <;> simp (config := { maxSteps := 10000000 }) only [go_sem, ↓forkQ_true, ↓forkQ_false, ↓guardQ_some, ↓resQ_val, ↓resQ_unit, ↓resQ_enter, ↓retQ_some, ↓resFQ_val, ↓resFQ_unit, ↓resFQ_enter, ↓retFQ_some, Nat.reduceEqDiff, reduceIte, Nat.reduceAdd, Nat.reduceMul, Nat.reduceSub, reduceCtorEq, Nat.reduceLeDiff, f2_12, f3_12, f4_12, f5_12, f6_12, f7_12, f8_12, hd', he', gd3, gd7, hc13]) | (refine W.fork (fun hc13 => ?_) (fun hc13 => ?_) <;> simp (config := { maxSteps := 10000000 }) only [go_sem, ↓forkQ_true, ↓forkQ_false, ↓guardQ_some, ↓resQ_val, ↓resQ_unit, ↓resQ_enter, ↓retQ_some, ↓resFQ_val, ↓resFQ_unit, ↓resFQ_enter, ↓retFQ_some, Nat.reduceEqDiff, reduceIte, Nat.reduceAdd, Nat.reduceMul, Nat.reduceSub, reduceCtorEq, Nat.reduceLeDiff, f2_12, f3_12, f4_12, f5_12, f6_12, f7_12, f8_12, hd', he', gd3, gd7, hc13]))
              all_goals
                refine hK _ _ ?_
                clear hK K A gd3 gd7
                refine W.forget (fun e13 he13 => ?_)
                have f4_13 := congrArg (fun q => Env.get q 4) he13
                simp only [go_sem, Nat.reduceEqDiff, reduceIte, f4_12] at f4_13
                clear he13 f2_12 f3_12 f4_12 f5_12 f6_12 f7_12 f8_12
                refine W.thenN ?_
                refine W.ret ?_
                rw [flatQ_ret]
                refine ⟨by simp only [go_sem, ↓forkQ_true, ↓forkQ_false, ↓guardQ_some, ↓resQ_val, ↓resQ_unit, ↓resQ_enter, ↓retQ_some, ↓resFQ_val, ↓resFQ_unit, ↓resFQ_enter, ↓retFQ_some, Nat.reduceEqDiff, reduceIte, Nat.reduceAdd, Nat.reduceMul, Nat.reduceSub, reduceCtorEq, Nat.reduceLeDiff], ?_⟩
                simp only [go_sem, ↓forkQ_true, ↓forkQ_false, ↓guardQ_some, ↓resQ_val, ↓resQ_unit, ↓resQ_enter, ↓retQ_some, ↓resFQ_val, ↓resFQ_unit, ↓resFQ_enter, ↓retFQ_some, Nat.reduceEqDiff, reduceIte, Nat.reduceAdd, Nat.reduceMul, Nat.reduceSub, reduceCtorEq, Nat.reduceLeDiff, f4_13]
                unfold lessZ flo
                first | rw [if_pos ‹n.tmod d < 0›] | rw [if_neg ‹¬ n.tmod d < 0›]
                first | rw [if_pos ‹m.tmod e < 0›] | rw [if_neg ‹¬ m.tmod e < 0›]
                dsimp only
                split
                all_goals first
                  | rfl
                  | (exfalso; omega)
                  | (rw [decide_eq_true (by omega)]; done)
                  | (rw [decide_eq_false (by omega)]; done))
         · first
           | (cases hc10; done)
           | (exfalso; simp only [decide_eq_true_eq, decide_eq_false_iff_not, Bool.not_eq_true', Bool.not_eq_false', Bool.not_eq_eq_eq_not, Bool.not_true, Bool.not_false] at hc10; omega)
           | (skip
              try simp only [decide_eq_true_eq, decide_eq_false_iff_not, Bool.not_eq_true', Bool.not_eq_false', Bool.not_eq_eq_eq_not, Bool.not_true, Bool.not_false] at hc10
              refine W.skip ?_
              refine W.thenN ?_
              refine W.seq ?_
              refine W.regionA (fun A hA K hK => ?_)
              have gd3 := guardAt hA (j := 3) (d := 48) rfl
              have gd7 := guardAt hA (j := 7) (d := 52) rfl
              clear hA
              simp (config := { maxSteps := 10000000 }) only [go_sem, ↓forkQ_true, ↓forkQ_false, ↓guardQ_some, ↓resQ_val, ↓resQ_unit, ↓resQ_enter, ↓retQ_some, ↓resFQ_val, ↓resFQ_unit, ↓resFQ_enter, ↓retFQ_some, Nat.reduceEqDiff, reduceIte, Nat.reduceAdd, Nat.reduceMul, Nat.reduceSub, reduceCtorEq, Nat.reduceLeDiff, f2_9, f3_9, f4_9, f5_9, f6_9, f7_9, f8_9, f38_9, hd', he', gd3, gd7]
              repeat' (first | (refine W.forkP (fun hc14 => ?_) (fun hc14 => ?_) <;> simp (config := { maxSteps := 10000000 }) only [go_sem, ↓forkQ_true, ↓forkQ_false, ↓guardQ_some, ↓resQ_val, ↓resQ_unit, ↓resQ_enter, ↓retQ_some, ↓resFQ_val, ↓resFQ_unit, ↓resFQ_enter, ↓retFQ_some, Nat.reduceEqDiff, reduceIte, Nat.reduceAdd, Nat.reduceMul, Nat.reduceSub, reduceCtorEq, Nat.reduceLeDiff, f2_9, f3_9, f4_9, f5_9, f6_9, f7_9, f8_9, f38_9, hd', he', gd3, gd7, hc14]) | (refine W.fork (fun hc14 => ?_) (fun hc14 => ?_) <;> simp (config := { maxSteps := 10000000 }) only [go_sem, ↓forkQ_true, ↓forkQ_false, ↓guardQ_some, ↓resQ_val, ↓resQ_unit, ↓resQ_enter, ↓retQ_some, ↓resFQ_val, ↓resFQ_unit, ↓resFQ_enter, ↓retFQ_some, Nat.reduceEqDiff, reduceIte, Nat.reduceAdd, Nat.reduceMul, Nat.reduceSub, reduceCtorEq, Nat.reduceLeDiff, f2_9, f3_9, f4_9, f5_9, f6_9, f7_9, f8_9, f38_9, hd', he', gd3, gd7, hc14]))
              all_goals
                refine hK _ _ ?_
                clear hK K A gd3 gd7
                refine W.forget (fun e14 he14 => ?_)
                have f4_14 := congrArg (fun q => Env.get q 4) he14
                simp only [go_sem, Nat.reduceEqDiff, reduceIte, f4_9] at f4_14
                clear he14 f2_9 f3_9 f4_9 f5_9 f6_9 f7_9 f8_9 f38_9
                refine W.thenN ?_
                refine W.ret ?_
                rw [flatQ_ret]
                refine ⟨by simp only [go_sem, ↓forkQ_true, ↓forkQ_false, ↓guardQ_some, ↓resQ_val, ↓resQ_unit, ↓resQ_enter, ↓retQ_some, ↓resFQ_val, ↓resFQ_unit, ↓resFQ_enter, ↓retFQ_some, Nat.reduceEqDiff, reduceIte, Nat.reduceAdd, Nat.reduceMul, Nat.reduceSub, reduceCtorEq, Nat.reduceLeDiff], ?_⟩
                simp only [go_sem, ↓forkQ_true, ↓forkQ_false, ↓guardQ_some, ↓resQ_val, ↓resQ_unit, ↓resQ_enter, ↓retQ_some, ↓resFQ_val, ↓resFQ_unit, ↓resFQ_enter, ↓retFQ_some, Nat.reduceEqDiff, reduceIte, Nat.reduceAdd, Nat.reduceMul, Nat.reduceSub, reduceCtorEq, Nat.reduceLeDiff, f4_14]
                unfold lessZ flo
                first | rw [if_pos ‹n.tmod d < 0›] | rw [if_neg ‹¬ n.tmod d < 0›]
                first | rw [if_pos ‹m.tmod e < 0›] | rw [if_neg ‹¬ m.tmod e < 0›]
                dsimp only
                split
                all_goals first
                  | rfl
                  | (exfalso; omega)
                  | (rw [decide_eq_true (by omega)]; done)
                  | (rw [decide_eq_false (by omega)]; done)))
    · first
      | (cases hc6; done)
      | (exfalso; simp only [decide_eq_true_eq, decide_eq_false_iff_not, Bool.not_eq_true', Bool.not_eq_false', Bool.not_eq_eq_eq_not, Bool.not_true, Bool.not_false] at hc6; omega)
      | (skip
         try simp only [decide_eq_true_eq, decide_eq_false_iff_not, Bool.not_eq_true', Bool.not_eq_false', Bool.not_eq_eq_eq_not, Bool.not_true, Bool.not_false] at hc6
         refine W.skip ?_
         refine W.thenN ?_
         refine W.seq ?_
         refine W.seq ?_
         refine W.region (fun K hK => ?_)
         simp (config := { maxSteps := 10000000 }) only [go_sem, ↓forkQ_true, ↓forkQ_false, ↓guardQ_some, ↓resQ_val, ↓resQ_unit, ↓resQ_enter, ↓retQ_some, ↓resFQ_val, ↓resFQ_unit, ↓resFQ_enter, ↓retFQ_some, Nat.reduceEqDiff, reduceIte, Nat.reduceAdd, Nat.reduceMul, Nat.reduceSub, reduceCtorEq, Nat.reduceLeDiff, f2_5, f3_5, f4_5, f5_5, f6_5, f7_5, f8_5, f30_5, hd', he']
         refine hK _ _ ?_
         clear hK K
         refine W.forget (fun e15 he15 => ?_)
         have f2_15 := congrArg (fun q => Env.get q 2) he15
         simp only [go_sem, Nat.reduceEqDiff, reduceIte, f2_5] at f2_15
         have f3_15 := congrArg (fun q => Env.get q 3) he15
         simp only [go_sem, Nat.reduceEqDiff, reduceIte, f3_5] at f3_15
         have f4_15 := congrArg (fun q => Env.get q 4) he15
         simp only [go_sem, Nat.reduceEqDiff, reduceIte, f4_5] at f4_15
         have f5_15 := congrArg (fun q => Env.get q 5) he15
         simp only [go_sem, Nat.reduceEqDiff, reduceIte, f5_5] at f5_15
         have f6_15 := congrArg (fun q => Env.get q 6) he15
         simp only [go_sem, Nat.reduceEqDiff, reduceIte, f6_5] at f6_15
         have f7_15 := congrArg (fun q => Env.get q 7) he15
         simp only [go_sem, Nat.reduceEqDiff, reduceIte, f7_5] at f7_15
         have f8_15 := congrArg (fun q => Env.get q 8) he15
         simp only [go_sem, Nat.reduceEqDiff, reduceIte, f8_5] at f8_15
         have f38_15 := congrArg (fun q => Env.get q 38) he15
         simp only [go_sem, Nat.reduceEqDiff, reduceIte] at f38_15
         clear he15 f2_5 f3_5 f4_5 f5_5 f6_5 f7_5 f8_5 f30_5
         refine W.thenN ?_
         refine W.cond f38_15 (fun hc16 => ?_) (fun hc16 => ?_)
         · first
           | (cases hc16; done)
           | (exfalso; simp only [decide_eq_true_eq, decide_eq_false_iff_not, Bool.not_eq_true', Bool.not_eq_false', Bool.not_eq_eq_eq_not, Bool.not_true, Bool.not_false] at hc16; omega)
           | (skip
              try simp only [decide_eq_true_eq, decide_eq_false_iff_not, Bool.not_eq_true', Bool.not_eq_false', Bool.not_eq_eq_eq_not, Bool.not_true, Bool.not_false] at hc16
              refine W.seq ?_
              refine W.region (fun K hK => ?_)
              simp (config := { maxSteps := 10000000 }) only [go_sem, ↓forkQ_true, ↓forkQ_false, ↓guardQ_some, ↓resQ_val, ↓resQ_unit, ↓resQ_enter, ↓retQ_some, ↓resFQ_val, ↓resFQ_unit, ↓resFQ_enter, ↓retFQ_some, Nat.reduceEqDiff, reduceIte, Nat.reduceAdd, Nat.reduceMul, Nat.reduceSub, reduceCtorEq, Nat.reduceLeDiff, f2_15, f3_15, f4_15, f5_15, f6_15, f7_15, f8_15, f38_15, hd', he']
              refine hK _ _ ?_
              clear hK K
              refine W.forget (fun e17 he17 => ?_)
              have f2_17 := congrArg (fun q => Env.get q 2) he17
              simp only [go_sem, Nat.reduceEqDiff, reduceIte, f2_15] at f2_17
              have f3_17 := congrArg (fun q => Env.get q 3) he17
              simp only [go_sem, Nat.reduceEqDiff, reduceIte, f3_15] at f3_17
              have f4_17 := congrArg (fun q => Env.get q 4) he17
              simp only [go_sem, Nat.reduceEqDiff, reduceIte, f4_15] at f4_17
              have f5_17 := congrArg (fun q => Env.get q 5) he17
              simp only [go_sem, Nat.reduceEqDiff, reduceIte, f5_15] at f5_17
              have f6_17 := congrArg (fun q => Env.get q 6) he17
              simp only [go_sem, Nat.reduceEqDiff, reduceIte, f6_15] at f6_17
              have f7_17 := congrArg (fun q => Env.get q 7) he17
              simp only [go_sem, Nat.reduceEqDiff, reduceIte, f7_15] at f7_17
              have f8_17 := congrArg (fun q => Env.get q 8) he17
              simp only [go_sem, Nat.reduceEqDiff, reduceIte, f8_15] at f8_17
              clear he17 f2_15 f3_15 f4_15 f5_15 f6_15 f7_15 f8_15 f38_15
              refine W.thenN ?_
              refine W.region (fun K hK => ?_)
              simp (config := { maxSteps := 10000000 }) only [go_sem, ↓forkQ_true, ↓forkQ_false, ↓guardQ_some, ↓resQ_val, ↓resQ_unit, ↓resQ_enter, ↓retQ_some, ↓resFQ_val, ↓resFQ_unit, ↓resFQ_enter, ↓retFQ_some, Nat.reduceEqDiff, reduceIte, Nat.reduceAdd, Nat.reduceMul, Nat.reduceSub, reduceCtorEq, Nat.reduceLeDiff, f2_17, f3_17, f4_17, f5_17, f6_17, f7_17, f8_17, hd', he']
              refine hK _ _ ?_
              clear hK K
              refine W.forget (fun e18 he18 => ?_)
              have f2_18 := congrArg (fun q => Env.get q 2) he18
              simp only [go_sem, Nat.reduceEqDiff, reduceIte, f2_17] at f2_18
              have f3_18 := congrArg (fun q => Env.get q 3) he18
              simp only [go_sem, Nat.reduceEqDiff, reduceIte, f3_17] at f3_18
              have f4_18 := congrArg (fun q => Env.get q 4) he18
              simp only [go_sem, Nat.reduceEqDiff, reduceIte, f4_17] at f4_18
              have f5_18 := congrArg (fun q => Env.get q 5) he18
              simp only [go_sem, Nat.reduceEqDiff, reduceIte, f5_17] at f5_18
              have f6_18 := congrArg (fun q => Env.get q 6) he18
              simp only [go_sem, Nat.reduceEqDiff, reduceIte, f6_17] at f6_18
              have f7_18 := congrArg (fun q => Env.get q 7) he18
              simp only [go_sem, Nat.reduceEqDiff, reduceIte, f7_17] at f7_18
              have f8_18 := congrArg (fun q => Env.get q 8) he18
              simp only [go_sem, Nat.reduceEqDiff, reduceIte, f8_17] at f8_18
              clear he18 f2_17 f3_17 f4_17 f5_17 f6_17 f7_17 f8_17
              refine W.thenN ?_
              refine W.seq ?_
              refine W.regionA (fun A hA K hK => ?_)
              have gd3 := guardAt hA (j := 3) (d := 48) rfl
              have gd7 := guardAt hA (j := 7) (d := 52) rfl
              clear hA
              simp (config := { maxSteps := 10000000 }) only [go_sem, ↓forkQ_true, ↓forkQ_false, ↓guardQ_some, ↓resQ_val, ↓resQ_unit, ↓resQ_enter, ↓retQ_some, ↓resFQ_val, ↓resFQ_unit, ↓resFQ_enter, ↓retFQ_some, Nat.reduceEqDiff, reduceIte, Nat.reduceAdd, Nat.reduceMul, Nat.reduceSub, reduceCtorEq, Nat.reduceLeDiff, f2_18, f3_18, f4_18, f5_18, f6_18, f7_18, f8_18, hd', he', gd3, gd7]
              repeat' (first | (refine W.forkP (fun hc19 => ?_) (fun hc19 => ?_) <;> simp (config := { maxSteps := 10000000 }) only [go_sem, ↓forkQ_true, ↓forkQ_false, ↓guardQ_some, ↓resQ_val, ↓resQ_unit, ↓resQ_enter, ↓retQ_some, ↓resFQ_val, ↓resFQ_unit, ↓resFQ_enter, ↓retFQ_some, Nat.reduceEqDiff, reduceIte, Nat.reduceAdd, Nat.reduceMul, Nat.reduceSub, reduceCtorEq, Nat.reduceLeDiff, f2_18, f3_18, f4_18, f5_18, f6_18, f7_18, f8_18, hd', he', gd3, gd7, hc19]) | (refine W.fork (fun hc19 => ?_) (fun hc19 => ?_) <;> simp (config := { maxSteps := 10000000 }) only [go_sem, ↓forkQ_true, ↓forkQ_false, ↓guardQ_some, ↓resQ_val, ↓resQ_unit, ↓resQ_enter, ↓retQ_some, ↓resFQ_val, ↓resFQ_unit, ↓resFQ_enter, ↓retFQ_some, Nat.reduceEqDiff, reduceIte, Nat.reduceAdd, Nat.reduceMul, Nat.reduceSub, reduceCtorEq, Nat.reduceLeDiff, f2_18, f3_18, f4_18, f5_18, f6_18, f7_18, f8_18, hd', he', gd3, gd7, hc19]))
              all_goals
                refine hK _ _ ?_
                clear hK K A gd3 gd7
                refine W.forget (fun e19 he19 => ?_)
                have f4_19 := congrArg (fun q => Env.get q 4) he19
                simp only [go_sem, Nat.reduceEqDiff, reduceIte, f4_18] at f4_19
                clear he19 f2_18 f3_18 f4_18 f5_18 f6_18 f7_18 f8_18
                refine W.thenN ?_
                refine W.ret ?_
                rw [flatQ_ret]
                refine ⟨by simp only [go_sem, ↓forkQ_true, ↓forkQ_false, ↓guardQ_some, ↓resQ_val, ↓resQ_unit, ↓resQ_enter, ↓retQ_some, ↓resFQ_val, ↓resFQ_unit, ↓resFQ_enter, ↓retFQ_some, Nat.reduceEqDiff, reduceIte, Nat.reduceAdd, Nat.reduceMul, Nat.reduceSub, reduceCtorEq, Nat.reduceLeDiff], ?_⟩
                simp only [go_sem, ↓forkQ_true, ↓forkQ_false, ↓guardQ_some, ↓resQ_val, ↓resQ_unit, ↓resQ_enter, ↓retQ_some, ↓resFQ_val, ↓resFQ_unit, ↓resFQ_enter, ↓retFQ_some, Nat.reduceEqDiff, reduceIte, Nat.reduceAdd, Nat.reduceMul, Nat.reduceSub, reduceCtorEq, Nat.reduceLeDiff, f4_19]
                unfold lessZ flo
                first | rw [if_pos ‹n.tmod d < 0›] | rw [if_neg ‹¬ n.tmod d < 0›]
                first | rw [if_pos ‹m.tmod e < 0›] | rw [if_neg ‹¬ m.tmod e < 0›]
                dsimp only
                split
                all_goals first
                  | rfl
                  | (exfalso; omega)
                  | (rw [decide_eq_true (by omega)]; done)
                  | (rw [decide_eq_false (by omega)]; done))
         · first
           | (cases hc16; done)
           | (exfalso; simp only [decide_eq_true_eq, decide_eq_false_iff_not, Bool.not_eq_true', Bool.not_eq_false', Bool.not_eq_eq_eq_not, Bool.not_true, Bool.not_false] at hc16; omega)
           | (skip
              try simp only [decide_eq_true_eq, decide_eq_false_iff_not, Bool.not_eq_true', Bool.not_eq_false', Bool.not_eq_eq_eq_not, Bool.not_true, Bool.not_false] at hc16
              refine W.skip ?_
              refine W.thenN ?_
              refine W.seq ?_
              refine W.regionA (fun A hA K hK => ?_)
              have gd3 := guardAt hA (j := 3) (d := 48) rfl
              have gd7 := guardAt hA (j := 7) (d := 52) rfl
              clear hA
              simp (config := { maxSteps := 10000000 }) only [go_sem, ↓forkQ_true, ↓forkQ_false, ↓guardQ_some, ↓resQ_val, ↓resQ_unit, ↓resQ_enter, ↓retQ_some, ↓resFQ_val, ↓resFQ_unit, ↓resFQ_enter, ↓retFQ_some, Nat.reduceEqDiff, reduceIte, Nat.reduceAdd, Nat.reduceMul, Nat.reduceSub, reduceCtorEq, Nat.reduceLeDiff, f2_15, f3_15, f4_15, f5_15, f6_15, f7_15, f8_15, f38_15, hd', he', gd3, gd7]
              repeat' (first | (refine W.forkP (fun hc20 => ?_) (fun hc20 => ?_) <;> simp (config := { maxSteps := 10000000 }) only [go_sem, ↓forkQ_true, ↓forkQ_false, ↓guardQ_some, ↓resQ_val, ↓resQ_unit, ↓resQ_enter, ↓retQ_some, ↓resFQ_val, ↓resFQ_unit, ↓resFQ_enter, ↓retFQ_some, Nat.reduceEqDiff, reduceIte, Nat.reduceAdd, Nat.reduceMul, Nat.reduceSub, reduceCtorEq, Nat.reduceLeDiff, f2_15, f3_15, f4_15, f5_15, f6_15, f7_15, f8_15, f38_15, hd', he', gd3, gd7, hc20]) | (refine W.fork (fun hc20 => ?_) (fun hc20 => ?_) <;> simp (config := { maxSteps := 10000000 }) only [go_sem, ↓forkQ_true, ↓forkQ_false, ↓guardQ_some, ↓resQ_val, ↓resQ_unit, ↓resQ_enter, ↓retQ_some, ↓resFQ_val, ↓resFQ_unit, ↓resFQ_enter, ↓retFQ_some, Nat.reduceEqDiff, reduceIte, Nat.reduceAdd, Nat.reduceMul, Nat.reduceSub, reduceCtorEq, Nat.reduceLeDiff, f2_15, f3_15, f4_15, f5_15, f6_15, f7_15, f8_15, f38_15, hd', he', gd3, gd7, hc20]))
              all_goals
                refine hK _ _ ?_
                clear hK K A gd3 gd7
                refine W.forget (fun e20 he20 => ?_)
                have f4_20 := congrArg (fun q => Env.get q 4) he20
                simp only [go_sem, Nat.reduceEqDiff, reduceIte, f4_15] at f4_20
                clear he20 f2_15 f3_15 f4_15 f5_15 f6_15 f7_15 f8_15 f38_15
                refine W.thenN ?_
                refine W.ret ?_
                rw [flatQ_ret]
                refine ⟨by simp only [go_sem, ↓forkQ_true, ↓forkQ_false, ↓guardQ_some, ↓resQ_val, ↓resQ_unit, ↓resQ_enter, ↓retQ_some, ↓resFQ_val, ↓resFQ_unit, ↓resFQ_enter, ↓retFQ_some, Nat.reduceEqDiff, reduceIte, Nat.reduceAdd, Nat.reduceMul, Nat.reduceSub, reduceCtorEq, Nat.reduceLeDiff], ?_⟩
                simp only [go_sem, ↓forkQ_true, ↓forkQ_false, ↓guardQ_some, ↓resQ_val, ↓resQ_unit, ↓resQ_enter, ↓retQ_some, ↓resFQ_val, ↓resFQ_unit, ↓resFQ_enter, ↓retFQ_some, Nat.reduceEqDiff, reduceIte, Nat.reduceAdd, Nat.reduceMul, Nat.reduceSub, reduceCtorEq, Nat.reduceLeDiff, f4_20]
                unfold lessZ flo
                first | rw [if_pos ‹n.tmod d < 0›] | rw [if_neg ‹¬ n.tmod d < 0›]
                first | rw [if_pos ‹m.tmod e < 0›] | rw [if_neg ‹¬ m.tmod e < 0›]
                dsimp only
                split
                all_goals first
                  | rfl
                  | (exfalso; omega)
                  | (rw [decide_eq_true (by omega)]; done)
                  | (rw [decide_eq_false (by omega)]; done)))
  · rfl
theorem c26 (n d : Int) (hn : -4611686018427387904 ≤ n ∧ n ≤ 4611686018427387904) (hd : 0 < d ∧ d ≤ 1073741824) (hg : Int.gcd n d = 1) (h : Heap) : callW Try.prog SkH 26 [.agg #[.int .i64 n, .int .i64 d]] h = some (.bool true, h, true) := by
  refine call_flat (rs := [.tmp 2]) [_] Try.func26 rfl rfl ?_ ?_
  rotate_left
  · skip
    refine W.forget (fun e1 he1 => ?_)
    have f0_1 := congrArg (fun q => Env.get q 0) he1
    simp only [ofList_cons, ofList_nil, go_sem, Nat.reduceEqDiff, reduceIte] at f0_1
    clear he1
    refine W.seq ?_
    refine W.region (fun K hK => ?_)
    simp (config := { maxSteps := 10000000 }) only [go_sem, ↓forkQ_true, ↓forkQ_false, ↓guardQ_some, ↓resQ_val, ↓resQ_unit, ↓resQ_enter, ↓retQ_some, ↓resFQ_val, ↓resFQ_unit, ↓resFQ_enter, ↓retFQ_some, Nat.reduceEqDiff, reduceIte, Nat.reduceAdd, Nat.reduceMul, Nat.reduceSub, reduceCtorEq, Nat.reduceLeDiff, f0_1]
    refine hK _ _ ?_
    clear hK K
    refine W.forget (fun e2 he2 => ?_)
    have f1_2 := congrArg (fun q => Env.get q 1) he2
    simp only [go_sem, Nat.reduceEqDiff, reduceIte] at f1_2
    have f2_2 := congrArg (fun q => Env.get q 2) he2
    simp only [go_sem, Nat.reduceEqDiff, reduceIte] at f2_2
    clear he2 f0_1
    refine W.thenN ?_
    refine W.seq ?_
    refine W.seq ?_
    refine W.regionA (fun A hA K hK => ?_)
    have gd3 := guardAt hA (j := 3) (d := 8) rfl
    have gd8 := guardAt hA (j := 8) (d := 13) rfl
    have gd13 := guardAt hA (j := 13) (d := 18) rfl
    clear hA
    have k1 : (d < 1) = False := eq_false (by omega)
    have k2 : (1073741824 < d) = False := eq_false (by omega)
    have k3 : (n < -4611686018427387904) = False := eq_false (by omega)
    have k4 : (4611686018427387904 < n) = False := eq_false (by omega)
    simp (config := { maxSteps := 10000000 }) only [go_sem, ↓forkQ_true, ↓forkQ_false, ↓guardQ_some, ↓resQ_val, ↓resQ_unit, ↓resQ_enter, ↓retQ_some, ↓resFQ_val, ↓resFQ_unit, ↓resFQ_enter, ↓retFQ_some, Nat.reduceEqDiff, reduceIte, Nat.reduceAdd, Nat.reduceMul, Nat.reduceSub, reduceCtorEq, Nat.reduceLeDiff, f1_2, f2_2, k1, k2, k3, k4, gd3, gd8, gd13]
    repeat' (first | (refine W.forkP (fun hc3 => ?_) (fun hc3 => ?_) <;> simp (config := { maxSteps := 10000000 }) only [go_sem, ↓forkQ_true, ↓forkQ_false, ↓guardQ_some, ↓resQ_val, ↓resQ_unit, ↓resQ_enter, ↓retQ_some, ↓resFQ_val, ↓resFQ_unit, ↓resFQ_enter, ↓retFQ_some, Nat.reduceEqDiff, reduceIte, Nat.reduceAdd, Nat.reduceMul, Nat.reduceSub, reduceCtorEq, Nat.reduceLeDiff, f1_2, f2_2, k1, k2, k3, k4, gd3, gd8, gd13, hc3]) | (refine W.fork (fun hc3 => ?_) (fun hc3 => ?_) <;> simp (config := { maxSteps := 10000000 }) only [go_sem, ↓forkQ_true, ↓forkQ_false, ↓guardQ_some, ↓resQ_val, ↓resQ_unit, ↓resQ_enter, ↓retQ_some, ↓resFQ_val, ↓resFQ_unit, ↓resFQ_enter, ↓retFQ_some, Nat.reduceEqDiff, reduceIte, Nat.reduceAdd, Nat.reduceMul, Nat.reduceSub, reduceCtorEq, Nat.reduceLeDiff, f1_2, f2_2, k1, k2, k3, k4, gd3, gd8, gd13, hc3]))
    all_goals
      refine hK _ _ ?_
      clear hK K A gd3 gd8 gd13
      refine W.forget (fun e3 he3 => ?_)
      have f1_3 := congrArg (fun q => Env.get q 1) he3
      simp only [go_sem, Nat.reduceEqDiff, reduceIte, f1_2] at f1_3
      have f2_3 := congrArg (fun q => Env.get q 2) he3
      simp only [go_sem, Nat.reduceEqDiff, reduceIte, f2_2] at f2_3
      have f22_3 := congrArg (fun q => Env.get q 22) he3
      simp only [go_sem, Nat.reduceEqDiff, reduceIte] at f22_3
      clear he3 f1_2 f2_2
      refine W.thenN ?_
      refine W.cond f22_3 (fun hc4 => ?_) (fun hc4 => ?_)
      · first
        | (cases hc4; done)
        | (exfalso; simp only [decide_eq_true_eq, decide_eq_false_iff_not, Bool.not_eq_true', Bool.not_eq_false', Bool.not_eq_eq_eq_not, Bool.not_true, Bool.not_false] at hc4; omega)
        | (skip
           try simp only [decide_eq_true_eq, decide_eq_false_iff_not, Bool.not_eq_true', Bool.not_eq_false', Bool.not_eq_eq_eq_not, Bool.not_true, Bool.not_false] at hc4
           refine W.seq ?_
           refine W.region (fun K hK => ?_)
           simp (config := { maxSteps := 10000000 }) only [go_sem, ↓forkQ_true, ↓forkQ_false, ↓guardQ_some, ↓resQ_val, ↓resQ_unit, ↓resQ_enter, ↓retQ_some, ↓resFQ_val, ↓resFQ_unit, ↓resFQ_enter, ↓retFQ_some, Nat.reduceEqDiff, reduceIte, Nat.reduceAdd, Nat.reduceMul, Nat.reduceSub, reduceCtorEq, Nat.reduceLeDiff, f1_3, f2_3, f22_3, k1, k2, k3, k4]
           refine hK _ _ ?_
           clear hK K
           refine W.forget (fun e5 he5 => ?_)
           have f1_5 := congrArg (fun q => Env.get q 1) he5
           simp only [go_sem, Nat.reduceEqDiff, reduceIte, f1_3] at f1_5
           have f2_5 := congrArg (fun q => Env.get q 2) he5
           simp only [go_sem, Nat.reduceEqDiff, reduceIte, f2_3] at f2_5
           clear he5 f1_3 f2_3 f22_3
           refine W.thenN ?_
           refine W.ret ?_
           refine W.thenR ?_
           rw [flatQ_ret]
           simp only [go_sem, ↓forkQ_true, ↓forkQ_false, ↓guardQ_some, ↓resQ_val, ↓resQ_unit, ↓resQ_enter, ↓retQ_some, ↓resFQ_val, ↓resFQ_unit, ↓resFQ_enter, ↓retFQ_some, Nat.reduceEqDiff, reduceIte, Nat.reduceAdd, Nat.reduceMul, Nat.reduceSub, reduceCtorEq, Nat.reduceLeDiff, f1_5, f2_5])
      · first
        | (cases hc4; done)
        | (exfalso; simp only [decide_eq_true_eq, decide_eq_false_iff_not, Bool.not_eq_true', Bool.not_eq_false', Bool.not_eq_eq_eq_not, Bool.not_true, Bool.not_false] at hc4; omega)
        | (skip
           try simp only [decide_eq_true_eq, decide_eq_false_iff_not, Bool.not_eq_true', Bool.not_eq_false', Bool.not_eq_eq_eq_not, Bool.not_true, Bool.not_false] at hc4
           refine W.skip ?_
           refine W.thenN ?_
           refine W.seq ?_
           refine W.draw dr26_3 (fun K hK => ?_)
           have hneg : wrapF .i64 (0 - n) = -n := by rw [w64_in _ (by omega)]; omega
           simp (config := { maxSteps := 10000000 }) only [go_sem, ↓forkQ_true, ↓forkQ_false, ↓guardQ_some, ↓resQ_val, ↓resQ_unit, ↓resQ_enter, ↓retQ_some, ↓resFQ_val, ↓resFQ_unit, ↓resFQ_enter, ↓retFQ_some, Nat.reduceEqDiff, reduceIte, Nat.reduceAdd, Nat.reduceMul, Nat.reduceSub, reduceCtorEq, Nat.reduceLeDiff, f1_3, f2_3, f22_3, k1, k2, k3, k4, hneg, st_max (a := n) (b := -n)]
           refine hK _ _ ?_
           clear hK K
           refine W.forget (fun e6 he6 => ?_)
           have f2_6 := congrArg (fun q => Env.get q 2) he6
           simp only [go_sem, Nat.reduceEqDiff, reduceIte, f2_3] at f2_6
           have f3_6 := congrArg (fun q => Env.get q 3) he6
           simp only [go_sem, Nat.reduceEqDiff, reduceIte] at f3_6
           have f4_6 := congrArg (fun q => Env.get q 4) he6
           simp only [go_sem, Nat.reduceEqDiff, reduceIte] at f4_6
           clear he6 f1_3 f2_3 f22_3
           refine W.thenN ?_
           refine W.seq ?_
           refine W.block ?_
           refine wq_rounds (fun s : Int × Int => s.2.toNat) (fun s => I26 n d h s.1 s.2) ?_ (if n < -n then -n else n, d) _ _ ?_
           · intro ⟨x, y⟩ e7 k1 hi
             replace hi : I26 n d h x y _ k1 := hi
             have f3_7 := hi.e3
             have f4_7 := hi.e4
             have hp := hi.hp
             have x0 := hi.x0
             have y0 := hi.y0
             subst hp
             refine W.seq ?_
             refine W.seq ?_
             refine W.region (fun K hK => ?_)
             simp (config := { maxSteps := 10000000 }) only [go_sem, ↓forkQ_true, ↓forkQ_false, ↓guardQ_some, ↓resQ_val, ↓resQ_unit, ↓resQ_enter, ↓retQ_some, ↓resFQ_val, ↓resFQ_unit, ↓resFQ_enter, ↓retFQ_some, Nat.reduceEqDiff, reduceIte, Nat.reduceAdd, Nat.reduceMul, Nat.reduceSub, reduceCtorEq, Nat.reduceLeDiff, f3_7, f4_7]
             refine hK _ _ ?_
             clear hK K
             refine W.forget (fun e8 he8 => ?_)
             have f3_8 := congrArg (fun q => Env.get q 3) he8
             simp only [go_sem, Nat.reduceEqDiff, reduceIte, f3_7] at f3_8
             have f4_8 := congrArg (fun q => Env.get q 4) he8
             simp only [go_sem, Nat.reduceEqDiff, reduceIte, f4_7] at f4_8
             have f32_8 := congrArg (fun q => Env.get q 32) he8
             simp only [go_sem, Nat.reduceEqDiff, reduceIte] at f32_8
             clear he8 f3_7 f4_7
             refine W.thenN ?_
             refine W.cond f32_8 (fun hc9 => ?_) (fun hc9 => ?_)
             · first
               | (cases hc9; done)
               | (exfalso; simp only [decide_eq_true_eq, decide_eq_false_iff_not, Bool.not_eq_true', Bool.not_eq_false', Bool.not_eq_eq_eq_not, Bool.not_true, Bool.not_false] at hc9; omega)
               | (skip
                  try simp only [decide_eq_true_eq, decide_eq_false_iff_not, Bool.not_eq_true', Bool.not_eq_false', Bool.not_eq_eq_eq_not, Bool.not_true, Bool.not_false] at hc9
                  refine W.skip ?_
                  refine W.thenN ?_
                  refine W.block ?_
                  refine W.draw dr26_5 (fun K hK => ?_)
                  have hy : (y = 0) = False := eq_false (by omega)
                  simp (config := { maxSteps := 10000000 }) only [go_sem, ↓forkQ_true, ↓forkQ_false, ↓guardQ_some, ↓resQ_val, ↓resQ_unit, ↓resQ_enter, ↓retQ_some, ↓resFQ_val, ↓resFQ_unit, ↓resFQ_enter, ↓retFQ_some, Nat.reduceEqDiff, reduceIte, Nat.reduceAdd, Nat.reduceMul, Nat.reduceSub, reduceCtorEq, Nat.reduceLeDiff, f3_8, f4_8, f32_8, hy]
                  refine hK _ _ ?_
                  clear hK K
                  refine W.forget (fun e10 he10 => ?_)
                  have f3_10 := congrArg (fun q => Env.get q 3) he10
                  simp only [go_sem, Nat.reduceEqDiff, reduceIte, f3_8] at f3_10
                  have f4_10 := congrArg (fun q => Env.get q 4) he10
                  simp only [go_sem, Nat.reduceEqDiff, reduceIte, f4_8] at f4_10
                  clear he10 f3_8 f4_8 f32_8
                  refine W.blockN ?_
                  refine W.thenN ?_
                  exact ⟨(y, x.tmod y), by dsimp only; have := Int.tmod_lt_of_pos x (show 0 < y by omega); have := Int.tmod_nonneg y x0; omega, rfl, f3_10, f4_10, y0, Int.tmod_nonneg y x0, (gcd_rem x y).trans hi.g⟩)
             · first
               | (cases hc9; done)
               | (exfalso; simp only [decide_eq_true_eq, decide_eq_false_iff_not, Bool.not_eq_true', Bool.not_eq_false', Bool.not_eq_eq_eq_not, Bool.not_true, Bool.not_false] at hc9; omega)
               | (skip
                  try simp only [decide_eq_true_eq, decide_eq_false_iff_not, Bool.not_eq_true', Bool.not_eq_false', Bool.not_eq_eq_eq_not, Bool.not_true, Bool.not_false] at hc9
                  refine W.exit ?_
                  refine W.thenE ?_
                  refine W.thenE ?_
                  refine W.blockE ?_
                  refine W.thenN ?_
                  refine W.seq ?_
                  refine W.region (fun K hK => ?_)
                  obtain rfl : y = 0 := by omega
                  have hx : x = 1 := by have := hi.g; rw [Int.gcd_zero_right] at this; omega
                  subst hx
                  simp (config := { maxSteps := 10000000 }) only [go_sem, ↓forkQ_true, ↓forkQ_false, ↓guardQ_some, ↓resQ_val, ↓resQ_unit, ↓resQ_enter, ↓retQ_some, ↓resFQ_val, ↓resFQ_unit, ↓resFQ_enter, ↓retFQ_some, Nat.reduceEqDiff, reduceIte, Nat.reduceAdd, Nat.reduceMul, Nat.reduceSub, reduceCtorEq, Nat.reduceLeDiff, f3_8, f4_8, f32_8]
                  refine hK _ _ ?_
                  clear hK K
                  refine W.forget (fun e11 he11 => ?_)
                  have f2_11 := congrArg (fun q => Env.get q 2) he11
                  simp only [go_sem, Nat.reduceEqDiff, reduceIte] at f2_11
                  clear he11 f3_8 f4_8 f32_8
                  refine W.thenN ?_
                  refine W.ret ?_
                  rw [flatQ_ret]
                  simp only [go_sem, ↓forkQ_true, ↓forkQ_false, ↓guardQ_some, ↓resQ_val, ↓resQ_unit, ↓resQ_enter, ↓retQ_some, ↓resFQ_val, ↓resFQ_unit, ↓resFQ_enter, ↓retFQ_some, Nat.reduceEqDiff, reduceIte, Nat.reduceAdd, Nat.reduceMul, Nat.reduceSub, reduceCtorEq, Nat.reduceLeDiff, f2_11])
           · exact ⟨rfl, f3_6, f4_6, by dsimp only; split <;> omega, by dsimp only; omega, by dsimp only; split <;> simp [Int.gcd_neg, Int.neg_gcd, hg]⟩)
  · rfl
end Go.Proofs.Ytlblocieleildaa
