/- SkewNarrows holds: with one more gate the slopes and the values are bounded at least as narrowly, for valid lists of 3 to 24 gates that a line passes; of other inputs the law asks nothing but its closed examples. -/
import Derived.Test.YtlblocieleildaaSk38
import Derived.Test.YtlblocieleildaaTp2
set_option linter.unusedSimpArgs false
set_option linter.unusedVariables false
set_option maxRecDepth 100000
set_option maxHeartbeats 4000000
namespace Go.Proofs.Ytlblocieleildaa
open Go.Am Go.Plain Go.ChangeShapes Go.WideShapes Go.ChangeAt Go.RowKit

theorem w9 (l : List Gt) (a : Option Addr) (c : Nat) (k x : Int) (h : Heap) (hg : GA h l a) (hgr0 : ∀ b blk, h.get b = some blk → blk.grow = none) (hcap : l.length ≤ c) : ∃ code, Try.f9.body = some code ∧ Wp Try.prog cfT (SkH 9) code (doneQ Try.prog Try.f9.results.toList (fun vs _ => vs = [.bool true])) (Env.ofList [.slice a l.length c, .int .i64 k, .int .i64 x] 0) (h.low h.next) := by
  have t10 : cfT 10 = callW Try.prog SkH 10 := cfT_ne (by decide)
  have t14 : cfT 14 = callW Try.prog SkH 14 := cfT_ne (by decide)
  have t16 : cfT 16 = callW Try.prog SkH 16 := cfT_ne (by decide)
  by_cases hl : l.length ≤ 24
  case neg =>
    refine ⟨_, rfl, ?_⟩
    have hf : ((l.length : Int) ≤ 24) = False := eq_false (by omega)
    show Wp Try.prog cfT (SkH 9) _ (doneQ Try.prog [.tmp 6] _) _ _
    refine W.forget (fun e1 he1 => ?_)
    have f0_1 := congrArg (fun q => Env.get q 0) he1
    simp only [ofList_cons, ofList_nil, go_sem, Nat.reduceEqDiff, reduceIte] at f0_1
    have f1_1 := congrArg (fun q => Env.get q 1) he1
    simp only [ofList_cons, ofList_nil, go_sem, Nat.reduceEqDiff, reduceIte] at f1_1
    have f2_1 := congrArg (fun q => Env.get q 2) he1
    simp only [ofList_cons, ofList_nil, go_sem, Nat.reduceEqDiff, reduceIte] at f2_1
    clear he1
    refine W.seq ?_
    refine W.region (fun K hK => ?_)
    simp (config := { maxSteps := 10000000 }) only [go_sem, ↓forkQ_true, ↓forkQ_false, ↓guardQ_some, ↓resQ_val, ↓resQ_unit, ↓resQ_enter, ↓retQ_some, ↓resFQ_val, ↓resFQ_unit, ↓resFQ_enter, ↓retFQ_some, Nat.reduceEqDiff, reduceIte, Nat.reduceAdd, Nat.reduceMul, Nat.reduceSub, reduceCtorEq, Nat.reduceLeDiff, f0_1, f1_1, f2_1, t10, t14, t16, cfT_at]
    refine hK _ _ ?_
    clear hK K
    refine W.forget (fun e2 he2 => ?_)
    have f0_2 := congrArg (fun q => Env.get q 0) he2
    simp only [go_sem, Nat.reduceEqDiff, reduceIte, f0_1] at f0_2
    have f1_2 := congrArg (fun q => Env.get q 1) he2
    simp only [go_sem, Nat.reduceEqDiff, reduceIte, f1_1] at f1_2
    have f2_2 := congrArg (fun q => Env.get q 2) he2
    simp only [go_sem, Nat.reduceEqDiff, reduceIte, f2_1] at f2_2
    have f6_2 := congrArg (fun q => Env.get q 6) he2
    simp only [go_sem, Nat.reduceEqDiff, reduceIte] at f6_2
    clear he2 f0_1 f1_1 f2_1
    refine W.thenN ?_
    refine W.seq ?_
    refine W.seq ?_
    refine W.regionA (fun A hA K hK => ?_)
    have gd3 := guardAt hA (j := 3) (d := 26) rfl
    have gd8 := guardAt hA (j := 8) (d := 31) rfl
    have gd13 := guardAt hA (j := 13) (d := 36) rfl
    have gd17 := guardAt hA (j := 17) (d := 40) rfl
    have gd23 := guardAt hA (j := 23) (d := 46) rfl
    have gd28 := guardAt hA (j := 28) (d := 51) rfl
    have gd32 := guardAt hA (j := 32) (d := 55) rfl
    clear hA
    simp (config := { maxSteps := 10000000 }) only [go_sem, ↓forkQ_true, ↓forkQ_false, ↓guardQ_some, ↓resQ_val, ↓resQ_unit, ↓resQ_enter, ↓retQ_some, ↓resFQ_val, ↓resFQ_unit, ↓resFQ_enter, ↓retFQ_some, Nat.reduceEqDiff, reduceIte, Nat.reduceAdd, Nat.reduceMul, Nat.reduceSub, reduceCtorEq, Nat.reduceLeDiff, f0_2, f1_2, f2_2, f6_2, t10, t14, t16, cfT_at, c10, hf, gd3, gd8, gd13, gd17, gd23, gd28, gd32]
    repeat' (first | (refine W.forkP (fun hc3 => ?_) (fun hc3 => ?_) <;> simp (config := { maxSteps := 10000000 }) only [go_sem, ↓forkQ_true, ↓forkQ_false, ↓guardQ_some, ↓resQ_val, ↓resQ_unit, ↓resQ_enter, ↓retQ_some, ↓resFQ_val, ↓resFQ_unit, ↓resFQ_enter, ↓retFQ_some, Nat.reduceEqDiff, reduceIte, Nat.reduceAdd, Nat.reduceMul, Nat.reduceSub, reduceCtorEq, Nat.reduceLeDiff, f0_2, f1_2, f2_2, f6_2, t10, t14, t16, cfT_at, c10, hf, gd3, gd8, gd13, gd17, gd23, gd28, gd32, hc3]) | (refine W.fork (fun hc3 => ?_) (fun hc3 => ?_) <;> simp (config := { maxSteps := 10000000 }) only [go_sem, ↓forkQ_true, ↓forkQ_false, ↓guardQ_some, ↓resQ_val, ↓resQ_unit, ↓resQ_enter, ↓retQ_some, ↓resFQ_val, ↓resFQ_unit, ↓resFQ_enter, ↓retFQ_some, Nat.reduceEqDiff, reduceIte, Nat.reduceAdd, Nat.reduceMul, Nat.reduceSub, reduceCtorEq, Nat.reduceLeDiff, f0_2, f1_2, f2_2, f6_2, t10, t14, t16, cfT_at, c10, hf, gd3, gd8, gd13, gd17, gd23, gd28, gd32, hc3]))
    all_goals
      refine hK _ _ ?_
      clear hK K A gd3 gd8 gd13 gd17 gd23 gd28 gd32
      refine W.forget (fun e3 he3 => ?_)
      have f0_3 := congrArg (fun q => Env.get q 0) he3
      simp only [go_sem, Nat.reduceEqDiff, reduceIte, f0_2] at f0_3
      have f1_3 := congrArg (fun q => Env.get q 1) he3
      simp only [go_sem, Nat.reduceEqDiff, reduceIte, f1_2] at f1_3
      have f2_3 := congrArg (fun q => Env.get q 2) he3
      simp only [go_sem, Nat.reduceEqDiff, reduceIte, f2_2] at f2_3
      have f6_3 := congrArg (fun q => Env.get q 6) he3
      simp only [go_sem, Nat.reduceEqDiff, reduceIte, f6_2] at f6_3
      have f58_3 := congrArg (fun q => Env.get q 58) he3
      simp only [go_sem, Nat.reduceEqDiff, reduceIte] at f58_3
      clear he3 f0_2 f1_2 f2_2 f6_2
      refine W.thenN ?_
      refine W.cond f58_3 (fun hc4 => ?_) (fun hc4 => ?_)
      · first
        | (cases hc4; done)
        | (exfalso; simp only [decide_eq_true_eq, decide_eq_false_iff_not, Bool.not_eq_true', Bool.not_eq_false', Bool.not_eq_eq_eq_not, Bool.not_true, Bool.not_false] at hc4; omega)
        | (skip
           try simp only [decide_eq_true_eq, decide_eq_false_iff_not, Bool.not_eq_true', Bool.not_eq_false', Bool.not_eq_eq_eq_not, Bool.not_true, Bool.not_false] at hc4
           refine W.seq ?_
           refine W.region (fun K hK => ?_)
           simp (config := { maxSteps := 10000000 }) only [go_sem, ↓forkQ_true, ↓forkQ_false, ↓guardQ_some, ↓resQ_val, ↓resQ_unit, ↓resQ_enter, ↓retQ_some, ↓resFQ_val, ↓resFQ_unit, ↓resFQ_enter, ↓retFQ_some, Nat.reduceEqDiff, reduceIte, Nat.reduceAdd, Nat.reduceMul, Nat.reduceSub, reduceCtorEq, Nat.reduceLeDiff, f0_3, f1_3, f2_3, f6_3, f58_3, t10, t14, t16, cfT_at, c10, hf]
           refine hK _ _ ?_
           clear hK K
           refine W.forget (fun e5 he5 => ?_)
           have f0_5 := congrArg (fun q => Env.get q 0) he5
           simp only [go_sem, Nat.reduceEqDiff, reduceIte, f0_3] at f0_5
           have f1_5 := congrArg (fun q => Env.get q 1) he5
           simp only [go_sem, Nat.reduceEqDiff, reduceIte, f1_3] at f1_5
           have f2_5 := congrArg (fun q => Env.get q 2) he5
           simp only [go_sem, Nat.reduceEqDiff, reduceIte, f2_3] at f2_5
           have f6_5 := congrArg (fun q => Env.get q 6) he5
           simp only [go_sem, Nat.reduceEqDiff, reduceIte, f6_3] at f6_5
           clear he5 f0_3 f1_3 f2_3 f6_3 f58_3
           refine W.thenN ?_
           refine W.ret ?_
           refine W.thenR ?_
           rw [doneQ_ret]
           exact ⟨[.bool true], by simp only [go_sem, ↓forkQ_true, ↓forkQ_false, ↓guardQ_some, ↓resQ_val, ↓resQ_unit, ↓resQ_enter, ↓retQ_some, ↓resFQ_val, ↓resFQ_unit, ↓resFQ_enter, ↓retFQ_some, Nat.reduceEqDiff, reduceIte, Nat.reduceAdd, Nat.reduceMul, Nat.reduceSub, reduceCtorEq, Nat.reduceLeDiff, f0_5, f1_5, f2_5, f6_5], rfl⟩)
      · cases hc4
  have hf : ((l.length : Int) ≤ 24) = True := eq_true (by omega)
  have q14 := c14 l a c (h.low h.next) (hg.ext (Ext.low h)) hl
  have q16 := c16 l a c (h.low h.next) (hg.ext (Ext.low h)) hl
  by_cases hz : checkZ l = 0
  case neg =>
    refine ⟨_, rfl, ?_⟩
    show Wp Try.prog cfT (SkH 9) _ (doneQ Try.prog [.tmp 6] _) _ _
    refine W.forget (fun e1 he1 => ?_)
    have f0_1 := congrArg (fun q => Env.get q 0) he1
    simp only [ofList_cons, ofList_nil, go_sem, Nat.reduceEqDiff, reduceIte] at f0_1
    have f1_1 := congrArg (fun q => Env.get q 1) he1
    simp only [ofList_cons, ofList_nil, go_sem, Nat.reduceEqDiff, reduceIte] at f1_1
    have f2_1 := congrArg (fun q => Env.get q 2) he1
    simp only [ofList_cons, ofList_nil, go_sem, Nat.reduceEqDiff, reduceIte] at f2_1
    clear he1
    refine W.seq ?_
    refine W.region (fun K hK => ?_)
    simp (config := { maxSteps := 10000000 }) only [go_sem, ↓forkQ_true, ↓forkQ_false, ↓guardQ_some, ↓resQ_val, ↓resQ_unit, ↓resQ_enter, ↓retQ_some, ↓resFQ_val, ↓resFQ_unit, ↓resFQ_enter, ↓retFQ_some, Nat.reduceEqDiff, reduceIte, Nat.reduceAdd, Nat.reduceMul, Nat.reduceSub, reduceCtorEq, Nat.reduceLeDiff, f0_1, f1_1, f2_1, t10, t14, t16, cfT_at]
    refine hK _ _ ?_
    clear hK K
    refine W.forget (fun e2 he2 => ?_)
    have f0_2 := congrArg (fun q => Env.get q 0) he2
    simp only [go_sem, Nat.reduceEqDiff, reduceIte, f0_1] at f0_2
    have f1_2 := congrArg (fun q => Env.get q 1) he2
    simp only [go_sem, Nat.reduceEqDiff, reduceIte, f1_1] at f1_2
    have f2_2 := congrArg (fun q => Env.get q 2) he2
    simp only [go_sem, Nat.reduceEqDiff, reduceIte, f2_1] at f2_2
    have f6_2 := congrArg (fun q => Env.get q 6) he2
    simp only [go_sem, Nat.reduceEqDiff, reduceIte] at f6_2
    clear he2 f0_1 f1_1 f2_1
    refine W.thenN ?_
    refine W.seq ?_
    refine W.seq ?_
    refine W.regionA (fun A hA K hK => ?_)
    have gd3 := guardAt hA (j := 3) (d := 26) rfl
    have gd8 := guardAt hA (j := 8) (d := 31) rfl
    have gd13 := guardAt hA (j := 13) (d := 36) rfl
    have gd17 := guardAt hA (j := 17) (d := 40) rfl
    have gd23 := guardAt hA (j := 23) (d := 46) rfl
    have gd28 := guardAt hA (j := 28) (d := 51) rfl
    have gd32 := guardAt hA (j := 32) (d := 55) rfl
    clear hA
    simp (config := { maxSteps := 10000000 }) only [go_sem, ↓forkQ_true, ↓forkQ_false, ↓guardQ_some, ↓resQ_val, ↓resQ_unit, ↓resQ_enter, ↓retQ_some, ↓resFQ_val, ↓resFQ_unit, ↓resFQ_enter, ↓retFQ_some, Nat.reduceEqDiff, reduceIte, Nat.reduceAdd, Nat.reduceMul, Nat.reduceSub, reduceCtorEq, Nat.reduceLeDiff, f0_2, f1_2, f2_2, f6_2, t10, t14, t16, cfT_at, c10, hf, q14, hz, gd3, gd8, gd13, gd17, gd23, gd28, gd32]
    repeat' (first | (refine W.forkP (fun hc3 => ?_) (fun hc3 => ?_) <;> simp (config := { maxSteps := 10000000 }) only [go_sem, ↓forkQ_true, ↓forkQ_false, ↓guardQ_some, ↓resQ_val, ↓resQ_unit, ↓resQ_enter, ↓retQ_some, ↓resFQ_val, ↓resFQ_unit, ↓resFQ_enter, ↓retFQ_some, Nat.reduceEqDiff, reduceIte, Nat.reduceAdd, Nat.reduceMul, Nat.reduceSub, reduceCtorEq, Nat.reduceLeDiff, f0_2, f1_2, f2_2, f6_2, t10, t14, t16, cfT_at, c10, hf, q14, hz, gd3, gd8, gd13, gd17, gd23, gd28, gd32, hc3]) | (refine W.fork (fun hc3 => ?_) (fun hc3 => ?_) <;> simp (config := { maxSteps := 10000000 }) only [go_sem, ↓forkQ_true, ↓forkQ_false, ↓guardQ_some, ↓resQ_val, ↓resQ_unit, ↓resQ_enter, ↓retQ_some, ↓resFQ_val, ↓resFQ_unit, ↓resFQ_enter, ↓retFQ_some, Nat.reduceEqDiff, reduceIte, Nat.reduceAdd, Nat.reduceMul, Nat.reduceSub, reduceCtorEq, Nat.reduceLeDiff, f0_2, f1_2, f2_2, f6_2, t10, t14, t16, cfT_at, c10, hf, q14, hz, gd3, gd8, gd13, gd17, gd23, gd28, gd32, hc3]))
    all_goals
      refine hK _ _ ?_
      clear hK K A gd3 gd8 gd13 gd17 gd23 gd28 gd32
      refine W.forget (fun e3 he3 => ?_)
      have f0_3 := congrArg (fun q => Env.get q 0) he3
      simp only [go_sem, Nat.reduceEqDiff, reduceIte, f0_2] at f0_3
      have f1_3 := congrArg (fun q => Env.get q 1) he3
      simp only [go_sem, Nat.reduceEqDiff, reduceIte, f1_2] at f1_3
      have f2_3 := congrArg (fun q => Env.get q 2) he3
      simp only [go_sem, Nat.reduceEqDiff, reduceIte, f2_2] at f2_3
      have f6_3 := congrArg (fun q => Env.get q 6) he3
      simp only [go_sem, Nat.reduceEqDiff, reduceIte, f6_2] at f6_3
      have f58_3 := congrArg (fun q => Env.get q 58) he3
      simp only [go_sem, Nat.reduceEqDiff, reduceIte] at f58_3
      clear he3 f0_2 f1_2 f2_2 f6_2
      refine W.thenN ?_
      refine W.cond f58_3 (fun hc4 => ?_) (fun hc4 => ?_)
      · first
        | (cases hc4; done)
        | (exfalso; simp only [decide_eq_true_eq, decide_eq_false_iff_not, Bool.not_eq_true', Bool.not_eq_false', Bool.not_eq_eq_eq_not, Bool.not_true, Bool.not_false] at hc4; omega)
        | (skip
           try simp only [decide_eq_true_eq, decide_eq_false_iff_not, Bool.not_eq_true', Bool.not_eq_false', Bool.not_eq_eq_eq_not, Bool.not_true, Bool.not_false] at hc4
           refine W.seq ?_
           refine W.region (fun K hK => ?_)
           simp (config := { maxSteps := 10000000 }) only [go_sem, ↓forkQ_true, ↓forkQ_false, ↓guardQ_some, ↓resQ_val, ↓resQ_unit, ↓resQ_enter, ↓retQ_some, ↓resFQ_val, ↓resFQ_unit, ↓resFQ_enter, ↓retFQ_some, Nat.reduceEqDiff, reduceIte, Nat.reduceAdd, Nat.reduceMul, Nat.reduceSub, reduceCtorEq, Nat.reduceLeDiff, f0_3, f1_3, f2_3, f6_3, f58_3, t10, t14, t16, cfT_at, c10, hf, q14, hz]
           refine hK _ _ ?_
           clear hK K
           refine W.forget (fun e5 he5 => ?_)
           have f0_5 := congrArg (fun q => Env.get q 0) he5
           simp only [go_sem, Nat.reduceEqDiff, reduceIte, f0_3] at f0_5
           have f1_5 := congrArg (fun q => Env.get q 1) he5
           simp only [go_sem, Nat.reduceEqDiff, reduceIte, f1_3] at f1_5
           have f2_5 := congrArg (fun q => Env.get q 2) he5
           simp only [go_sem, Nat.reduceEqDiff, reduceIte, f2_3] at f2_5
           have f6_5 := congrArg (fun q => Env.get q 6) he5
           simp only [go_sem, Nat.reduceEqDiff, reduceIte, f6_3] at f6_5
           clear he5 f0_3 f1_3 f2_3 f6_3 f58_3
           refine W.thenN ?_
           refine W.ret ?_
           refine W.thenR ?_
           rw [doneQ_ret]
           exact ⟨[.bool true], by simp only [go_sem, ↓forkQ_true, ↓forkQ_false, ↓guardQ_some, ↓resQ_val, ↓resQ_unit, ↓resQ_enter, ↓retQ_some, ↓resFQ_val, ↓resFQ_unit, ↓resFQ_enter, ↓retFQ_some, Nat.reduceEqDiff, reduceIte, Nat.reduceAdd, Nat.reduceMul, Nat.reduceSub, reduceCtorEq, Nat.reduceLeDiff, f0_5, f1_5, f2_5, f6_5], rfl⟩)
      · cases hc4
  by_cases h3 : (l.length : Int) < 3
  · refine ⟨_, rfl, ?_⟩
    show Wp Try.prog cfT (SkH 9) _ (doneQ Try.prog [.tmp 6] _) _ _
    refine W.forget (fun e1 he1 => ?_)
    have f0_1 := congrArg (fun q => Env.get q 0) he1
    simp only [ofList_cons, ofList_nil, go_sem, Nat.reduceEqDiff, reduceIte] at f0_1
    have f1_1 := congrArg (fun q => Env.get q 1) he1
    simp only [ofList_cons, ofList_nil, go_sem, Nat.reduceEqDiff, reduceIte] at f1_1
    have f2_1 := congrArg (fun q => Env.get q 2) he1
    simp only [ofList_cons, ofList_nil, go_sem, Nat.reduceEqDiff, reduceIte] at f2_1
    clear he1
    refine W.seq ?_
    refine W.region (fun K hK => ?_)
    simp (config := { maxSteps := 10000000 }) only [go_sem, ↓forkQ_true, ↓forkQ_false, ↓guardQ_some, ↓resQ_val, ↓resQ_unit, ↓resQ_enter, ↓retQ_some, ↓resFQ_val, ↓resFQ_unit, ↓resFQ_enter, ↓retFQ_some, Nat.reduceEqDiff, reduceIte, Nat.reduceAdd, Nat.reduceMul, Nat.reduceSub, reduceCtorEq, Nat.reduceLeDiff, f0_1, f1_1, f2_1, t10, t14, t16, cfT_at]
    refine hK _ _ ?_
    clear hK K
    refine W.forget (fun e2 he2 => ?_)
    have f0_2 := congrArg (fun q => Env.get q 0) he2
    simp only [go_sem, Nat.reduceEqDiff, reduceIte, f0_1] at f0_2
    have f1_2 := congrArg (fun q => Env.get q 1) he2
    simp only [go_sem, Nat.reduceEqDiff, reduceIte, f1_1] at f1_2
    have f2_2 := congrArg (fun q => Env.get q 2) he2
    simp only [go_sem, Nat.reduceEqDiff, reduceIte, f2_1] at f2_2
    have f6_2 := congrArg (fun q => Env.get q 6) he2
    simp only [go_sem, Nat.reduceEqDiff, reduceIte] at f6_2
    clear he2 f0_1 f1_1 f2_1
    refine W.thenN ?_
    refine W.seq ?_
    refine W.seq ?_
    refine W.regionA (fun A hA K hK => ?_)
    have gd3 := guardAt hA (j := 3) (d := 26) rfl
    have gd8 := guardAt hA (j := 8) (d := 31) rfl
    have gd13 := guardAt hA (j := 13) (d := 36) rfl
    have gd17 := guardAt hA (j := 17) (d := 40) rfl
    have gd23 := guardAt hA (j := 23) (d := 46) rfl
    have gd28 := guardAt hA (j := 28) (d := 51) rfl
    have gd32 := guardAt hA (j := 32) (d := 55) rfl
    clear hA
    simp (config := { maxSteps := 10000000 }) only [go_sem, ↓forkQ_true, ↓forkQ_false, ↓guardQ_some, ↓resQ_val, ↓resQ_unit, ↓resQ_enter, ↓retQ_some, ↓resFQ_val, ↓resFQ_unit, ↓resFQ_enter, ↓retFQ_some, Nat.reduceEqDiff, reduceIte, Nat.reduceAdd, Nat.reduceMul, Nat.reduceSub, reduceCtorEq, Nat.reduceLeDiff, f0_2, f1_2, f2_2, f6_2, t10, t14, t16, cfT_at, c10, hf, q14, hz, h3, gd3, gd8, gd13, gd17, gd23, gd28, gd32]
    repeat' (first | (refine W.forkP (fun hc3 => ?_) (fun hc3 => ?_) <;> simp (config := { maxSteps := 10000000 }) only [go_sem, ↓forkQ_true, ↓forkQ_false, ↓guardQ_some, ↓resQ_val, ↓resQ_unit, ↓resQ_enter, ↓retQ_some, ↓resFQ_val, ↓resFQ_unit, ↓resFQ_enter, ↓retFQ_some, Nat.reduceEqDiff, reduceIte, Nat.reduceAdd, Nat.reduceMul, Nat.reduceSub, reduceCtorEq, Nat.reduceLeDiff, f0_2, f1_2, f2_2, f6_2, t10, t14, t16, cfT_at, c10, hf, q14, hz, h3, gd3, gd8, gd13, gd17, gd23, gd28, gd32, hc3]) | (refine W.fork (fun hc3 => ?_) (fun hc3 => ?_) <;> simp (config := { maxSteps := 10000000 }) only [go_sem, ↓forkQ_true, ↓forkQ_false, ↓guardQ_some, ↓resQ_val, ↓resQ_unit, ↓resQ_enter, ↓retQ_some, ↓resFQ_val, ↓resFQ_unit, ↓resFQ_enter, ↓retFQ_some, Nat.reduceEqDiff, reduceIte, Nat.reduceAdd, Nat.reduceMul, Nat.reduceSub, reduceCtorEq, Nat.reduceLeDiff, f0_2, f1_2, f2_2, f6_2, t10, t14, t16, cfT_at, c10, hf, q14, hz, h3, gd3, gd8, gd13, gd17, gd23, gd28, gd32, hc3]))
    all_goals
      refine hK _ _ ?_
      clear hK K A gd3 gd8 gd13 gd17 gd23 gd28 gd32
      refine W.forget (fun e3 he3 => ?_)
      have f0_3 := congrArg (fun q => Env.get q 0) he3
      simp only [go_sem, Nat.reduceEqDiff, reduceIte, f0_2] at f0_3
      have f1_3 := congrArg (fun q => Env.get q 1) he3
      simp only [go_sem, Nat.reduceEqDiff, reduceIte, f1_2] at f1_3
      have f2_3 := congrArg (fun q => Env.get q 2) he3
      simp only [go_sem, Nat.reduceEqDiff, reduceIte, f2_2] at f2_3
      have f6_3 := congrArg (fun q => Env.get q 6) he3
      simp only [go_sem, Nat.reduceEqDiff, reduceIte, f6_2] at f6_3
      have f58_3 := congrArg (fun q => Env.get q 58) he3
      simp only [go_sem, Nat.reduceEqDiff, reduceIte] at f58_3
      clear he3 f0_2 f1_2 f2_2 f6_2
      refine W.thenN ?_
      refine W.cond f58_3 (fun hc4 => ?_) (fun hc4 => ?_)
      · first
        | (cases hc4; done)
        | (exfalso; simp only [decide_eq_true_eq, decide_eq_false_iff_not, Bool.not_eq_true', Bool.not_eq_false', Bool.not_eq_eq_eq_not, Bool.not_true, Bool.not_false] at hc4; omega)
        | (skip
           try simp only [decide_eq_true_eq, decide_eq_false_iff_not, Bool.not_eq_true', Bool.not_eq_false', Bool.not_eq_eq_eq_not, Bool.not_true, Bool.not_false] at hc4
           refine W.seq ?_
           refine W.region (fun K hK => ?_)
           simp (config := { maxSteps := 10000000 }) only [go_sem, ↓forkQ_true, ↓forkQ_false, ↓guardQ_some, ↓resQ_val, ↓resQ_unit, ↓resQ_enter, ↓retQ_some, ↓resFQ_val, ↓resFQ_unit, ↓resFQ_enter, ↓retFQ_some, Nat.reduceEqDiff, reduceIte, Nat.reduceAdd, Nat.reduceMul, Nat.reduceSub, reduceCtorEq, Nat.reduceLeDiff, f0_3, f1_3, f2_3, f6_3, f58_3, t10, t14, t16, cfT_at, c10, hf, q14, hz, h3]
           refine hK _ _ ?_
           clear hK K
           refine W.forget (fun e5 he5 => ?_)
           have f0_5 := congrArg (fun q => Env.get q 0) he5
           simp only [go_sem, Nat.reduceEqDiff, reduceIte, f0_3] at f0_5
           have f1_5 := congrArg (fun q => Env.get q 1) he5
           simp only [go_sem, Nat.reduceEqDiff, reduceIte, f1_3] at f1_5
           have f2_5 := congrArg (fun q => Env.get q 2) he5
           simp only [go_sem, Nat.reduceEqDiff, reduceIte, f2_3] at f2_5
           have f6_5 := congrArg (fun q => Env.get q 6) he5
           simp only [go_sem, Nat.reduceEqDiff, reduceIte, f6_3] at f6_5
           clear he5 f0_3 f1_3 f2_3 f6_3 f58_3
           refine W.thenN ?_
           refine W.ret ?_
           refine W.thenR ?_
           rw [doneQ_ret]
           exact ⟨[.bool true], by simp only [go_sem, ↓forkQ_true, ↓forkQ_false, ↓guardQ_some, ↓resQ_val, ↓resQ_unit, ↓resQ_enter, ↓retQ_some, ↓resFQ_val, ↓resFQ_unit, ↓resFQ_enter, ↓retFQ_some, Nat.reduceEqDiff, reduceIte, Nat.reduceAdd, Nat.reduceMul, Nat.reduceSub, reduceCtorEq, Nat.reduceLeDiff, f0_5, f1_5, f2_5, f6_5], rfl⟩)
      · cases hc4
  by_cases hk0 : k < 0
  · refine ⟨_, rfl, ?_⟩
    show Wp Try.prog cfT (SkH 9) _ (doneQ Try.prog [.tmp 6] _) _ _
    refine W.forget (fun e1 he1 => ?_)
    have f0_1 := congrArg (fun q => Env.get q 0) he1
    simp only [ofList_cons, ofList_nil, go_sem, Nat.reduceEqDiff, reduceIte] at f0_1
    have f1_1 := congrArg (fun q => Env.get q 1) he1
    simp only [ofList_cons, ofList_nil, go_sem, Nat.reduceEqDiff, reduceIte] at f1_1
    have f2_1 := congrArg (fun q => Env.get q 2) he1
    simp only [ofList_cons, ofList_nil, go_sem, Nat.reduceEqDiff, reduceIte] at f2_1
    clear he1
    refine W.seq ?_
    refine W.region (fun K hK => ?_)
    simp (config := { maxSteps := 10000000 }) only [go_sem, ↓forkQ_true, ↓forkQ_false, ↓guardQ_some, ↓resQ_val, ↓resQ_unit, ↓resQ_enter, ↓retQ_some, ↓resFQ_val, ↓resFQ_unit, ↓resFQ_enter, ↓retFQ_some, Nat.reduceEqDiff, reduceIte, Nat.reduceAdd, Nat.reduceMul, Nat.reduceSub, reduceCtorEq, Nat.reduceLeDiff, f0_1, f1_1, f2_1, t10, t14, t16, cfT_at]
    refine hK _ _ ?_
    clear hK K
    refine W.forget (fun e2 he2 => ?_)
    have f0_2 := congrArg (fun q => Env.get q 0) he2
    simp only [go_sem, Nat.reduceEqDiff, reduceIte, f0_1] at f0_2
    have f1_2 := congrArg (fun q => Env.get q 1) he2
    simp only [go_sem, Nat.reduceEqDiff, reduceIte, f1_1] at f1_2
    have f2_2 := congrArg (fun q => Env.get q 2) he2
    simp only [go_sem, Nat.reduceEqDiff, reduceIte, f2_1] at f2_2
    have f6_2 := congrArg (fun q => Env.get q 6) he2
    simp only [go_sem, Nat.reduceEqDiff, reduceIte] at f6_2
    clear he2 f0_1 f1_1 f2_1
    refine W.thenN ?_
    refine W.seq ?_
    refine W.seq ?_
    refine W.regionA (fun A hA K hK => ?_)
    have gd3 := guardAt hA (j := 3) (d := 26) rfl
    have gd8 := guardAt hA (j := 8) (d := 31) rfl
    have gd13 := guardAt hA (j := 13) (d := 36) rfl
    have gd17 := guardAt hA (j := 17) (d := 40) rfl
    have gd23 := guardAt hA (j := 23) (d := 46) rfl
    have gd28 := guardAt hA (j := 28) (d := 51) rfl
    have gd32 := guardAt hA (j := 32) (d := 55) rfl
    clear hA
    simp (config := { maxSteps := 10000000 }) only [go_sem, ↓forkQ_true, ↓forkQ_false, ↓guardQ_some, ↓resQ_val, ↓resQ_unit, ↓resQ_enter, ↓retQ_some, ↓resFQ_val, ↓resFQ_unit, ↓resFQ_enter, ↓retFQ_some, Nat.reduceEqDiff, reduceIte, Nat.reduceAdd, Nat.reduceMul, Nat.reduceSub, reduceCtorEq, Nat.reduceLeDiff, f0_2, f1_2, f2_2, f6_2, t10, t14, t16, cfT_at, c10, hf, q14, hz, h3, hk0, gd3, gd8, gd13, gd17, gd23, gd28, gd32]
    repeat' (first | (refine W.forkP (fun hc3 => ?_) (fun hc3 => ?_) <;> simp (config := { maxSteps := 10000000 }) only [go_sem, ↓forkQ_true, ↓forkQ_false, ↓guardQ_some, ↓resQ_val, ↓resQ_unit, ↓resQ_enter, ↓retQ_some, ↓resFQ_val, ↓resFQ_unit, ↓resFQ_enter, ↓retFQ_some, Nat.reduceEqDiff, reduceIte, Nat.reduceAdd, Nat.reduceMul, Nat.reduceSub, reduceCtorEq, Nat.reduceLeDiff, f0_2, f1_2, f2_2, f6_2, t10, t14, t16, cfT_at, c10, hf, q14, hz, h3, hk0, gd3, gd8, gd13, gd17, gd23, gd28, gd32, hc3]) | (refine W.fork (fun hc3 => ?_) (fun hc3 => ?_) <;> simp (config := { maxSteps := 10000000 }) only [go_sem, ↓forkQ_true, ↓forkQ_false, ↓guardQ_some, ↓resQ_val, ↓resQ_unit, ↓resQ_enter, ↓retQ_some, ↓resFQ_val, ↓resFQ_unit, ↓resFQ_enter, ↓retFQ_some, Nat.reduceEqDiff, reduceIte, Nat.reduceAdd, Nat.reduceMul, Nat.reduceSub, reduceCtorEq, Nat.reduceLeDiff, f0_2, f1_2, f2_2, f6_2, t10, t14, t16, cfT_at, c10, hf, q14, hz, h3, hk0, gd3, gd8, gd13, gd17, gd23, gd28, gd32, hc3]))
    all_goals
      refine hK _ _ ?_
      clear hK K A gd3 gd8 gd13 gd17 gd23 gd28 gd32
      refine W.forget (fun e3 he3 => ?_)
      have f0_3 := congrArg (fun q => Env.get q 0) he3
      simp only [go_sem, Nat.reduceEqDiff, reduceIte, f0_2] at f0_3
      have f1_3 := congrArg (fun q => Env.get q 1) he3
      simp only [go_sem, Nat.reduceEqDiff, reduceIte, f1_2] at f1_3
      have f2_3 := congrArg (fun q => Env.get q 2) he3
      simp only [go_sem, Nat.reduceEqDiff, reduceIte, f2_2] at f2_3
      have f6_3 := congrArg (fun q => Env.get q 6) he3
      simp only [go_sem, Nat.reduceEqDiff, reduceIte, f6_2] at f6_3
      have f58_3 := congrArg (fun q => Env.get q 58) he3
      simp only [go_sem, Nat.reduceEqDiff, reduceIte] at f58_3
      clear he3 f0_2 f1_2 f2_2 f6_2
      refine W.thenN ?_
      refine W.cond f58_3 (fun hc4 => ?_) (fun hc4 => ?_)
      · first
        | (cases hc4; done)
        | (exfalso; simp only [decide_eq_true_eq, decide_eq_false_iff_not, Bool.not_eq_true', Bool.not_eq_false', Bool.not_eq_eq_eq_not, Bool.not_true, Bool.not_false] at hc4; omega)
        | (skip
           try simp only [decide_eq_true_eq, decide_eq_false_iff_not, Bool.not_eq_true', Bool.not_eq_false', Bool.not_eq_eq_eq_not, Bool.not_true, Bool.not_false] at hc4
           refine W.seq ?_
           refine W.region (fun K hK => ?_)
           simp (config := { maxSteps := 10000000 }) only [go_sem, ↓forkQ_true, ↓forkQ_false, ↓guardQ_some, ↓resQ_val, ↓resQ_unit, ↓resQ_enter, ↓retQ_some, ↓resFQ_val, ↓resFQ_unit, ↓resFQ_enter, ↓retFQ_some, Nat.reduceEqDiff, reduceIte, Nat.reduceAdd, Nat.reduceMul, Nat.reduceSub, reduceCtorEq, Nat.reduceLeDiff, f0_3, f1_3, f2_3, f6_3, f58_3, t10, t14, t16, cfT_at, c10, hf, q14, hz, h3, hk0]
           refine hK _ _ ?_
           clear hK K
           refine W.forget (fun e5 he5 => ?_)
           have f0_5 := congrArg (fun q => Env.get q 0) he5
           simp only [go_sem, Nat.reduceEqDiff, reduceIte, f0_3] at f0_5
           have f1_5 := congrArg (fun q => Env.get q 1) he5
           simp only [go_sem, Nat.reduceEqDiff, reduceIte, f1_3] at f1_5
           have f2_5 := congrArg (fun q => Env.get q 2) he5
           simp only [go_sem, Nat.reduceEqDiff, reduceIte, f2_3] at f2_5
           have f6_5 := congrArg (fun q => Env.get q 6) he5
           simp only [go_sem, Nat.reduceEqDiff, reduceIte, f6_3] at f6_5
           clear he5 f0_3 f1_3 f2_3 f6_3 f58_3
           refine W.thenN ?_
           refine W.ret ?_
           refine W.thenR ?_
           rw [doneQ_ret]
           exact ⟨[.bool true], by simp only [go_sem, ↓forkQ_true, ↓forkQ_false, ↓guardQ_some, ↓resQ_val, ↓resQ_unit, ↓resQ_enter, ↓retQ_some, ↓resFQ_val, ↓resFQ_unit, ↓resFQ_enter, ↓retFQ_some, Nat.reduceEqDiff, reduceIte, Nat.reduceAdd, Nat.reduceMul, Nat.reduceSub, reduceCtorEq, Nat.reduceLeDiff, f0_5, f1_5, f2_5, f6_5], rfl⟩)
      · cases hc4
  by_cases hk1 : (l.length : Int) ≤ k
  · refine ⟨_, rfl, ?_⟩
    show Wp Try.prog cfT (SkH 9) _ (doneQ Try.prog [.tmp 6] _) _ _
    refine W.forget (fun e1 he1 => ?_)
    have f0_1 := congrArg (fun q => Env.get q 0) he1
    simp only [ofList_cons, ofList_nil, go_sem, Nat.reduceEqDiff, reduceIte] at f0_1
    have f1_1 := congrArg (fun q => Env.get q 1) he1
    simp only [ofList_cons, ofList_nil, go_sem, Nat.reduceEqDiff, reduceIte] at f1_1
    have f2_1 := congrArg (fun q => Env.get q 2) he1
    simp only [ofList_cons, ofList_nil, go_sem, Nat.reduceEqDiff, reduceIte] at f2_1
    clear he1
    refine W.seq ?_
    refine W.region (fun K hK => ?_)
    simp (config := { maxSteps := 10000000 }) only [go_sem, ↓forkQ_true, ↓forkQ_false, ↓guardQ_some, ↓resQ_val, ↓resQ_unit, ↓resQ_enter, ↓retQ_some, ↓resFQ_val, ↓resFQ_unit, ↓resFQ_enter, ↓retFQ_some, Nat.reduceEqDiff, reduceIte, Nat.reduceAdd, Nat.reduceMul, Nat.reduceSub, reduceCtorEq, Nat.reduceLeDiff, f0_1, f1_1, f2_1, t10, t14, t16, cfT_at]
    refine hK _ _ ?_
    clear hK K
    refine W.forget (fun e2 he2 => ?_)
    have f0_2 := congrArg (fun q => Env.get q 0) he2
    simp only [go_sem, Nat.reduceEqDiff, reduceIte, f0_1] at f0_2
    have f1_2 := congrArg (fun q => Env.get q 1) he2
    simp only [go_sem, Nat.reduceEqDiff, reduceIte, f1_1] at f1_2
    have f2_2 := congrArg (fun q => Env.get q 2) he2
    simp only [go_sem, Nat.reduceEqDiff, reduceIte, f2_1] at f2_2
    have f6_2 := congrArg (fun q => Env.get q 6) he2
    simp only [go_sem, Nat.reduceEqDiff, reduceIte] at f6_2
    clear he2 f0_1 f1_1 f2_1
    refine W.thenN ?_
    refine W.seq ?_
    refine W.seq ?_
    refine W.regionA (fun A hA K hK => ?_)
    have gd3 := guardAt hA (j := 3) (d := 26) rfl
    have gd8 := guardAt hA (j := 8) (d := 31) rfl
    have gd13 := guardAt hA (j := 13) (d := 36) rfl
    have gd17 := guardAt hA (j := 17) (d := 40) rfl
    have gd23 := guardAt hA (j := 23) (d := 46) rfl
    have gd28 := guardAt hA (j := 28) (d := 51) rfl
    have gd32 := guardAt hA (j := 32) (d := 55) rfl
    clear hA
    simp (config := { maxSteps := 10000000 }) only [go_sem, ↓forkQ_true, ↓forkQ_false, ↓guardQ_some, ↓resQ_val, ↓resQ_unit, ↓resQ_enter, ↓retQ_some, ↓resFQ_val, ↓resFQ_unit, ↓resFQ_enter, ↓retFQ_some, Nat.reduceEqDiff, reduceIte, Nat.reduceAdd, Nat.reduceMul, Nat.reduceSub, reduceCtorEq, Nat.reduceLeDiff, f0_2, f1_2, f2_2, f6_2, t10, t14, t16, cfT_at, c10, hf, q14, hz, h3, hk0, hk1, gd3, gd8, gd13, gd17, gd23, gd28, gd32]
    repeat' (first | (refine W.forkP (fun hc3 => ?_) (fun hc3 => ?_) <;> simp (config := { maxSteps := 10000000 }) only [go_sem, ↓forkQ_true, ↓forkQ_false, ↓guardQ_some, ↓resQ_val, ↓resQ_unit, ↓resQ_enter, ↓retQ_some, ↓resFQ_val, ↓resFQ_unit, ↓resFQ_enter, ↓retFQ_some, Nat.reduceEqDiff, reduceIte, Nat.reduceAdd, Nat.reduceMul, Nat.reduceSub, reduceCtorEq, Nat.reduceLeDiff, f0_2, f1_2, f2_2, f6_2, t10, t14, t16, cfT_at, c10, hf, q14, hz, h3, hk0, hk1, gd3, gd8, gd13, gd17, gd23, gd28, gd32, hc3]) | (refine W.fork (fun hc3 => ?_) (fun hc3 => ?_) <;> simp (config := { maxSteps := 10000000 }) only [go_sem, ↓forkQ_true, ↓forkQ_false, ↓guardQ_some, ↓resQ_val, ↓resQ_unit, ↓resQ_enter, ↓retQ_some, ↓resFQ_val, ↓resFQ_unit, ↓resFQ_enter, ↓retFQ_some, Nat.reduceEqDiff, reduceIte, Nat.reduceAdd, Nat.reduceMul, Nat.reduceSub, reduceCtorEq, Nat.reduceLeDiff, f0_2, f1_2, f2_2, f6_2, t10, t14, t16, cfT_at, c10, hf, q14, hz, h3, hk0, hk1, gd3, gd8, gd13, gd17, gd23, gd28, gd32, hc3]))
    all_goals
      refine hK _ _ ?_
      clear hK K A gd3 gd8 gd13 gd17 gd23 gd28 gd32
      refine W.forget (fun e3 he3 => ?_)
      have f0_3 := congrArg (fun q => Env.get q 0) he3
      simp only [go_sem, Nat.reduceEqDiff, reduceIte, f0_2] at f0_3
      have f1_3 := congrArg (fun q => Env.get q 1) he3
      simp only [go_sem, Nat.reduceEqDiff, reduceIte, f1_2] at f1_3
      have f2_3 := congrArg (fun q => Env.get q 2) he3
      simp only [go_sem, Nat.reduceEqDiff, reduceIte, f2_2] at f2_3
      have f6_3 := congrArg (fun q => Env.get q 6) he3
      simp only [go_sem, Nat.reduceEqDiff, reduceIte, f6_2] at f6_3
      have f58_3 := congrArg (fun q => Env.get q 58) he3
      simp only [go_sem, Nat.reduceEqDiff, reduceIte] at f58_3
      clear he3 f0_2 f1_2 f2_2 f6_2
      refine W.thenN ?_
      refine W.cond f58_3 (fun hc4 => ?_) (fun hc4 => ?_)
      · first
        | (cases hc4; done)
        | (exfalso; simp only [decide_eq_true_eq, decide_eq_false_iff_not, Bool.not_eq_true', Bool.not_eq_false', Bool.not_eq_eq_eq_not, Bool.not_true, Bool.not_false] at hc4; omega)
        | (skip
           try simp only [decide_eq_true_eq, decide_eq_false_iff_not, Bool.not_eq_true', Bool.not_eq_false', Bool.not_eq_eq_eq_not, Bool.not_true, Bool.not_false] at hc4
           refine W.seq ?_
           refine W.region (fun K hK => ?_)
           simp (config := { maxSteps := 10000000 }) only [go_sem, ↓forkQ_true, ↓forkQ_false, ↓guardQ_some, ↓resQ_val, ↓resQ_unit, ↓resQ_enter, ↓retQ_some, ↓resFQ_val, ↓resFQ_unit, ↓resFQ_enter, ↓retFQ_some, Nat.reduceEqDiff, reduceIte, Nat.reduceAdd, Nat.reduceMul, Nat.reduceSub, reduceCtorEq, Nat.reduceLeDiff, f0_3, f1_3, f2_3, f6_3, f58_3, t10, t14, t16, cfT_at, c10, hf, q14, hz, h3, hk0, hk1]
           refine hK _ _ ?_
           clear hK K
           refine W.forget (fun e5 he5 => ?_)
           have f0_5 := congrArg (fun q => Env.get q 0) he5
           simp only [go_sem, Nat.reduceEqDiff, reduceIte, f0_3] at f0_5
           have f1_5 := congrArg (fun q => Env.get q 1) he5
           simp only [go_sem, Nat.reduceEqDiff, reduceIte, f1_3] at f1_5
           have f2_5 := congrArg (fun q => Env.get q 2) he5
           simp only [go_sem, Nat.reduceEqDiff, reduceIte, f2_3] at f2_5
           have f6_5 := congrArg (fun q => Env.get q 6) he5
           simp only [go_sem, Nat.reduceEqDiff, reduceIte, f6_3] at f6_5
           clear he5 f0_3 f1_3 f2_3 f6_3 f58_3
           refine W.thenN ?_
           refine W.ret ?_
           refine W.thenR ?_
           rw [doneQ_ret]
           exact ⟨[.bool true], by simp only [go_sem, ↓forkQ_true, ↓forkQ_false, ↓guardQ_some, ↓resQ_val, ↓resQ_unit, ↓resQ_enter, ↓retQ_some, ↓resFQ_val, ↓resFQ_unit, ↓resFQ_enter, ↓retFQ_some, Nat.reduceEqDiff, reduceIte, Nat.reduceAdd, Nat.reduceMul, Nat.reduceSub, reduceCtorEq, Nat.reduceLeDiff, f0_5, f1_5, f2_5, f6_5], rfl⟩)
      · cases hc4
  cases hp : passP l
  · refine ⟨_, rfl, ?_⟩
    rw [hp] at q16
    show Wp Try.prog cfT (SkH 9) _ (doneQ Try.prog [.tmp 6] _) _ _
    refine W.forget (fun e1 he1 => ?_)
    have f0_1 := congrArg (fun q => Env.get q 0) he1
    simp only [ofList_cons, ofList_nil, go_sem, Nat.reduceEqDiff, reduceIte] at f0_1
    have f1_1 := congrArg (fun q => Env.get q 1) he1
    simp only [ofList_cons, ofList_nil, go_sem, Nat.reduceEqDiff, reduceIte] at f1_1
    have f2_1 := congrArg (fun q => Env.get q 2) he1
    simp only [ofList_cons, ofList_nil, go_sem, Nat.reduceEqDiff, reduceIte] at f2_1
    clear he1
    refine W.seq ?_
    refine W.region (fun K hK => ?_)
    simp (config := { maxSteps := 10000000 }) only [go_sem, ↓forkQ_true, ↓forkQ_false, ↓guardQ_some, ↓resQ_val, ↓resQ_unit, ↓resQ_enter, ↓retQ_some, ↓resFQ_val, ↓resFQ_unit, ↓resFQ_enter, ↓retFQ_some, Nat.reduceEqDiff, reduceIte, Nat.reduceAdd, Nat.reduceMul, Nat.reduceSub, reduceCtorEq, Nat.reduceLeDiff, f0_1, f1_1, f2_1, t10, t14, t16, cfT_at]
    refine hK _ _ ?_
    clear hK K
    refine W.forget (fun e2 he2 => ?_)
    have f0_2 := congrArg (fun q => Env.get q 0) he2
    simp only [go_sem, Nat.reduceEqDiff, reduceIte, f0_1] at f0_2
    have f1_2 := congrArg (fun q => Env.get q 1) he2
    simp only [go_sem, Nat.reduceEqDiff, reduceIte, f1_1] at f1_2
    have f2_2 := congrArg (fun q => Env.get q 2) he2
    simp only [go_sem, Nat.reduceEqDiff, reduceIte, f2_1] at f2_2
    have f6_2 := congrArg (fun q => Env.get q 6) he2
    simp only [go_sem, Nat.reduceEqDiff, reduceIte] at f6_2
    clear he2 f0_1 f1_1 f2_1
    refine W.thenN ?_
    refine W.seq ?_
    refine W.seq ?_
    refine W.regionA (fun A hA K hK => ?_)
    have gd3 := guardAt hA (j := 3) (d := 26) rfl
    have gd8 := guardAt hA (j := 8) (d := 31) rfl
    have gd13 := guardAt hA (j := 13) (d := 36) rfl
    have gd17 := guardAt hA (j := 17) (d := 40) rfl
    have gd23 := guardAt hA (j := 23) (d := 46) rfl
    have gd28 := guardAt hA (j := 28) (d := 51) rfl
    have gd32 := guardAt hA (j := 32) (d := 55) rfl
    clear hA
    simp (config := { maxSteps := 10000000 }) only [go_sem, ↓forkQ_true, ↓forkQ_false, ↓guardQ_some, ↓resQ_val, ↓resQ_unit, ↓resQ_enter, ↓retQ_some, ↓resFQ_val, ↓resFQ_unit, ↓resFQ_enter, ↓retFQ_some, Nat.reduceEqDiff, reduceIte, Nat.reduceAdd, Nat.reduceMul, Nat.reduceSub, reduceCtorEq, Nat.reduceLeDiff, f0_2, f1_2, f2_2, f6_2, t10, t14, t16, cfT_at, c10, hf, q14, hz, h3, hk0, hk1, q16, gd3, gd8, gd13, gd17, gd23, gd28, gd32]
    repeat' (first | (refine W.forkP (fun hc3 => ?_) (fun hc3 => ?_) <;> simp (config := { maxSteps := 10000000 }) only [go_sem, ↓forkQ_true, ↓forkQ_false, ↓guardQ_some, ↓resQ_val, ↓resQ_unit, ↓resQ_enter, ↓retQ_some, ↓resFQ_val, ↓resFQ_unit, ↓resFQ_enter, ↓retFQ_some, Nat.reduceEqDiff, reduceIte, Nat.reduceAdd, Nat.reduceMul, Nat.reduceSub, reduceCtorEq, Nat.reduceLeDiff, f0_2, f1_2, f2_2, f6_2, t10, t14, t16, cfT_at, c10, hf, q14, hz, h3, hk0, hk1, q16, gd3, gd8, gd13, gd17, gd23, gd28, gd32, hc3]) | (refine W.fork (fun hc3 => ?_) (fun hc3 => ?_) <;> simp (config := { maxSteps := 10000000 }) only [go_sem, ↓forkQ_true, ↓forkQ_false, ↓guardQ_some, ↓resQ_val, ↓resQ_unit, ↓resQ_enter, ↓retQ_some, ↓resFQ_val, ↓resFQ_unit, ↓resFQ_enter, ↓retFQ_some, Nat.reduceEqDiff, reduceIte, Nat.reduceAdd, Nat.reduceMul, Nat.reduceSub, reduceCtorEq, Nat.reduceLeDiff, f0_2, f1_2, f2_2, f6_2, t10, t14, t16, cfT_at, c10, hf, q14, hz, h3, hk0, hk1, q16, gd3, gd8, gd13, gd17, gd23, gd28, gd32, hc3]))
    all_goals
      refine hK _ _ ?_
      clear hK K A gd3 gd8 gd13 gd17 gd23 gd28 gd32
      refine W.forget (fun e3 he3 => ?_)
      have f0_3 := congrArg (fun q => Env.get q 0) he3
      simp only [go_sem, Nat.reduceEqDiff, reduceIte, f0_2] at f0_3
      have f1_3 := congrArg (fun q => Env.get q 1) he3
      simp only [go_sem, Nat.reduceEqDiff, reduceIte, f1_2] at f1_3
      have f2_3 := congrArg (fun q => Env.get q 2) he3
      simp only [go_sem, Nat.reduceEqDiff, reduceIte, f2_2] at f2_3
      have f6_3 := congrArg (fun q => Env.get q 6) he3
      simp only [go_sem, Nat.reduceEqDiff, reduceIte, f6_2] at f6_3
      have f58_3 := congrArg (fun q => Env.get q 58) he3
      simp only [go_sem, Nat.reduceEqDiff, reduceIte] at f58_3
      clear he3 f0_2 f1_2 f2_2 f6_2
      refine W.thenN ?_
      refine W.cond f58_3 (fun hc4 => ?_) (fun hc4 => ?_)
      · first
        | (cases hc4; done)
        | (exfalso; simp only [decide_eq_true_eq, decide_eq_false_iff_not, Bool.not_eq_true', Bool.not_eq_false', Bool.not_eq_eq_eq_not, Bool.not_true, Bool.not_false] at hc4; omega)
        | (skip
           try simp only [decide_eq_true_eq, decide_eq_false_iff_not, Bool.not_eq_true', Bool.not_eq_false', Bool.not_eq_eq_eq_not, Bool.not_true, Bool.not_false] at hc4
           refine W.seq ?_
           refine W.region (fun K hK => ?_)
           simp (config := { maxSteps := 10000000 }) only [go_sem, ↓forkQ_true, ↓forkQ_false, ↓guardQ_some, ↓resQ_val, ↓resQ_unit, ↓resQ_enter, ↓retQ_some, ↓resFQ_val, ↓resFQ_unit, ↓resFQ_enter, ↓retFQ_some, Nat.reduceEqDiff, reduceIte, Nat.reduceAdd, Nat.reduceMul, Nat.reduceSub, reduceCtorEq, Nat.reduceLeDiff, f0_3, f1_3, f2_3, f6_3, f58_3, t10, t14, t16, cfT_at, c10, hf, q14, hz, h3, hk0, hk1, q16]
           refine hK _ _ ?_
           clear hK K
           refine W.forget (fun e5 he5 => ?_)
           have f0_5 := congrArg (fun q => Env.get q 0) he5
           simp only [go_sem, Nat.reduceEqDiff, reduceIte, f0_3] at f0_5
           have f1_5 := congrArg (fun q => Env.get q 1) he5
           simp only [go_sem, Nat.reduceEqDiff, reduceIte, f1_3] at f1_5
           have f2_5 := congrArg (fun q => Env.get q 2) he5
           simp only [go_sem, Nat.reduceEqDiff, reduceIte, f2_3] at f2_5
           have f6_5 := congrArg (fun q => Env.get q 6) he5
           simp only [go_sem, Nat.reduceEqDiff, reduceIte, f6_3] at f6_5
           clear he5 f0_3 f1_3 f2_3 f6_3 f58_3
           refine W.thenN ?_
           refine W.ret ?_
           refine W.thenR ?_
           rw [doneQ_ret]
           exact ⟨[.bool true], by simp only [go_sem, ↓forkQ_true, ↓forkQ_false, ↓guardQ_some, ↓resQ_val, ↓resQ_unit, ↓resQ_enter, ↓retQ_some, ↓resFQ_val, ↓resFQ_unit, ↓resFQ_enter, ↓retFQ_some, Nat.reduceEqDiff, reduceIte, Nat.reduceAdd, Nat.reduceMul, Nat.reduceSub, reduceCtorEq, Nat.reduceLeDiff, f0_5, f1_5, f2_5, f6_5], rfl⟩)
      · cases hc4
  have q16' := q16
  rw [hp] at q16'
  by_cases hx0 : x < 0
  · refine ⟨_, rfl, ?_⟩
    show Wp Try.prog cfT (SkH 9) _ (doneQ Try.prog [.tmp 6] _) _ _
    refine W.forget (fun e1 he1 => ?_)
    have f0_1 := congrArg (fun q => Env.get q 0) he1
    simp only [ofList_cons, ofList_nil, go_sem, Nat.reduceEqDiff, reduceIte] at f0_1
    have f1_1 := congrArg (fun q => Env.get q 1) he1
    simp only [ofList_cons, ofList_nil, go_sem, Nat.reduceEqDiff, reduceIte] at f1_1
    have f2_1 := congrArg (fun q => Env.get q 2) he1
    simp only [ofList_cons, ofList_nil, go_sem, Nat.reduceEqDiff, reduceIte] at f2_1
    clear he1
    refine W.seq ?_
    refine W.region (fun K hK => ?_)
    simp (config := { maxSteps := 10000000 }) only [go_sem, ↓forkQ_true, ↓forkQ_false, ↓guardQ_some, ↓resQ_val, ↓resQ_unit, ↓resQ_enter, ↓retQ_some, ↓resFQ_val, ↓resFQ_unit, ↓resFQ_enter, ↓retFQ_some, Nat.reduceEqDiff, reduceIte, Nat.reduceAdd, Nat.reduceMul, Nat.reduceSub, reduceCtorEq, Nat.reduceLeDiff, f0_1, f1_1, f2_1, t10, t14, t16, cfT_at]
    refine hK _ _ ?_
    clear hK K
    refine W.forget (fun e2 he2 => ?_)
    have f0_2 := congrArg (fun q => Env.get q 0) he2
    simp only [go_sem, Nat.reduceEqDiff, reduceIte, f0_1] at f0_2
    have f1_2 := congrArg (fun q => Env.get q 1) he2
    simp only [go_sem, Nat.reduceEqDiff, reduceIte, f1_1] at f1_2
    have f2_2 := congrArg (fun q => Env.get q 2) he2
    simp only [go_sem, Nat.reduceEqDiff, reduceIte, f2_1] at f2_2
    have f6_2 := congrArg (fun q => Env.get q 6) he2
    simp only [go_sem, Nat.reduceEqDiff, reduceIte] at f6_2
    clear he2 f0_1 f1_1 f2_1
    refine W.thenN ?_
    refine W.seq ?_
    refine W.seq ?_
    refine W.regionA (fun A hA K hK => ?_)
    have gd3 := guardAt hA (j := 3) (d := 26) rfl
    have gd8 := guardAt hA (j := 8) (d := 31) rfl
    have gd13 := guardAt hA (j := 13) (d := 36) rfl
    have gd17 := guardAt hA (j := 17) (d := 40) rfl
    have gd23 := guardAt hA (j := 23) (d := 46) rfl
    have gd28 := guardAt hA (j := 28) (d := 51) rfl
    have gd32 := guardAt hA (j := 32) (d := 55) rfl
    clear hA
    simp (config := { maxSteps := 10000000 }) only [go_sem, ↓forkQ_true, ↓forkQ_false, ↓guardQ_some, ↓resQ_val, ↓resQ_unit, ↓resQ_enter, ↓retQ_some, ↓resFQ_val, ↓resFQ_unit, ↓resFQ_enter, ↓retFQ_some, Nat.reduceEqDiff, reduceIte, Nat.reduceAdd, Nat.reduceMul, Nat.reduceSub, reduceCtorEq, Nat.reduceLeDiff, f0_2, f1_2, f2_2, f6_2, t10, t14, t16, cfT_at, c10, hf, q14, hz, h3, hk0, hk1, q16', hx0, gd3, gd8, gd13, gd17, gd23, gd28, gd32]
    repeat' (first | (refine W.forkP (fun hc3 => ?_) (fun hc3 => ?_) <;> simp (config := { maxSteps := 10000000 }) only [go_sem, ↓forkQ_true, ↓forkQ_false, ↓guardQ_some, ↓resQ_val, ↓resQ_unit, ↓resQ_enter, ↓retQ_some, ↓resFQ_val, ↓resFQ_unit, ↓resFQ_enter, ↓retFQ_some, Nat.reduceEqDiff, reduceIte, Nat.reduceAdd, Nat.reduceMul, Nat.reduceSub, reduceCtorEq, Nat.reduceLeDiff, f0_2, f1_2, f2_2, f6_2, t10, t14, t16, cfT_at, c10, hf, q14, hz, h3, hk0, hk1, q16', hx0, gd3, gd8, gd13, gd17, gd23, gd28, gd32, hc3]) | (refine W.fork (fun hc3 => ?_) (fun hc3 => ?_) <;> simp (config := { maxSteps := 10000000 }) only [go_sem, ↓forkQ_true, ↓forkQ_false, ↓guardQ_some, ↓resQ_val, ↓resQ_unit, ↓resQ_enter, ↓retQ_some, ↓resFQ_val, ↓resFQ_unit, ↓resFQ_enter, ↓retFQ_some, Nat.reduceEqDiff, reduceIte, Nat.reduceAdd, Nat.reduceMul, Nat.reduceSub, reduceCtorEq, Nat.reduceLeDiff, f0_2, f1_2, f2_2, f6_2, t10, t14, t16, cfT_at, c10, hf, q14, hz, h3, hk0, hk1, q16', hx0, gd3, gd8, gd13, gd17, gd23, gd28, gd32, hc3]))
    all_goals
      refine hK _ _ ?_
      clear hK K A gd3 gd8 gd13 gd17 gd23 gd28 gd32
      refine W.forget (fun e3 he3 => ?_)
      have f0_3 := congrArg (fun q => Env.get q 0) he3
      simp only [go_sem, Nat.reduceEqDiff, reduceIte, f0_2] at f0_3
      have f1_3 := congrArg (fun q => Env.get q 1) he3
      simp only [go_sem, Nat.reduceEqDiff, reduceIte, f1_2] at f1_3
      have f2_3 := congrArg (fun q => Env.get q 2) he3
      simp only [go_sem, Nat.reduceEqDiff, reduceIte, f2_2] at f2_3
      have f6_3 := congrArg (fun q => Env.get q 6) he3
      simp only [go_sem, Nat.reduceEqDiff, reduceIte, f6_2] at f6_3
      have f58_3 := congrArg (fun q => Env.get q 58) he3
      simp only [go_sem, Nat.reduceEqDiff, reduceIte] at f58_3
      clear he3 f0_2 f1_2 f2_2 f6_2
      refine W.thenN ?_
      refine W.cond f58_3 (fun hc4 => ?_) (fun hc4 => ?_)
      · first
        | (cases hc4; done)
        | (exfalso; simp only [decide_eq_true_eq, decide_eq_false_iff_not, Bool.not_eq_true', Bool.not_eq_false', Bool.not_eq_eq_eq_not, Bool.not_true, Bool.not_false] at hc4; omega)
        | (skip
           try simp only [decide_eq_true_eq, decide_eq_false_iff_not, Bool.not_eq_true', Bool.not_eq_false', Bool.not_eq_eq_eq_not, Bool.not_true, Bool.not_false] at hc4
           refine W.seq ?_
           refine W.region (fun K hK => ?_)
           simp (config := { maxSteps := 10000000 }) only [go_sem, ↓forkQ_true, ↓forkQ_false, ↓guardQ_some, ↓resQ_val, ↓resQ_unit, ↓resQ_enter, ↓retQ_some, ↓resFQ_val, ↓resFQ_unit, ↓resFQ_enter, ↓retFQ_some, Nat.reduceEqDiff, reduceIte, Nat.reduceAdd, Nat.reduceMul, Nat.reduceSub, reduceCtorEq, Nat.reduceLeDiff, f0_3, f1_3, f2_3, f6_3, f58_3, t10, t14, t16, cfT_at, c10, hf, q14, hz, h3, hk0, hk1, q16', hx0]
           refine hK _ _ ?_
           clear hK K
           refine W.forget (fun e5 he5 => ?_)
           have f0_5 := congrArg (fun q => Env.get q 0) he5
           simp only [go_sem, Nat.reduceEqDiff, reduceIte, f0_3] at f0_5
           have f1_5 := congrArg (fun q => Env.get q 1) he5
           simp only [go_sem, Nat.reduceEqDiff, reduceIte, f1_3] at f1_5
           have f2_5 := congrArg (fun q => Env.get q 2) he5
           simp only [go_sem, Nat.reduceEqDiff, reduceIte, f2_3] at f2_5
           have f6_5 := congrArg (fun q => Env.get q 6) he5
           simp only [go_sem, Nat.reduceEqDiff, reduceIte, f6_3] at f6_5
           clear he5 f0_3 f1_3 f2_3 f6_3 f58_3
           refine W.thenN ?_
           refine W.ret ?_
           refine W.thenR ?_
           rw [doneQ_ret]
           exact ⟨[.bool true], by simp only [go_sem, ↓forkQ_true, ↓forkQ_false, ↓guardQ_some, ↓resQ_val, ↓resQ_unit, ↓resQ_enter, ↓retQ_some, ↓resFQ_val, ↓resFQ_unit, ↓resFQ_enter, ↓retFQ_some, Nat.reduceEqDiff, reduceIte, Nat.reduceAdd, Nat.reduceMul, Nat.reduceSub, reduceCtorEq, Nat.reduceLeDiff, f0_5, f1_5, f2_5, f6_5], rfl⟩)
      · cases hc4
  by_cases hx1 : 1073741824 < x
  · refine ⟨_, rfl, ?_⟩
    show Wp Try.prog cfT (SkH 9) _ (doneQ Try.prog [.tmp 6] _) _ _
    refine W.forget (fun e1 he1 => ?_)
    have f0_1 := congrArg (fun q => Env.get q 0) he1
    simp only [ofList_cons, ofList_nil, go_sem, Nat.reduceEqDiff, reduceIte] at f0_1
    have f1_1 := congrArg (fun q => Env.get q 1) he1
    simp only [ofList_cons, ofList_nil, go_sem, Nat.reduceEqDiff, reduceIte] at f1_1
    have f2_1 := congrArg (fun q => Env.get q 2) he1
    simp only [ofList_cons, ofList_nil, go_sem, Nat.reduceEqDiff, reduceIte] at f2_1
    clear he1
    refine W.seq ?_
    refine W.region (fun K hK => ?_)
    simp (config := { maxSteps := 10000000 }) only [go_sem, ↓forkQ_true, ↓forkQ_false, ↓guardQ_some, ↓resQ_val, ↓resQ_unit, ↓resQ_enter, ↓retQ_some, ↓resFQ_val, ↓resFQ_unit, ↓resFQ_enter, ↓retFQ_some, Nat.reduceEqDiff, reduceIte, Nat.reduceAdd, Nat.reduceMul, Nat.reduceSub, reduceCtorEq, Nat.reduceLeDiff, f0_1, f1_1, f2_1, t10, t14, t16, cfT_at]
    refine hK _ _ ?_
    clear hK K
    refine W.forget (fun e2 he2 => ?_)
    have f0_2 := congrArg (fun q => Env.get q 0) he2
    simp only [go_sem, Nat.reduceEqDiff, reduceIte, f0_1] at f0_2
    have f1_2 := congrArg (fun q => Env.get q 1) he2
    simp only [go_sem, Nat.reduceEqDiff, reduceIte, f1_1] at f1_2
    have f2_2 := congrArg (fun q => Env.get q 2) he2
    simp only [go_sem, Nat.reduceEqDiff, reduceIte, f2_1] at f2_2
    have f6_2 := congrArg (fun q => Env.get q 6) he2
    simp only [go_sem, Nat.reduceEqDiff, reduceIte] at f6_2
    clear he2 f0_1 f1_1 f2_1
    refine W.thenN ?_
    refine W.seq ?_
    refine W.seq ?_
    refine W.regionA (fun A hA K hK => ?_)
    have gd3 := guardAt hA (j := 3) (d := 26) rfl
    have gd8 := guardAt hA (j := 8) (d := 31) rfl
    have gd13 := guardAt hA (j := 13) (d := 36) rfl
    have gd17 := guardAt hA (j := 17) (d := 40) rfl
    have gd23 := guardAt hA (j := 23) (d := 46) rfl
    have gd28 := guardAt hA (j := 28) (d := 51) rfl
    have gd32 := guardAt hA (j := 32) (d := 55) rfl
    clear hA
    simp (config := { maxSteps := 10000000 }) only [go_sem, ↓forkQ_true, ↓forkQ_false, ↓guardQ_some, ↓resQ_val, ↓resQ_unit, ↓resQ_enter, ↓retQ_some, ↓resFQ_val, ↓resFQ_unit, ↓resFQ_enter, ↓retFQ_some, Nat.reduceEqDiff, reduceIte, Nat.reduceAdd, Nat.reduceMul, Nat.reduceSub, reduceCtorEq, Nat.reduceLeDiff, f0_2, f1_2, f2_2, f6_2, t10, t14, t16, cfT_at, c10, hf, q14, hz, h3, hk0, hk1, q16', hx0, hx1, gd3, gd8, gd13, gd17, gd23, gd28, gd32]
    repeat' (first | (refine W.forkP (fun hc3 => ?_) (fun hc3 => ?_) <;> simp (config := { maxSteps := 10000000 }) only [go_sem, ↓forkQ_true, ↓forkQ_false, ↓guardQ_some, ↓resQ_val, ↓resQ_unit, ↓resQ_enter, ↓retQ_some, ↓resFQ_val, ↓resFQ_unit, ↓resFQ_enter, ↓retFQ_some, Nat.reduceEqDiff, reduceIte, Nat.reduceAdd, Nat.reduceMul, Nat.reduceSub, reduceCtorEq, Nat.reduceLeDiff, f0_2, f1_2, f2_2, f6_2, t10, t14, t16, cfT_at, c10, hf, q14, hz, h3, hk0, hk1, q16', hx0, hx1, gd3, gd8, gd13, gd17, gd23, gd28, gd32, hc3]) | (refine W.fork (fun hc3 => ?_) (fun hc3 => ?_) <;> simp (config := { maxSteps := 10000000 }) only [go_sem, ↓forkQ_true, ↓forkQ_false, ↓guardQ_some, ↓resQ_val, ↓resQ_unit, ↓resQ_enter, ↓retQ_some, ↓resFQ_val, ↓resFQ_unit, ↓resFQ_enter, ↓retFQ_some, Nat.reduceEqDiff, reduceIte, Nat.reduceAdd, Nat.reduceMul, Nat.reduceSub, reduceCtorEq, Nat.reduceLeDiff, f0_2, f1_2, f2_2, f6_2, t10, t14, t16, cfT_at, c10, hf, q14, hz, h3, hk0, hk1, q16', hx0, hx1, gd3, gd8, gd13, gd17, gd23, gd28, gd32, hc3]))
    all_goals
      refine hK _ _ ?_
      clear hK K A gd3 gd8 gd13 gd17 gd23 gd28 gd32
      refine W.forget (fun e3 he3 => ?_)
      have f0_3 := congrArg (fun q => Env.get q 0) he3
      simp only [go_sem, Nat.reduceEqDiff, reduceIte, f0_2] at f0_3
      have f1_3 := congrArg (fun q => Env.get q 1) he3
      simp only [go_sem, Nat.reduceEqDiff, reduceIte, f1_2] at f1_3
      have f2_3 := congrArg (fun q => Env.get q 2) he3
      simp only [go_sem, Nat.reduceEqDiff, reduceIte, f2_2] at f2_3
      have f6_3 := congrArg (fun q => Env.get q 6) he3
      simp only [go_sem, Nat.reduceEqDiff, reduceIte, f6_2] at f6_3
      have f58_3 := congrArg (fun q => Env.get q 58) he3
      simp only [go_sem, Nat.reduceEqDiff, reduceIte] at f58_3
      clear he3 f0_2 f1_2 f2_2 f6_2
      refine W.thenN ?_
      refine W.cond f58_3 (fun hc4 => ?_) (fun hc4 => ?_)
      · first
        | (cases hc4; done)
        | (exfalso; simp only [decide_eq_true_eq, decide_eq_false_iff_not, Bool.not_eq_true', Bool.not_eq_false', Bool.not_eq_eq_eq_not, Bool.not_true, Bool.not_false] at hc4; omega)
        | (skip
           try simp only [decide_eq_true_eq, decide_eq_false_iff_not, Bool.not_eq_true', Bool.not_eq_false', Bool.not_eq_eq_eq_not, Bool.not_true, Bool.not_false] at hc4
           refine W.seq ?_
           refine W.region (fun K hK => ?_)
           simp (config := { maxSteps := 10000000 }) only [go_sem, ↓forkQ_true, ↓forkQ_false, ↓guardQ_some, ↓resQ_val, ↓resQ_unit, ↓resQ_enter, ↓retQ_some, ↓resFQ_val, ↓resFQ_unit, ↓resFQ_enter, ↓retFQ_some, Nat.reduceEqDiff, reduceIte, Nat.reduceAdd, Nat.reduceMul, Nat.reduceSub, reduceCtorEq, Nat.reduceLeDiff, f0_3, f1_3, f2_3, f6_3, f58_3, t10, t14, t16, cfT_at, c10, hf, q14, hz, h3, hk0, hk1, q16', hx0, hx1]
           refine hK _ _ ?_
           clear hK K
           refine W.forget (fun e5 he5 => ?_)
           have f0_5 := congrArg (fun q => Env.get q 0) he5
           simp only [go_sem, Nat.reduceEqDiff, reduceIte, f0_3] at f0_5
           have f1_5 := congrArg (fun q => Env.get q 1) he5
           simp only [go_sem, Nat.reduceEqDiff, reduceIte, f1_3] at f1_5
           have f2_5 := congrArg (fun q => Env.get q 2) he5
           simp only [go_sem, Nat.reduceEqDiff, reduceIte, f2_3] at f2_5
           have f6_5 := congrArg (fun q => Env.get q 6) he5
           simp only [go_sem, Nat.reduceEqDiff, reduceIte, f6_3] at f6_5
           clear he5 f0_3 f1_3 f2_3 f6_3 f58_3
           refine W.thenN ?_
           refine W.ret ?_
           refine W.thenR ?_
           rw [doneQ_ret]
           exact ⟨[.bool true], by simp only [go_sem, ↓forkQ_true, ↓forkQ_false, ↓guardQ_some, ↓resQ_val, ↓resQ_unit, ↓resQ_enter, ↓retQ_some, ↓resFQ_val, ↓resFQ_unit, ↓resFQ_enter, ↓retFQ_some, Nat.reduceEqDiff, reduceIte, Nat.reduceAdd, Nat.reduceMul, Nat.reduceSub, reduceCtorEq, Nat.reduceLeDiff, f0_5, f1_5, f2_5, f6_5], rfl⟩)
      · cases hc4
  obtain ⟨n, rfl⟩ : ∃ n : Nat, k = (n : Int) := ⟨k.toNat, by omega⟩
  exact w9_ok l a c n x h hg hgr0 hcap ((checkZ_ok l).1 hz) hl (by omega) (by omega) hp (by omega)
theorem skewNarrows_lifted (os : Os) (started : os.Started) (H : Type) (enc : TypeId × Value → H) :
    ReturnsInHanded {} Try.checked os 9 .any (Rows.skewNarrowsSpec.pre6 enc Try.prog Try.f9 Rows.skewNarrowsRow.domain false) (Rows.skewNarrowsSpec.post enc Try.prog Try.f9 false true false false) := by
  refine returnsInHanded_of_change (C := Try.checked) Try.own started (by kernel_rfl) Try.func9
    (ChangeSpec.witness6 (enc := enc) (C := Try.checked) false ⟨#[], #[.slice none 0 0, .int .i64 0, .int .i64 0], []⟩ 8 (by kernel_rfl) (by kernel_rfl) (by kernel_rfl) (by kernel_rfl)) ?_
  intro W base args ds gs before hval0 hW hcnd _
  have hval : ∀ (j : Nat) t v, Try.f9.params[j]? = some t → args[j]? = some v → Value.okWide Try.prog W .any base t v := hval0
  have hW' := hW
  obtain ⟨p, q, hA0, hV, rfl, hfz, hnd⟩ := hW
  have hA : DataW.TrodAll enc Try.prog W 0 (fun _ => true) true Try.f9.params.toList args.toList ds p := hA0
  rw [Try.params9] at hA hval
  obtain ⟨v0, v1, v2, d0, d1, d2, p0, p1, p2, rfl, rfl, rfl, h0, h1, h2⟩ := trodAll_three hA
  obtain ⟨rfl, rfl⟩ := trodVars_none hV
  obtain ⟨k, rfl, rfl, rfl, wk⟩ := open_int Try.underlying3 (hval 1 3 v1 rfl rfl) h1
  obtain ⟨x, rfl, rfl, rfl, wx⟩ := open_int Try.underlying3 (hval 2 3 v2 rfl rfl) h2
  simp only [List.append_nil] at hW'
  have hlt : ∀ x ∈ p0, x.block < W.heap.size := fun x hx => by simpa using hW'.lt x (by simpa using hx)
  obtain ⟨l, a, c, h, m, G⟩ := open_gates (hval 0 22 v0 rfl rfl) h0
  obtain ⟨code, hbody, hwp⟩ := w9 l a c k x h G.ga G.gr G.cp
  have hc := law_calls (args := [.slice a l.length c, .int .i64 k, .int .i64 x]) (args' := [v0, .int .i64 k, .int .i64 x]) sk_ok cfT_wf cfT_ok Try.func9 hbody G.wf (fun v hv => by
    rcases List.mem_cons.1 hv with rfl | hv
    · exact G.sc
    · rcases List.mem_cons.1 hv with rfl | hv
      · exact Sc.flat _ rfl
      · rw [List.mem_singleton.1 hv]; exact Sc.flat _ rfl) G.rel (LRel.cons G.val (LRel.cons (.flat rfl) (LRel.cons (.flat rfl) LRel.nil))) hwp
  refine hc.mono fun e W' ⟨he, bel⟩ => ?_
  subst he
  refine ⟨_, rfl, [d0, .lit (.int .i64 k), .lit (.int .i64 x)], [], p0, [], p0, [], by simpa using hW', ?_, ?_, rfl, bel.frame _, fun h => by cases h⟩
  · exact trodAll_mk1 (shut_bool Try.underlying4 _)
  · have := trodAll_mk3 (Below.trod Try.laidOut (by kernel_rfl) (of_decide_eq_true (by kernel_rfl)) h0 bel hlt) (shut_int (w := W') (base := 0) (spare := fun b => decide (b < W.heap.size)) (held := true) (enc := enc) Try.underlying3 wk) (shut_int (w := W') (base := 0) (spare := fun b => decide (b < W.heap.size)) (held := true) (enc := enc) Try.underlying3 wx)
    simp only [List.append_nil] at this
    exact this
theorem skewNarrows_holds : Rows.SkewNarrowsSaid :=
  OpenClaim.holds_of_wide 9 Try.f9 rfl rfl rfl rfl rfl rfl rfl ⟨rfl, rfl, rfl, rfl, rfl⟩ rfl rfl rfl rfl rfl (by kernel_rfl) Try.func9 (by kernel_rfl)
    (of_decide_eq_true (by kernel_rfl)) (by unfold Func.isWrapper; first | (rw [if_pos (by decide +kernel)]; kernel_rfl) | (rw [if_neg (by decide +kernel)]; exact ⟨rfl, rfl⟩))
    (fun os started H enc _ => skewNarrows_lifted os started H enc)
#print axioms skewNarrows_holds
end Go.Proofs.Ytlblocieleildaa
