/- What the reference's bound gives. -/
import Derived.Test.YtlblocieleildaaSk16
import Derived.Test.YtlblocieleildaaSk28
set_option linter.unusedSimpArgs false
set_option linter.unusedVariables false
set_option maxRecDepth 20000
set_option maxHeartbeats 8000000
namespace Go.Proofs.Ytlblocieleildaa
open Go.Am


theorem fill00 (p : Nat → Option (Nat × Nat)) (cs : Array Value) : fillA p cs [] = some cs := rfl
attribute [go_sem] fill00
/-- the bound of the value at x from the top of i and, if it is needed, of j -/
def bP (l : List Gt) (x : Int) (i j : Nat) : Option (Int × Int) :=
  if x = (gt l i).x then some ((gt l i).hi, 1)
  else if (gt l i).x < x ∧ x < (gt l j).x then some ((gt l i).hi * ((gt l j).x - x) + (gt l j).hi * (x - (gt l i).x), (gt l j).x - (gt l i).x)
  else if (gt l j).x < (gt l i).x ∧ (gt l i).x < x then some ((gt l i).hi * ((gt l i).x - (gt l j).x) + ((gt l i).hi - (gt l j).lo) * (x - (gt l i).x), (gt l i).x - (gt l j).x)
  else if x < (gt l i).x ∧ (gt l i).x < (gt l j).x then some ((gt l i).hi * ((gt l j).x - (gt l i).x) + ((gt l i).hi - (gt l j).lo) * ((gt l i).x - x), (gt l j).x - (gt l i).x)
  else none
def bN : Option (Int × Int) → Int
  | some p => quoN p.1 p.2
  | none => 0
def bD : Option (Int × Int) → Int
  | some p => quoD p.1 p.2
  | none => 0
def bV (p : Option (Int × Int)) : Value := .tuple #[.agg #[.int .i64 (bN p), .int .i64 (bD p)], .bool p.isSome]
theorem c45 (l : List Gt) (x : Int) (i j : Nat) (o : Ok l) (hi : i < l.length) (hj : j < l.length) (hx : 0 ≤ x ∧ x ≤ 1073741824) (h : Heap) :
    callW Try.prog SkH 45 [.agg #[.int .i64 (gt l i).x, .int .i64 (gt l i).lo, .int .i64 (gt l i).hi], .agg #[.int .i64 (gt l j).x, .int .i64 (gt l j).lo, .int .i64 (gt l j).hi], .int .i64 x] h = some (bV (bP l x i j), h, true) := by
  have ri := o.rng i hi
  have rj := o.rng j hj
  refine call_flat (rs := [.cell 6 26, .tmp 7]) [_, _] Try.func45 rfl rfl ?_ ?_
  rotate_left
  · skip
    refine W.forget (fun e1 he1 => ?_)
    have f0_1 := congrArg (fun q => Env.get q 0) he1
    simp only [ofList_cons, ofList_nil, go_sem, Nat.reduceEqDiff, reduceIte] at f0_1
    have f1_1 := congrArg (fun q => Env.get q 1) he1
    simp only [ofList_cons, ofList_nil, go_sem, Nat.reduceEqDiff, reduceIte] at f1_1
    have f2_1 := congrArg (fun q => Env.get q 2) he1
    simp only [ofList_cons, ofList_nil, go_sem, Nat.reduceEqDiff, reduceIte] at f2_1
    clear he1
    refine W.seq ?_
    refine W.region (fun K hK => ?_)
    simp (config := { maxSteps := 10000000 }) only [go_sem, ↓forkQ_true, ↓forkQ_false, ↓guardQ_some, ↓resQ_val, ↓resQ_unit, ↓resQ_enter, ↓retQ_some, ↓resFQ_val, ↓resFQ_unit, ↓resFQ_enter, ↓retFQ_some, Nat.reduceEqDiff, reduceIte, Nat.reduceAdd, Nat.reduceMul, Nat.reduceSub, reduceCtorEq, Nat.reduceLeDiff, f0_1, f1_1, f2_1]
    refine hK _ _ ?_
    clear hK K
    refine W.forget (fun e2 he2 => ?_)
    have f2_2 := congrArg (fun q => Env.get q 2) he2
    simp only [go_sem, Nat.reduceEqDiff, reduceIte, f2_1] at f2_2
    have f3_2 := congrArg (fun q => Env.get q 3) he2
    simp only [go_sem, Nat.reduceEqDiff, reduceIte] at f3_2
    have f4_2 := congrArg (fun q => Env.get q 4) he2
    simp only [go_sem, Nat.reduceEqDiff, reduceIte] at f4_2
    have f6_2 := congrArg (fun q => Env.get q 6) he2
    simp only [go_sem, Nat.reduceEqDiff, reduceIte] at f6_2
    have f7_2 := congrArg (fun q => Env.get q 7) he2
    simp only [go_sem, Nat.reduceEqDiff, reduceIte] at f7_2
    clear he2 f0_1 f1_1 f2_1
    refine W.thenN ?_
    refine W.seq ?_
    refine W.block ?_
    refine W.seq ?_
    refine W.region (fun K hK => ?_)
    simp (config := { maxSteps := 10000000 }) only [go_sem, ↓forkQ_true, ↓forkQ_false, ↓guardQ_some, ↓resQ_val, ↓resQ_unit, ↓resQ_enter, ↓retQ_some, ↓resFQ_val, ↓resFQ_unit, ↓resFQ_enter, ↓retFQ_some, Nat.reduceEqDiff, reduceIte, Nat.reduceAdd, Nat.reduceMul, Nat.reduceSub, reduceCtorEq, Nat.reduceLeDiff, f2_2, f3_2, f4_2, f6_2, f7_2]
    refine hK _ _ ?_
    clear hK K
    refine W.forget (fun e3 he3 => ?_)
    have f2_3 := congrArg (fun q => Env.get q 2) he3
    simp only [go_sem, Nat.reduceEqDiff, reduceIte, f2_2] at f2_3
    have f3_3 := congrArg (fun q => Env.get q 3) he3
    simp only [go_sem, Nat.reduceEqDiff, reduceIte, f3_2] at f3_3
    have f4_3 := congrArg (fun q => Env.get q 4) he3
    simp only [go_sem, Nat.reduceEqDiff, reduceIte, f4_2] at f4_3
    have f6_3 := congrArg (fun q => Env.get q 6) he3
    simp only [go_sem, Nat.reduceEqDiff, reduceIte, f6_2] at f6_3
    have f7_3 := congrArg (fun q => Env.get q 7) he3
    simp only [go_sem, Nat.reduceEqDiff, reduceIte, f7_2] at f7_3
    have f8_3 := congrArg (fun q => Env.get q 8) he3
    simp only [go_sem, Nat.reduceEqDiff, reduceIte] at f8_3
    clear he3 f2_2 f3_2 f4_2 f6_2 f7_2
    refine W.thenN ?_
    refine W.cond f8_3 (fun hc4 => ?_) (fun hc4 => ?_)
    · first
      | (cases hc4; done)
      | (exfalso; simp only [decide_eq_true_eq, decide_eq_false_iff_not, Bool.not_eq_true', Bool.not_eq_false', Bool.not_eq_eq_eq_not, Bool.not_true, Bool.not_false] at hc4; omega)
      | (skip
         try simp only [decide_eq_true_eq, decide_eq_false_iff_not, Bool.not_eq_true', Bool.not_eq_false', Bool.not_eq_eq_eq_not, Bool.not_true, Bool.not_false] at hc4
         refine W.seq ?_
         refine W.region (fun K hK => ?_)
         have q43 := c43 (gt l i).hi 1 (by omega) (by omega)
         simp (config := { maxSteps := 10000000 }) only [go_sem, ↓forkQ_true, ↓forkQ_false, ↓guardQ_some, ↓resQ_val, ↓resQ_unit, ↓resQ_enter, ↓retQ_some, ↓resFQ_val, ↓resFQ_unit, ↓resFQ_enter, ↓retFQ_some, Nat.reduceEqDiff, reduceIte, Nat.reduceAdd, Nat.reduceMul, Nat.reduceSub, reduceCtorEq, Nat.reduceLeDiff, f2_3, f3_3, f4_3, f6_3, f7_3, f8_3, q43]
         refine hK _ _ ?_
         clear hK K
         refine W.forget (fun e5 he5 => ?_)
         have f6_5 := congrArg (fun q => Env.get q 6) he5
         simp only [go_sem, Nat.reduceEqDiff, reduceIte, f6_3] at f6_5
         have f7_5 := congrArg (fun q => Env.get q 7) he5
         simp only [go_sem, Nat.reduceEqDiff, reduceIte, f7_3] at f7_5
         clear he5 f2_3 f3_3 f4_3 f6_3 f7_3 f8_3
         refine W.thenN ?_
         refine W.ret ?_
         refine W.blockR ?_
         refine W.thenR ?_
         rw [flatQ_ret]
         refine ⟨by simp only [go_sem, ↓forkQ_true, ↓forkQ_false, ↓guardQ_some, ↓resQ_val, ↓resQ_unit, ↓resQ_enter, ↓retQ_some, ↓resFQ_val, ↓resFQ_unit, ↓resFQ_enter, ↓retFQ_some, Nat.reduceEqDiff, reduceIte, Nat.reduceAdd, Nat.reduceMul, Nat.reduceSub, reduceCtorEq, Nat.reduceLeDiff], ?_⟩
         simp only [go_sem, ↓forkQ_true, ↓forkQ_false, ↓guardQ_some, ↓resQ_val, ↓resQ_unit, ↓resQ_enter, ↓retQ_some, ↓resFQ_val, ↓resFQ_unit, ↓resFQ_enter, ↓retFQ_some, Nat.reduceEqDiff, reduceIte, Nat.reduceAdd, Nat.reduceMul, Nat.reduceSub, reduceCtorEq, Nat.reduceLeDiff, f6_5, f7_5]
         first
           | (rw [show bP l x i j = some _ from by unfold bP; rw [if_pos (by omega)]]; rfl)
           | (rw [show bP l x i j = some _ from by unfold bP; rw [if_neg (by omega), if_pos ⟨by omega, by omega⟩]]; rfl)
           | (rw [show bP l x i j = some _ from by unfold bP; rw [if_neg (by omega), if_neg (by omega), if_pos ⟨by omega, by omega⟩]]; rfl)
           | (rw [show bP l x i j = some _ from by unfold bP; rw [if_neg (by omega), if_neg (by omega), if_neg (by omega), if_pos ⟨by omega, by omega⟩]]; rfl)
           | (rw [show bP l x i j = none from by unfold bP; rw [if_neg (by omega), if_neg (by omega), if_neg (by omega), if_neg (by omega)]]; rfl))
    · first
      | (cases hc4; done)
      | (exfalso; simp only [decide_eq_true_eq, decide_eq_false_iff_not, Bool.not_eq_true', Bool.not_eq_false', Bool.not_eq_eq_eq_not, Bool.not_true, Bool.not_false] at hc4; omega)
      | (skip
         try simp only [decide_eq_true_eq, decide_eq_false_iff_not, Bool.not_eq_true', Bool.not_eq_false', Bool.not_eq_eq_eq_not, Bool.not_true, Bool.not_false] at hc4
         refine W.seq ?_
         refine W.regionA (fun A hA K hK => ?_)
         have gd4 := guardAt hA (j := 4) (d := 21) rfl
         clear hA
         simp (config := { maxSteps := 10000000 }) only [go_sem, ↓forkQ_true, ↓forkQ_false, ↓guardQ_some, ↓resQ_val, ↓resQ_unit, ↓resQ_enter, ↓retQ_some, ↓resFQ_val, ↓resFQ_unit, ↓resFQ_enter, ↓retFQ_some, Nat.reduceEqDiff, reduceIte, Nat.reduceAdd, Nat.reduceMul, Nat.reduceSub, reduceCtorEq, Nat.reduceLeDiff, f2_3, f3_3, f4_3, f6_3, f7_3, f8_3, gd4]
         repeat' (first | (refine W.forkP (fun hc6 => ?_) (fun hc6 => ?_) <;> simp (config := { maxSteps := 10000000 }) only [go_sem, ↓forkQ_true, ↓forkQ_false, ↓guardQ_some, ↓resQ_val, ↓resQ_unit, ↓resQ_enter, ↓retQ_some, ↓resFQ_val, ↓resFQ_unit, ↓resFQ_enter, ↓retFQ_some, Nat.reduceEqDiff, reduceIte, Nat.reduceAdd, Nat.reduceMul, Nat.reduceSub, reduceCtorEq, Nat.reduceLeDiff, f2_3, f3_3, f4_3, f6_3, f7_3, f8_3, gd4, hc6]) | (refine W.fork (fun hc6 => ?_) (fun hc6 => ?_) <;> simp (config := { maxSteps := 10000000 }) only [go_sem, ↓forkQ_true, ↓forkQ_false, ↓guardQ_some, ↓resQ_val, ↓resQ_unit, ↓resQ_enter, ↓retQ_some, ↓resFQ_val, ↓resFQ_unit, ↓resFQ_enter, ↓retFQ_some, Nat.reduceEqDiff, reduceIte, Nat.reduceAdd, Nat.reduceMul, Nat.reduceSub, reduceCtorEq, Nat.reduceLeDiff, f2_3, f3_3, f4_3, f6_3, f7_3, f8_3, gd4, hc6]))
         all_goals
           refine hK _ _ ?_
           clear hK K A gd4
           refine W.forget (fun e6 he6 => ?_)
           have f2_6 := congrArg (fun q => Env.get q 2) he6
           simp only [go_sem, Nat.reduceEqDiff, reduceIte, f2_3] at f2_6
           have f3_6 := congrArg (fun q => Env.get q 3) he6
           simp only [go_sem, Nat.reduceEqDiff, reduceIte, f3_3] at f3_6
           have f4_6 := congrArg (fun q => Env.get q 4) he6
           simp only [go_sem, Nat.reduceEqDiff, reduceIte, f4_3] at f4_6
           have f6_6 := congrArg (fun q => Env.get q 6) he6
           simp only [go_sem, Nat.reduceEqDiff, reduceIte, f6_3] at f6_6
           have f7_6 := congrArg (fun q => Env.get q 7) he6
           simp only [go_sem, Nat.reduceEqDiff, reduceIte, f7_3] at f7_6
           have f16_6 := congrArg (fun q => Env.get q 16) he6
           simp only [go_sem, Nat.reduceEqDiff, reduceIte] at f16_6
           clear he6 f2_3 f3_3 f4_3 f6_3 f7_3 f8_3
           refine W.thenN ?_
           refine W.cond f16_6 (fun hc7 => ?_) (fun hc7 => ?_)
           · first
             | (cases hc7; done)
             | (exfalso; simp only [decide_eq_true_eq, decide_eq_false_iff_not, Bool.not_eq_true', Bool.not_eq_false', Bool.not_eq_eq_eq_not, Bool.not_true, Bool.not_false] at hc7; omega)
             | (skip
                try simp only [decide_eq_true_eq, decide_eq_false_iff_not, Bool.not_eq_true', Bool.not_eq_false', Bool.not_eq_eq_eq_not, Bool.not_true, Bool.not_false] at hc7
                refine W.seq ?_
                refine W.region (fun K hK => ?_)
                have s0 : wrapF .i64 ((gt l j).x - x) = (gt l j).x - x := w64_in _ (by omega)
                have s1 : wrapF .i64 (x - (gt l i).x) = x - (gt l i).x := w64_in _ (by omega)
                have s2 : wrapF .i64 ((gt l j).x - (gt l i).x) = (gt l j).x - (gt l i).x := w64_in _ (by omega)
                have p1 := mul_bd (a := (gt l i).hi) (b := (gt l j).x - x) (A := 1073741824) (B := 1073741824) (by omega) (by omega)
                have p2 := mul_bd (a := (gt l j).hi) (b := x - (gt l i).x) (A := 2147483648) (B := 1073741824) (by omega) (by omega)
                have m1 : wrapF .i64 ((gt l i).hi * ((gt l j).x - x)) = (gt l i).hi * ((gt l j).x - x) := w64_in _ (by omega)
                have m2 : wrapF .i64 ((gt l j).hi * (x - (gt l i).x)) = (gt l j).hi * (x - (gt l i).x) := w64_in _ (by omega)
                have a1 : wrapF .i64 ((gt l i).hi * ((gt l j).x - x) + (gt l j).hi * (x - (gt l i).x)) = (gt l i).hi * ((gt l j).x - x) + (gt l j).hi * (x - (gt l i).x) := w64_in _ (by omega)
                have q43 := c43 ((gt l i).hi * ((gt l j).x - x) + (gt l j).hi * (x - (gt l i).x)) ((gt l j).x - (gt l i).x) (by omega) (by omega)
                simp (config := { maxSteps := 10000000 }) only [go_sem, ↓forkQ_true, ↓forkQ_false, ↓guardQ_some, ↓resQ_val, ↓resQ_unit, ↓resQ_enter, ↓retQ_some, ↓resFQ_val, ↓resFQ_unit, ↓resFQ_enter, ↓retFQ_some, Nat.reduceEqDiff, reduceIte, Nat.reduceAdd, Nat.reduceMul, Nat.reduceSub, reduceCtorEq, Nat.reduceLeDiff, f2_6, f3_6, f4_6, f6_6, f7_6, f16_6, s0, s1, s2, m1, m2, a1, q43]
                refine hK _ _ ?_
                clear hK K
                refine W.forget (fun e8 he8 => ?_)
                have f6_8 := congrArg (fun q => Env.get q 6) he8
                simp only [go_sem, Nat.reduceEqDiff, reduceIte, f6_6] at f6_8
                have f7_8 := congrArg (fun q => Env.get q 7) he8
                simp only [go_sem, Nat.reduceEqDiff, reduceIte, f7_6] at f7_8
                clear he8 f2_6 f3_6 f4_6 f6_6 f7_6 f16_6
                refine W.thenN ?_
                refine W.ret ?_
                refine W.blockR ?_
                refine W.thenR ?_
                rw [flatQ_ret]
                refine ⟨by simp only [go_sem, ↓forkQ_true, ↓forkQ_false, ↓guardQ_some, ↓resQ_val, ↓resQ_unit, ↓resQ_enter, ↓retQ_some, ↓resFQ_val, ↓resFQ_unit, ↓resFQ_enter, ↓retFQ_some, Nat.reduceEqDiff, reduceIte, Nat.reduceAdd, Nat.reduceMul, Nat.reduceSub, reduceCtorEq, Nat.reduceLeDiff], ?_⟩
                simp only [go_sem, ↓forkQ_true, ↓forkQ_false, ↓guardQ_some, ↓resQ_val, ↓resQ_unit, ↓resQ_enter, ↓retQ_some, ↓resFQ_val, ↓resFQ_unit, ↓resFQ_enter, ↓retFQ_some, Nat.reduceEqDiff, reduceIte, Nat.reduceAdd, Nat.reduceMul, Nat.reduceSub, reduceCtorEq, Nat.reduceLeDiff, f6_8, f7_8]
                first
                  | (rw [show bP l x i j = some _ from by unfold bP; rw [if_pos (by omega)]]; rfl)
                  | (rw [show bP l x i j = some _ from by unfold bP; rw [if_neg (by omega), if_pos ⟨by omega, by omega⟩]]; rfl)
                  | (rw [show bP l x i j = some _ from by unfold bP; rw [if_neg (by omega), if_neg (by omega), if_pos ⟨by omega, by omega⟩]]; rfl)
                  | (rw [show bP l x i j = some _ from by unfold bP; rw [if_neg (by omega), if_neg (by omega), if_neg (by omega), if_pos ⟨by omega, by omega⟩]]; rfl)
                  | (rw [show bP l x i j = none from by unfold bP; rw [if_neg (by omega), if_neg (by omega), if_neg (by omega), if_neg (by omega)]]; rfl))
           · first
             | (cases hc7; done)
             | (exfalso; simp only [decide_eq_true_eq, decide_eq_false_iff_not, Bool.not_eq_true', Bool.not_eq_false', Bool.not_eq_eq_eq_not, Bool.not_true, Bool.not_false] at hc7; omega)
             | (skip
                try simp only [decide_eq_true_eq, decide_eq_false_iff_not, Bool.not_eq_true', Bool.not_eq_false', Bool.not_eq_eq_eq_not, Bool.not_true, Bool.not_false] at hc7
                refine W.seq ?_
                refine W.regionA (fun A hA K hK => ?_)
                have gd5 := guardAt hA (j := 5) (d := 54) rfl
                clear hA
                simp (config := { maxSteps := 10000000 }) only [go_sem, ↓forkQ_true, ↓forkQ_false, ↓guardQ_some, ↓resQ_val, ↓resQ_unit, ↓resQ_enter, ↓retQ_some, ↓resFQ_val, ↓resFQ_unit, ↓resFQ_enter, ↓retFQ_some, Nat.reduceEqDiff, reduceIte, Nat.reduceAdd, Nat.reduceMul, Nat.reduceSub, reduceCtorEq, Nat.reduceLeDiff, f2_6, f3_6, f4_6, f6_6, f7_6, f16_6, gd5]
                repeat' (first | (refine W.forkP (fun hc9 => ?_) (fun hc9 => ?_) <;> simp (config := { maxSteps := 10000000 }) only [go_sem, ↓forkQ_true, ↓forkQ_false, ↓guardQ_some, ↓resQ_val, ↓resQ_unit, ↓resQ_enter, ↓retQ_some, ↓resFQ_val, ↓resFQ_unit, ↓resFQ_enter, ↓retFQ_some, Nat.reduceEqDiff, reduceIte, Nat.reduceAdd, Nat.reduceMul, Nat.reduceSub, reduceCtorEq, Nat.reduceLeDiff, f2_6, f3_6, f4_6, f6_6, f7_6, f16_6, gd5, hc9]) | (refine W.fork (fun hc9 => ?_) (fun hc9 => ?_) <;> simp (config := { maxSteps := 10000000 }) only [go_sem, ↓forkQ_true, ↓forkQ_false, ↓guardQ_some, ↓resQ_val, ↓resQ_unit, ↓resQ_enter, ↓retQ_some, ↓resFQ_val, ↓resFQ_unit, ↓resFQ_enter, ↓retFQ_some, Nat.reduceEqDiff, reduceIte, Nat.reduceAdd, Nat.reduceMul, Nat.reduceSub, reduceCtorEq, Nat.reduceLeDiff, f2_6, f3_6, f4_6, f6_6, f7_6, f16_6, gd5, hc9]))
                all_goals
                  refine hK _ _ ?_
                  clear hK K A gd5
                  refine W.forget (fun e9 he9 => ?_)
                  have f2_9 := congrArg (fun q => Env.get q 2) he9
                  simp only [go_sem, Nat.reduceEqDiff, reduceIte, f2_6] at f2_9
                  have f3_9 := congrArg (fun q => Env.get q 3) he9
                  simp only [go_sem, Nat.reduceEqDiff, reduceIte, f3_6] at f3_9
                  have f4_9 := congrArg (fun q => Env.get q 4) he9
                  simp only [go_sem, Nat.reduceEqDiff, reduceIte, f4_6] at f4_9
                  have f6_9 := congrArg (fun q => Env.get q 6) he9
                  simp only [go_sem, Nat.reduceEqDiff, reduceIte, f6_6] at f6_9
                  have f7_9 := congrArg (fun q => Env.get q 7) he9
                  simp only [go_sem, Nat.reduceEqDiff, reduceIte, f7_6] at f7_9
                  have f48_9 := congrArg (fun q => Env.get q 48) he9
                  simp only [go_sem, Nat.reduceEqDiff, reduceIte] at f48_9
                  clear he9 f2_6 f3_6 f4_6 f6_6 f7_6 f16_6
                  refine W.thenN ?_
                  refine W.cond f48_9 (fun hc10 => ?_) (fun hc10 => ?_)
                  · first
                    | (cases hc10; done)
                    | (exfalso; simp only [decide_eq_true_eq, decide_eq_false_iff_not, Bool.not_eq_true', Bool.not_eq_false', Bool.not_eq_eq_eq_not, Bool.not_true, Bool.not_false] at hc10; omega)
                    | (skip
                       try simp only [decide_eq_true_eq, decide_eq_false_iff_not, Bool.not_eq_true', Bool.not_eq_false', Bool.not_eq_eq_eq_not, Bool.not_true, Bool.not_false] at hc10
                       refine W.seq ?_
                       refine W.region (fun K hK => ?_)
                       have s0 : wrapF .i64 ((gt l i).x - (gt l j).x) = (gt l i).x - (gt l j).x := w64_in _ (by omega)
                       have s1 : wrapF .i64 (x - (gt l i).x) = x - (gt l i).x := w64_in _ (by omega)
                       have s2 : wrapF .i64 ((gt l i).hi - (gt l j).lo) = (gt l i).hi - (gt l j).lo := w64_in _ (by omega)
                       have p1 := mul_bd (a := (gt l i).hi) (b := (gt l i).x - (gt l j).x) (A := 1073741824) (B := 1073741824) (by omega) (by omega)
                       have p2 := mul_bd (a := ((gt l i).hi - (gt l j).lo)) (b := x - (gt l i).x) (A := 2147483648) (B := 1073741824) (by omega) (by omega)
                       have m1 : wrapF .i64 ((gt l i).hi * ((gt l i).x - (gt l j).x)) = (gt l i).hi * ((gt l i).x - (gt l j).x) := w64_in _ (by omega)
                       have m2 : wrapF .i64 ((x - (gt l i).x) * ((gt l i).hi - (gt l j).lo)) = ((gt l i).hi - (gt l j).lo) * (x - (gt l i).x) := by rw [Int.mul_comm]; exact w64_in _ (by omega)
                       have a1 : wrapF .i64 ((gt l i).hi * ((gt l i).x - (gt l j).x) + ((gt l i).hi - (gt l j).lo) * (x - (gt l i).x)) = (gt l i).hi * ((gt l i).x - (gt l j).x) + ((gt l i).hi - (gt l j).lo) * (x - (gt l i).x) := w64_in _ (by omega)
                       have q43 := c43 ((gt l i).hi * ((gt l i).x - (gt l j).x) + ((gt l i).hi - (gt l j).lo) * (x - (gt l i).x)) ((gt l i).x - (gt l j).x) (by omega) (by omega)
                       simp (config := { maxSteps := 10000000 }) only [go_sem, ↓forkQ_true, ↓forkQ_false, ↓guardQ_some, ↓resQ_val, ↓resQ_unit, ↓resQ_enter, ↓retQ_some, ↓resFQ_val, ↓resFQ_unit, ↓resFQ_enter, ↓retFQ_some, Nat.reduceEqDiff, reduceIte, Nat.reduceAdd, Nat.reduceMul, Nat.reduceSub, reduceCtorEq, Nat.reduceLeDiff, f2_9, f3_9, f4_9, f6_9, f7_9, f48_9, s0, s1, s2, m1, m2, a1, q43]
                       refine hK _ _ ?_
                       clear hK K
                       refine W.forget (fun e11 he11 => ?_)
                       have f6_11 := congrArg (fun q => Env.get q 6) he11
                       simp only [go_sem, Nat.reduceEqDiff, reduceIte, f6_9] at f6_11
                       have f7_11 := congrArg (fun q => Env.get q 7) he11
                       simp only [go_sem, Nat.reduceEqDiff, reduceIte, f7_9] at f7_11
                       clear he11 f2_9 f3_9 f4_9 f6_9 f7_9 f48_9
                       refine W.thenN ?_
                       refine W.ret ?_
                       refine W.blockR ?_
                       refine W.thenR ?_
                       rw [flatQ_ret]
                       refine ⟨by simp only [go_sem, ↓forkQ_true, ↓forkQ_false, ↓guardQ_some, ↓resQ_val, ↓resQ_unit, ↓resQ_enter, ↓retQ_some, ↓resFQ_val, ↓resFQ_unit, ↓resFQ_enter, ↓retFQ_some, Nat.reduceEqDiff, reduceIte, Nat.reduceAdd, Nat.reduceMul, Nat.reduceSub, reduceCtorEq, Nat.reduceLeDiff], ?_⟩
                       simp only [go_sem, ↓forkQ_true, ↓forkQ_false, ↓guardQ_some, ↓resQ_val, ↓resQ_unit, ↓resQ_enter, ↓retQ_some, ↓resFQ_val, ↓resFQ_unit, ↓resFQ_enter, ↓retFQ_some, Nat.reduceEqDiff, reduceIte, Nat.reduceAdd, Nat.reduceMul, Nat.reduceSub, reduceCtorEq, Nat.reduceLeDiff, f6_11, f7_11]
                       first
                         | (rw [show bP l x i j = some _ from by unfold bP; rw [if_pos (by omega)]]; rfl)
                         | (rw [show bP l x i j = some _ from by unfold bP; rw [if_neg (by omega), if_pos ⟨by omega, by omega⟩]]; rfl)
                         | (rw [show bP l x i j = some _ from by unfold bP; rw [if_neg (by omega), if_neg (by omega), if_pos ⟨by omega, by omega⟩]]; rfl)
                         | (rw [show bP l x i j = some _ from by unfold bP; rw [if_neg (by omega), if_neg (by omega), if_neg (by omega), if_pos ⟨by omega, by omega⟩]]; rfl)
                         | (rw [show bP l x i j = none from by unfold bP; rw [if_neg (by omega), if_neg (by omega), if_neg (by omega), if_neg (by omega)]]; rfl))
                  · first
                    | (cases hc10; done)
                    | (exfalso; simp only [decide_eq_true_eq, decide_eq_false_iff_not, Bool.not_eq_true', Bool.not_eq_false', Bool.not_eq_eq_eq_not, Bool.not_true, Bool.not_false] at hc10; omega)
                    | (skip
                       try simp only [decide_eq_true_eq, decide_eq_false_iff_not, Bool.not_eq_true', Bool.not_eq_false', Bool.not_eq_eq_eq_not, Bool.not_true, Bool.not_false] at hc10
                       refine W.seq ?_
                       refine W.regionA (fun A hA K hK => ?_)
                       have gd4 := guardAt hA (j := 4) (d := 90) rfl
                       clear hA
                       simp (config := { maxSteps := 10000000 }) only [go_sem, ↓forkQ_true, ↓forkQ_false, ↓guardQ_some, ↓resQ_val, ↓resQ_unit, ↓resQ_enter, ↓retQ_some, ↓resFQ_val, ↓resFQ_unit, ↓resFQ_enter, ↓retFQ_some, Nat.reduceEqDiff, reduceIte, Nat.reduceAdd, Nat.reduceMul, Nat.reduceSub, reduceCtorEq, Nat.reduceLeDiff, f2_9, f3_9, f4_9, f6_9, f7_9, f48_9, gd4]
                       repeat' (first | (refine W.forkP (fun hc12 => ?_) (fun hc12 => ?_) <;> simp (config := { maxSteps := 10000000 }) only [go_sem, ↓forkQ_true, ↓forkQ_false, ↓guardQ_some, ↓resQ_val, ↓resQ_unit, ↓resQ_enter, ↓retQ_some, ↓resFQ_val, ↓resFQ_unit, ↓resFQ_enter, ↓retFQ_some, Nat.reduceEqDiff, reduceIte, Nat.reduceAdd, Nat.reduceMul, Nat.reduceSub, reduceCtorEq, Nat.reduceLeDiff, f2_9, f3_9, f4_9, f6_9, f7_9, f48_9, gd4, hc12]) | (refine W.fork (fun hc12 => ?_) (fun hc12 => ?_) <;> simp (config := { maxSteps := 10000000 }) only [go_sem, ↓forkQ_true, ↓forkQ_false, ↓guardQ_some, ↓resQ_val, ↓resQ_unit, ↓resQ_enter, ↓retQ_some, ↓resFQ_val, ↓resFQ_unit, ↓resFQ_enter, ↓retFQ_some, Nat.reduceEqDiff, reduceIte, Nat.reduceAdd, Nat.reduceMul, Nat.reduceSub, reduceCtorEq, Nat.reduceLeDiff, f2_9, f3_9, f4_9, f6_9, f7_9, f48_9, gd4, hc12]))
                       all_goals
                         refine hK _ _ ?_
                         clear hK K A gd4
                         refine W.forget (fun e12 he12 => ?_)
                         have f2_12 := congrArg (fun q => Env.get q 2) he12
                         simp only [go_sem, Nat.reduceEqDiff, reduceIte, f2_9] at f2_12
                         have f3_12 := congrArg (fun q => Env.get q 3) he12
                         simp only [go_sem, Nat.reduceEqDiff, reduceIte, f3_9] at f3_12
                         have f4_12 := congrArg (fun q => Env.get q 4) he12
                         simp only [go_sem, Nat.reduceEqDiff, reduceIte, f4_9] at f4_12
                         have f6_12 := congrArg (fun q => Env.get q 6) he12
                         simp only [go_sem, Nat.reduceEqDiff, reduceIte, f6_9] at f6_12
                         have f7_12 := congrArg (fun q => Env.get q 7) he12
                         simp only [go_sem, Nat.reduceEqDiff, reduceIte, f7_9] at f7_12
                         have f85_12 := congrArg (fun q => Env.get q 85) he12
                         simp only [go_sem, Nat.reduceEqDiff, reduceIte] at f85_12
                         clear he12 f2_9 f3_9 f4_9 f6_9 f7_9 f48_9
                         refine W.thenN ?_
                         refine W.cond f85_12 (fun hc13 => ?_) (fun hc13 => ?_)
                         · first
                           | (cases hc13; done)
                           | (exfalso; simp only [decide_eq_true_eq, decide_eq_false_iff_not, Bool.not_eq_true', Bool.not_eq_false', Bool.not_eq_eq_eq_not, Bool.not_true, Bool.not_false] at hc13; omega)
                           | (skip
                              try simp only [decide_eq_true_eq, decide_eq_false_iff_not, Bool.not_eq_true', Bool.not_eq_false', Bool.not_eq_eq_eq_not, Bool.not_true, Bool.not_false] at hc13
                              refine W.seq ?_
                              refine W.region (fun K hK => ?_)
                              have s0 : wrapF .i64 ((gt l j).x - (gt l i).x) = (gt l j).x - (gt l i).x := w64_in _ (by omega)
                              have s1 : wrapF .i64 ((gt l i).x - x) = (gt l i).x - x := w64_in _ (by omega)
                              have s2 : wrapF .i64 ((gt l i).hi - (gt l j).lo) = (gt l i).hi - (gt l j).lo := w64_in _ (by omega)
                              have p1 := mul_bd (a := (gt l i).hi) (b := (gt l j).x - (gt l i).x) (A := 1073741824) (B := 1073741824) (by omega) (by omega)
                              have p2 := mul_bd (a := ((gt l i).hi - (gt l j).lo)) (b := (gt l i).x - x) (A := 2147483648) (B := 1073741824) (by omega) (by omega)
                              have m1 : wrapF .i64 ((gt l i).hi * ((gt l j).x - (gt l i).x)) = (gt l i).hi * ((gt l j).x - (gt l i).x) := w64_in _ (by omega)
                              have m2 : wrapF .i64 (((gt l i).x - x) * ((gt l i).hi - (gt l j).lo)) = ((gt l i).hi - (gt l j).lo) * ((gt l i).x - x) := by rw [Int.mul_comm]; exact w64_in _ (by omega)
                              have a1 : wrapF .i64 ((gt l i).hi * ((gt l j).x - (gt l i).x) + ((gt l i).hi - (gt l j).lo) * ((gt l i).x - x)) = (gt l i).hi * ((gt l j).x - (gt l i).x) + ((gt l i).hi - (gt l j).lo) * ((gt l i).x - x) := w64_in _ (by omega)
                              have q43 := c43 ((gt l i).hi * ((gt l j).x - (gt l i).x) + ((gt l i).hi - (gt l j).lo) * ((gt l i).x - x)) ((gt l j).x - (gt l i).x) (by omega) (by omega)
                              simp (config := { maxSteps := 10000000 }) only [go_sem, ↓forkQ_true, ↓forkQ_false, ↓guardQ_some, ↓resQ_val, ↓resQ_unit, ↓resQ_enter, ↓retQ_some, ↓resFQ_val, ↓resFQ_unit, ↓resFQ_enter, ↓retFQ_some, Nat.reduceEqDiff, reduceIte, Nat.reduceAdd, Nat.reduceMul, Nat.reduceSub, reduceCtorEq, Nat.reduceLeDiff, f2_12, f3_12, f4_12, f6_12, f7_12, f85_12, s0, s1, s2, m1, m2, a1, q43]
                              refine hK _ _ ?_
                              clear hK K
                              refine W.forget (fun e14 he14 => ?_)
                              have f6_14 := congrArg (fun q => Env.get q 6) he14
                              simp only [go_sem, Nat.reduceEqDiff, reduceIte, f6_12] at f6_14
                              have f7_14 := congrArg (fun q => Env.get q 7) he14
                              simp only [go_sem, Nat.reduceEqDiff, reduceIte, f7_12] at f7_14
                              clear he14 f2_12 f3_12 f4_12 f6_12 f7_12 f85_12
                              refine W.thenN ?_
                              refine W.ret ?_
                              refine W.blockR ?_
                              refine W.thenR ?_
                              rw [flatQ_ret]
                              refine ⟨by simp only [go_sem, ↓forkQ_true, ↓forkQ_false, ↓guardQ_some, ↓resQ_val, ↓resQ_unit, ↓resQ_enter, ↓retQ_some, ↓resFQ_val, ↓resFQ_unit, ↓resFQ_enter, ↓retFQ_some, Nat.reduceEqDiff, reduceIte, Nat.reduceAdd, Nat.reduceMul, Nat.reduceSub, reduceCtorEq, Nat.reduceLeDiff], ?_⟩
                              simp only [go_sem, ↓forkQ_true, ↓forkQ_false, ↓guardQ_some, ↓resQ_val, ↓resQ_unit, ↓resQ_enter, ↓retQ_some, ↓resFQ_val, ↓resFQ_unit, ↓resFQ_enter, ↓retFQ_some, Nat.reduceEqDiff, reduceIte, Nat.reduceAdd, Nat.reduceMul, Nat.reduceSub, reduceCtorEq, Nat.reduceLeDiff, f6_14, f7_14]
                              first
                                | (rw [show bP l x i j = some _ from by unfold bP; rw [if_pos (by omega)]]; rfl)
                                | (rw [show bP l x i j = some _ from by unfold bP; rw [if_neg (by omega), if_pos ⟨by omega, by omega⟩]]; rfl)
                                | (rw [show bP l x i j = some _ from by unfold bP; rw [if_neg (by omega), if_neg (by omega), if_pos ⟨by omega, by omega⟩]]; rfl)
                                | (rw [show bP l x i j = some _ from by unfold bP; rw [if_neg (by omega), if_neg (by omega), if_neg (by omega), if_pos ⟨by omega, by omega⟩]]; rfl)
                                | (rw [show bP l x i j = none from by unfold bP; rw [if_neg (by omega), if_neg (by omega), if_neg (by omega), if_neg (by omega)]]; rfl))
                         · first
                           | (cases hc13; done)
                           | (exfalso; simp only [decide_eq_true_eq, decide_eq_false_iff_not, Bool.not_eq_true', Bool.not_eq_false', Bool.not_eq_eq_eq_not, Bool.not_true, Bool.not_false] at hc13; omega)
                           | (skip
                              try simp only [decide_eq_true_eq, decide_eq_false_iff_not, Bool.not_eq_true', Bool.not_eq_false', Bool.not_eq_eq_eq_not, Bool.not_true, Bool.not_false] at hc13
                              refine W.skip ?_
                              refine W.blockN ?_
                              refine W.thenN ?_
                              refine W.seq ?_
                              refine W.region (fun K hK => ?_)
                              simp (config := { maxSteps := 10000000 }) only [go_sem, ↓forkQ_true, ↓forkQ_false, ↓guardQ_some, ↓resQ_val, ↓resQ_unit, ↓resQ_enter, ↓retQ_some, ↓resFQ_val, ↓resFQ_unit, ↓resFQ_enter, ↓retFQ_some, Nat.reduceEqDiff, reduceIte, Nat.reduceAdd, Nat.reduceMul, Nat.reduceSub, reduceCtorEq, Nat.reduceLeDiff, f2_12, f3_12, f4_12, f6_12, f7_12, f85_12]
                              refine hK _ _ ?_
                              clear hK K
                              refine W.forget (fun e15 he15 => ?_)
                              have f6_15 := congrArg (fun q => Env.get q 6) he15
                              simp only [go_sem, Nat.reduceEqDiff, reduceIte, f6_12] at f6_15
                              have f7_15 := congrArg (fun q => Env.get q 7) he15
                              simp only [go_sem, Nat.reduceEqDiff, reduceIte, f7_12] at f7_15
                              clear he15 f2_12 f3_12 f4_12 f6_12 f7_12 f85_12
                              refine W.thenN ?_
                              refine W.ret ?_
                              rw [flatQ_ret]
                              refine ⟨by simp only [go_sem, ↓forkQ_true, ↓forkQ_false, ↓guardQ_some, ↓resQ_val, ↓resQ_unit, ↓resQ_enter, ↓retQ_some, ↓resFQ_val, ↓resFQ_unit, ↓resFQ_enter, ↓retFQ_some, Nat.reduceEqDiff, reduceIte, Nat.reduceAdd, Nat.reduceMul, Nat.reduceSub, reduceCtorEq, Nat.reduceLeDiff], ?_⟩
                              simp only [go_sem, ↓forkQ_true, ↓forkQ_false, ↓guardQ_some, ↓resQ_val, ↓resQ_unit, ↓resQ_enter, ↓retQ_some, ↓resFQ_val, ↓resFQ_unit, ↓resFQ_enter, ↓retFQ_some, Nat.reduceEqDiff, reduceIte, Nat.reduceAdd, Nat.reduceMul, Nat.reduceSub, reduceCtorEq, Nat.reduceLeDiff, f6_15, f7_15]
                              first
                                | (rw [show bP l x i j = some _ from by unfold bP; rw [if_pos (by omega)]]; rfl)
                                | (rw [show bP l x i j = some _ from by unfold bP; rw [if_neg (by omega), if_pos ⟨by omega, by omega⟩]]; rfl)
                                | (rw [show bP l x i j = some _ from by unfold bP; rw [if_neg (by omega), if_neg (by omega), if_pos ⟨by omega, by omega⟩]]; rfl)
                                | (rw [show bP l x i j = some _ from by unfold bP; rw [if_neg (by omega), if_neg (by omega), if_neg (by omega), if_pos ⟨by omega, by omega⟩]]; rfl)
                                | (rw [show bP l x i j = none from by unfold bP; rw [if_neg (by omega), if_neg (by omega), if_neg (by omega), if_neg (by omega)]]; rfl)))))
  · rfl
end Go.Proofs.Ytlblocieleildaa
