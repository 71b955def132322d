/- What the small functions of the program give. -/
import Derived.Test.YtlblocieleildaaSk1
set_option linter.unusedSimpArgs false
set_option linter.unusedVariables false
namespace Go.Proofs.Ytlblocieleildaa
open Go.Am

def turnZ (a b c d x y : Int) : Int := wrapF .i64 (wrapF .i64 (wrapF .i64 (c - a) * wrapF .i64 (y - b)) - wrapF .i64 (wrapF .i64 (x - a) * wrapF .i64 (d - b)))
theorem c34 (a b c d x y : Int) (h : Heap) : callW Try.prog SkH 34 [.int .i64 a, .int .i64 b, .int .i64 c, .int .i64 d, .int .i64 x, .int .i64 y] h = some (.int .i64 (turnZ a b c d x y), h, true) := by
  unfold turnZ
  refine call_flat (rs := [.tmp 12]) [_] Try.func34 rfl rfl ?_ ?_
  rotate_left
  · simp only [go_sem, ↓forkQ_true, ↓forkQ_false, ↓guardQ_some, ↓resQ_val, ↓resQ_unit, ↓resQ_enter, ↓retQ_some, ↓resFQ_val, ↓resFQ_unit, ↓resFQ_enter, ↓retFQ_some, Nat.reduceEqDiff, reduceIte, Nat.reduceAdd, Nat.reduceMul, Nat.reduceSub, reduceCtorEq, Nat.reduceLeDiff, guardOf]
  · rfl
def flo (n d : Int) : Int × Int := if n.tmod d < 0 then (wrapF .i64 (wrapF .i64 (n.tdiv d) - 1), wrapF .i64 (n.tmod d + d)) else (wrapF .i64 (n.tdiv d), n.tmod d)
theorem c44 (n d : Int) (hd : d ≠ 0) (h : Heap) : callW Try.prog SkH 44 [.agg #[.int .i64 n, .int .i64 d]] h = some (.tuple #[.int .i64 (flo n d).1, .int .i64 (flo n d).2], h, true) := by
  unfold flo
  by_cases hl : n.tmod d < 0
  · rw [if_pos hl]
    refine call_flat (rs := [.tmp 2, .tmp 3]) [_, _] Try.func44 rfl rfl ?_ ?_
    rotate_left
    · simp only [go_sem, ↓forkQ_true, ↓forkQ_false, ↓guardQ_some, ↓resQ_val, ↓resQ_unit, ↓resQ_enter, ↓retQ_some, ↓resFQ_val, ↓resFQ_unit, ↓resFQ_enter, ↓retFQ_some, Nat.reduceEqDiff, reduceIte, Nat.reduceAdd, Nat.reduceMul, Nat.reduceSub, reduceCtorEq, Nat.reduceLeDiff, guardOf, hd, hl]
    · rfl
  · rw [if_neg hl]
    refine call_flat (rs := [.tmp 2, .tmp 3]) [_, _] Try.func44 rfl rfl ?_ ?_
    rotate_left
    · simp only [go_sem, ↓forkQ_true, ↓forkQ_false, ↓guardQ_some, ↓resQ_val, ↓resQ_unit, ↓resQ_enter, ↓retQ_some, ↓resFQ_val, ↓resFQ_unit, ↓resFQ_enter, ↓retFQ_some, Nat.reduceEqDiff, reduceIte, Nat.reduceAdd, Nat.reduceMul, Nat.reduceSub, reduceCtorEq, Nat.reduceLeDiff, guardOf, hd, hl]
    · rfl
def lessZ (n d m e : Int) : Bool := if (flo n d).1 = (flo m e).1 then decide (wrapF .i64 ((flo n d).2 * e) < wrapF .i64 ((flo m e).2 * d)) else decide ((flo n d).1 < (flo m e).1)
theorem c31 (n d m e : Int) (hd : d ≠ 0) (he : e ≠ 0) (h : Heap) : callW Try.prog SkH 31 [.agg #[.int .i64 n, .int .i64 d], .agg #[.int .i64 m, .int .i64 e]] h = some (.bool (lessZ n d m e), h, true) := by
  unfold lessZ
  by_cases hl : (flo n d).1 = (flo m e).1
  · rw [if_pos hl]
    refine call_flat (rs := [.tmp 4]) [_] Try.func31 rfl rfl ?_ ?_
    rotate_left
    · simp only [go_sem, ↓forkQ_true, ↓forkQ_false, ↓guardQ_some, ↓resQ_val, ↓resQ_unit, ↓resQ_enter, ↓retQ_some, ↓resFQ_val, ↓resFQ_unit, ↓resFQ_enter, ↓retFQ_some, Nat.reduceEqDiff, reduceIte, Nat.reduceAdd, Nat.reduceMul, Nat.reduceSub, reduceCtorEq, Nat.reduceLeDiff, guardOf, hd, he, hl, c44, ne_eq, not_false_eq_true]
    · rfl
  · rw [if_neg hl]
    refine call_flat (rs := [.tmp 4]) [_] Try.func31 rfl rfl ?_ ?_
    rotate_left
    · simp only [go_sem, ↓forkQ_true, ↓forkQ_false, ↓guardQ_some, ↓resQ_val, ↓resQ_unit, ↓resQ_enter, ↓retQ_some, ↓resFQ_val, ↓resFQ_unit, ↓resFQ_enter, ↓retFQ_some, Nat.reduceEqDiff, reduceIte, Nat.reduceAdd, Nat.reduceMul, Nat.reduceSub, reduceCtorEq, Nat.reduceLeDiff, guardOf, hd, he, hl, c44, ne_eq, not_false_eq_true]
    · rfl
theorem c33 (a b b' c d d' x y y' : Int) (h : Heap) : callW Try.prog SkH 33 [.agg #[.int .i64 a, .int .i64 b', .int .i64 b], .agg #[.int .i64 c, .int .i64 d', .int .i64 d], .agg #[.int .i64 x, .int .i64 y', .int .i64 y]] h = some (.bool (decide (0 < turnZ a b c d x y)), h, true) := by
  refine call_flat (rs := [.tmp 6]) [_] Try.func33 rfl rfl ?_ ?_
  rotate_left
  · simp only [go_sem, ↓forkQ_true, ↓forkQ_false, ↓guardQ_some, ↓resQ_val, ↓resQ_unit, ↓resQ_enter, ↓retQ_some, ↓resFQ_val, ↓resFQ_unit, ↓resFQ_enter, ↓retFQ_some, Nat.reduceEqDiff, reduceIte, Nat.reduceAdd, Nat.reduceMul, Nat.reduceSub, reduceCtorEq, Nat.reduceLeDiff, guardOf, c34]
  · rfl
theorem c36 (a b b' c d d' x y y' : Int) (h : Heap) : callW Try.prog SkH 36 [.agg #[.int .i64 a, .int .i64 b, .int .i64 b'], .agg #[.int .i64 c, .int .i64 d, .int .i64 d'], .agg #[.int .i64 x, .int .i64 y, .int .i64 y']] h = some (.bool (decide (turnZ a b c d x y < 0)), h, true) := by
  refine call_flat (rs := [.tmp 6]) [_] Try.func36 rfl rfl ?_ ?_
  rotate_left
  · simp only [go_sem, ↓forkQ_true, ↓forkQ_false, ↓guardQ_some, ↓resQ_val, ↓resQ_unit, ↓resQ_enter, ↓retQ_some, ↓resFQ_val, ↓resFQ_unit, ↓resFQ_enter, ↓retFQ_some, Nat.reduceEqDiff, reduceIte, Nat.reduceAdd, Nat.reduceMul, Nat.reduceSub, reduceCtorEq, Nat.reduceLeDiff, guardOf, c34]
  · rfl
end Go.Proofs.Ytlblocieleildaa
