/- What the reference's less and rat give. -/
import Derived.Test.YtlblocieleildaaSk13
import Derived.Test.YtlblocieleildaaSk15
set_option linter.unusedSimpArgs false
set_option linter.unusedVariables false
set_option maxRecDepth 20000
set_option maxHeartbeats 8000000
namespace Go.Proofs.Ytlblocieleildaa
open Go.Am

theorem c30 (n d m e : Int) (hd : d ≠ 0) (he : e ≠ 0) (h : Heap) : callW Try.prog SkH 30 [.agg #[.int .i64 n, .int .i64 d], .agg #[.int .i64 m, .int .i64 e]] h = some (.bool (lessZ n d m e), h, true) := by
  unfold lessZ flo
  by_cases h1 : n.tmod d < 0 <;> by_cases h2 : m.tmod e < 0
  all_goals
    first
    | rw [if_pos h1, if_pos h2]
    | rw [if_pos h1, if_neg h2]
    | rw [if_neg h1, if_pos h2]
    | rw [if_neg h1, if_neg h2]
    dsimp only
    split
    all_goals
      rename_i hl
      refine call_flat (rs := [.tmp 4]) [_] Try.func30 rfl rfl ?_ ?_
      rotate_left
      · simp only [go_sem, ↓forkQ_true, ↓forkQ_false, ↓guardQ_some, ↓resQ_val, ↓resQ_unit, ↓resQ_enter, ↓retQ_some, ↓resFQ_val, ↓resFQ_unit, ↓resFQ_enter, ↓retFQ_some, Nat.reduceEqDiff, reduceIte, Nat.reduceAdd, Nat.reduceMul, Nat.reduceSub, reduceCtorEq, Nat.reduceLeDiff, guardOf, hd, he, h1, h2, hl, ne_eq, not_false_eq_true]
      · rfl
theorem gcd_rem (x y : Int) : Int.gcd y (x.tmod y) = Int.gcd x y := by
  rw [Int.gcd_comm y (x.tmod y), gcd_tmod, Int.gcd_comm y x]
structure I43 (n d : Int) (h : Heap) (x y : Int) (e : Env) (h1 : Heap) : Prop where
  hp : h1 = (h.low h.next).alloc ⟨[.int .i64 0, .int .i64 0], true, false, none⟩
  e0 : e.get 0 = .int .i64 n
  e1 : e.get 1 = .int .i64 d
  e4 : e.get 4 = .pointer (some ⟨h.next, 0, none⟩)
  e5 : e.get 5 = .int .i64 x
  e6 : e.get 6 = .int .i64 y
  x0 : 0 ≤ x
  y0 : 0 ≤ y
  g : Int.gcd x y = Int.gcd n d
theorem c43 (n d : Int) (hn : -9223372036854775807 ≤ n ∧ n ≤ 9223372036854775807) (hd : 0 < d ∧ d ≤ 9223372036854775807) (h : Heap) : callW Try.prog SkH 43 [.int .i64 n, .int .i64 d] h = some (.agg #[.int .i64 (quoN n d), .int .i64 (quoD n d)], h, true) := by
  refine call_flat (rs := [.cell 4 26]) [_] Try.func43 rfl rfl ?_ ?_
  rotate_left
  · skip
    refine W.forget (fun e1 he1 => ?_)
    have f0_1 := congrArg (fun q => Env.get q 0) he1
    simp only [ofList_cons, ofList_nil, Env.put_some, Env.put_none, Env.get_set, Env.get_set, Nat.reduceEqDiff, reduceIte, if_true, if_false, eq_self] at f0_1
    have f1_1 := congrArg (fun q => Env.get q 1) he1
    simp only [ofList_cons, ofList_nil, Env.put_some, Env.put_none, Env.get_set, Env.get_set, Nat.reduceEqDiff, reduceIte, if_true, if_false, eq_self] at f1_1
    clear he1
    refine W.seq ?_
    refine W.region (fun K hK => ?_)
    simp (config := { maxSteps := 10000000 }) only [go_sem, ↓forkQ_true, ↓forkQ_false, ↓guardQ_some, ↓resQ_val, ↓resQ_unit, ↓resQ_enter, ↓retQ_some, ↓resFQ_val, ↓resFQ_unit, ↓resFQ_enter, ↓retFQ_some, Nat.reduceEqDiff, reduceIte, Nat.reduceAdd, Nat.reduceMul, Nat.reduceSub, reduceCtorEq, Nat.reduceLeDiff, f0_1, f1_1]
    refine hK _ _ ?_
    clear hK K
    refine W.forget (fun e2 he2 => ?_)
    have f0_2 := congrArg (fun q => Env.get q 0) he2
    simp only [Env.put_some, Env.put_none, Env.get_set, Env.get_set, Nat.reduceEqDiff, reduceIte, if_true, if_false, eq_self, f0_1] at f0_2
    have f1_2 := congrArg (fun q => Env.get q 1) he2
    simp only [Env.put_some, Env.put_none, Env.get_set, Env.get_set, Nat.reduceEqDiff, reduceIte, if_true, if_false, eq_self, f1_1] at f1_2
    have f4_2 := congrArg (fun q => Env.get q 4) he2
    simp only [Env.put_some, Env.put_none, Env.get_set, Env.get_set, Nat.reduceEqDiff, reduceIte, if_true, if_false, eq_self] at f4_2
    clear he2 f0_1 f1_1
    refine W.thenN ?_
    refine W.seq ?_
    refine W.region (fun K hK => ?_)
    have hneg : wrapF .i64 (0 - n) = -n := by rw [w64_in _ (by omega)]; omega
    simp (config := { maxSteps := 10000000 }) only [go_sem, ↓forkQ_true, ↓forkQ_false, ↓guardQ_some, ↓resQ_val, ↓resQ_unit, ↓resQ_enter, ↓retQ_some, ↓resFQ_val, ↓resFQ_unit, ↓resFQ_enter, ↓retFQ_some, Nat.reduceEqDiff, reduceIte, Nat.reduceAdd, Nat.reduceMul, Nat.reduceSub, reduceCtorEq, Nat.reduceLeDiff, f0_2, f1_2, f4_2, hneg, st_max (a := n) (b := -n)]
    refine hK _ _ ?_
    clear hK K
    refine W.forget (fun e3 he3 => ?_)
    have f0_3 := congrArg (fun q => Env.get q 0) he3
    simp only [Env.put_some, Env.put_none, Env.get_set, Env.get_set, Nat.reduceEqDiff, reduceIte, if_true, if_false, eq_self, f0_2] at f0_3
    have f1_3 := congrArg (fun q => Env.get q 1) he3
    simp only [Env.put_some, Env.put_none, Env.get_set, Env.get_set, Nat.reduceEqDiff, reduceIte, if_true, if_false, eq_self, f1_2] at f1_3
    have f4_3 := congrArg (fun q => Env.get q 4) he3
    simp only [Env.put_some, Env.put_none, Env.get_set, Env.get_set, Nat.reduceEqDiff, reduceIte, if_true, if_false, eq_self, f4_2] at f4_3
    have f5_3 := congrArg (fun q => Env.get q 5) he3
    simp only [Env.put_some, Env.put_none, Env.get_set, Env.get_set, Nat.reduceEqDiff, reduceIte, if_true, if_false, eq_self] at f5_3
    have f6_3 := congrArg (fun q => Env.get q 6) he3
    simp only [Env.put_some, Env.put_none, Env.get_set, Env.get_set, Nat.reduceEqDiff, reduceIte, if_true, if_false, eq_self] at f6_3
    clear he3 f0_2 f1_2 f4_2
    refine W.thenN ?_
    refine W.seq ?_
    refine W.block ?_
    refine wq_rounds (fun s : Int × Int => s.2.toNat) (fun s => I43 n d h s.1 s.2) ?_ (if n < -n then -n else n, d) _ _ ?_
    · intro ⟨x, y⟩ e4 k1 hi
      replace hi : I43 n d h x y _ k1 := hi
      have f0_4 := hi.e0
      have f1_4 := hi.e1
      have f4_4 := hi.e4
      have f5_4 := hi.e5
      have f6_4 := hi.e6
      have hp := hi.hp
      have x0 := hi.x0
      have y0 := hi.y0
      subst hp
      refine W.seq ?_
      refine W.seq ?_
      refine W.region (fun K hK => ?_)
      simp (config := { maxSteps := 10000000 }) only [go_sem, ↓forkQ_true, ↓forkQ_false, ↓guardQ_some, ↓resQ_val, ↓resQ_unit, ↓resQ_enter, ↓retQ_some, ↓resFQ_val, ↓resFQ_unit, ↓resFQ_enter, ↓retFQ_some, Nat.reduceEqDiff, reduceIte, Nat.reduceAdd, Nat.reduceMul, Nat.reduceSub, reduceCtorEq, Nat.reduceLeDiff, f0_4, f1_4, f4_4, f5_4, f6_4]
      refine hK _ _ ?_
      clear hK K
      refine W.forget (fun e5 he5 => ?_)
      have f0_5 := congrArg (fun q => Env.get q 0) he5
      simp only [Env.put_some, Env.put_none, Env.get_set, Env.get_set, Nat.reduceEqDiff, reduceIte, if_true, if_false, eq_self, f0_4] at f0_5
      have f1_5 := congrArg (fun q => Env.get q 1) he5
      simp only [Env.put_some, Env.put_none, Env.get_set, Env.get_set, Nat.reduceEqDiff, reduceIte, if_true, if_false, eq_self, f1_4] at f1_5
      have f4_5 := congrArg (fun q => Env.get q 4) he5
      simp only [Env.put_some, Env.put_none, Env.get_set, Env.get_set, Nat.reduceEqDiff, reduceIte, if_true, if_false, eq_self, f4_4] at f4_5
      have f5_5 := congrArg (fun q => Env.get q 5) he5
      simp only [Env.put_some, Env.put_none, Env.get_set, Env.get_set, Nat.reduceEqDiff, reduceIte, if_true, if_false, eq_self, f5_4] at f5_5
      have f6_5 := congrArg (fun q => Env.get q 6) he5
      simp only [Env.put_some, Env.put_none, Env.get_set, Env.get_set, Nat.reduceEqDiff, reduceIte, if_true, if_false, eq_self, f6_4] at f6_5
      have f13_5 := congrArg (fun q => Env.get q 13) he5
      simp only [Env.put_some, Env.put_none, Env.get_set, Env.get_set, Nat.reduceEqDiff, reduceIte, if_true, if_false, eq_self] at f13_5
      clear he5 f0_4 f1_4 f4_4 f5_4 f6_4
      refine W.thenN ?_
      refine W.cond f13_5 (fun hc6 => ?_) (fun hc6 => ?_)
      · first
        | (cases hc6; done)
        | (exfalso; simp only [decide_eq_true_eq, decide_eq_false_iff_not, Bool.not_eq_true', Bool.not_eq_false', Bool.not_eq_eq_eq_not, Bool.not_true, Bool.not_false] at hc6; omega)
        | (skip
           try simp only [decide_eq_true_eq, decide_eq_false_iff_not, Bool.not_eq_true', Bool.not_eq_false', Bool.not_eq_eq_eq_not, Bool.not_true, Bool.not_false] at hc6
           refine W.skip ?_
           refine W.thenN ?_
           refine W.block ?_
           refine W.draw dr43_3 (fun K hK => ?_)
           have hy : (y = 0) = False := eq_false (by omega)
           simp (config := { maxSteps := 10000000 }) only [go_sem, ↓forkQ_true, ↓forkQ_false, ↓guardQ_some, ↓resQ_val, ↓resQ_unit, ↓resQ_enter, ↓retQ_some, ↓resFQ_val, ↓resFQ_unit, ↓resFQ_enter, ↓retFQ_some, Nat.reduceEqDiff, reduceIte, Nat.reduceAdd, Nat.reduceMul, Nat.reduceSub, reduceCtorEq, Nat.reduceLeDiff, f0_5, f1_5, f4_5, f5_5, f6_5, f13_5, hy]
           refine hK _ _ ?_
           clear hK K
           refine W.forget (fun e7 he7 => ?_)
           have f0_7 := congrArg (fun q => Env.get q 0) he7
           simp only [Env.put_some, Env.put_none, Env.get_set, Env.get_set, Nat.reduceEqDiff, reduceIte, if_true, if_false, eq_self, f0_5] at f0_7
           have f1_7 := congrArg (fun q => Env.get q 1) he7
           simp only [Env.put_some, Env.put_none, Env.get_set, Env.get_set, Nat.reduceEqDiff, reduceIte, if_true, if_false, eq_self, f1_5] at f1_7
           have f4_7 := congrArg (fun q => Env.get q 4) he7
           simp only [Env.put_some, Env.put_none, Env.get_set, Env.get_set, Nat.reduceEqDiff, reduceIte, if_true, if_false, eq_self, f4_5] at f4_7
           have f5_7 := congrArg (fun q => Env.get q 5) he7
           simp only [Env.put_some, Env.put_none, Env.get_set, Env.get_set, Nat.reduceEqDiff, reduceIte, if_true, if_false, eq_self, f5_5] at f5_7
           have f6_7 := congrArg (fun q => Env.get q 6) he7
           simp only [Env.put_some, Env.put_none, Env.get_set, Env.get_set, Nat.reduceEqDiff, reduceIte, if_true, if_false, eq_self, f6_5] at f6_7
           clear he7 f0_5 f1_5 f4_5 f5_5 f6_5 f13_5
           refine W.blockN ?_
           refine W.thenN ?_
           exact ⟨(y, x.tmod y), by dsimp only; have := Int.tmod_lt_of_pos x (show 0 < y by omega); have := Int.tmod_nonneg y x0; omega, rfl, f0_7, f1_7, f4_7, f5_7, f6_7, y0, Int.tmod_nonneg y x0, (gcd_rem x y).trans hi.g⟩)
      · first
        | (cases hc6; done)
        | (exfalso; simp only [decide_eq_true_eq, decide_eq_false_iff_not, Bool.not_eq_true', Bool.not_eq_false', Bool.not_eq_eq_eq_not, Bool.not_true, Bool.not_false] at hc6; omega)
        | (skip
           try simp only [decide_eq_true_eq, decide_eq_false_iff_not, Bool.not_eq_true', Bool.not_eq_false', Bool.not_eq_eq_eq_not, Bool.not_true, Bool.not_false] at hc6
           refine W.exit ?_
           refine W.thenE ?_
           refine W.thenE ?_
           refine W.blockE ?_
           refine W.thenN ?_
           refine W.seq ?_
           refine W.draw dr43_4 (fun K hK => ?_)
           obtain rfl : y = 0 := by omega
           have hx : x = ((Int.gcd n d : Nat) : Int) := by have := hi.g; rw [Int.gcd_zero_right] at this; omega
           subst hx
           have hgn := gcd_ne (n := n) hd.1
           have w1 := w_tdiv n (Int.gcd n d) hn
           have w2 := w_tdiv d (Int.gcd n d) (by omega)
           simp (config := { maxSteps := 10000000 }) only [go_sem, ↓forkQ_true, ↓forkQ_false, ↓guardQ_some, ↓resQ_val, ↓resQ_unit, ↓resQ_enter, ↓retQ_some, ↓resFQ_val, ↓resFQ_unit, ↓resFQ_enter, ↓retFQ_some, Nat.reduceEqDiff, reduceIte, Nat.reduceAdd, Nat.reduceMul, Nat.reduceSub, reduceCtorEq, Nat.reduceLeDiff, f0_5, f1_5, f4_5, f5_5, f6_5, f13_5, hgn, w1, w2]
           refine hK _ _ ?_
           clear hK K
           refine W.forget (fun e8 he8 => ?_)
           have f4_8 := congrArg (fun q => Env.get q 4) he8
           simp only [Env.put_some, Env.put_none, Env.get_set, Env.get_set, Nat.reduceEqDiff, reduceIte, if_true, if_false, eq_self, f4_5] at f4_8
           clear he8 f0_5 f1_5 f4_5 f5_5 f6_5 f13_5
           refine W.thenN ?_
           refine W.ret ?_
           rw [flatQ_ret]
           unfold quoN quoD
           simp only [go_sem, ↓forkQ_true, ↓forkQ_false, ↓guardQ_some, ↓resQ_val, ↓resQ_unit, ↓resQ_enter, ↓retQ_some, ↓resFQ_val, ↓resFQ_unit, ↓resFQ_enter, ↓retFQ_some, Nat.reduceEqDiff, reduceIte, Nat.reduceAdd, Nat.reduceMul, Nat.reduceSub, reduceCtorEq, Nat.reduceLeDiff, f4_8])
    · exact ⟨rfl, f0_3, f1_3, f4_3, f5_3, f6_3, by dsimp only; split <;> omega, by dsimp only; omega, by dsimp only; split <;> simp [Int.gcd_neg, Int.neg_gcd]⟩
  · rfl
end Go.Proofs.Ytlblocieleildaa
