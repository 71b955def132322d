/- What corner gives. -/
import Derived.Test.YtlblocieleildaaSk6
set_option linter.unusedSimpArgs false
set_option linter.unusedVariables false
set_option maxRecDepth 20000
set_option maxHeartbeats 8000000
namespace Go.Proofs.Ytlblocieleildaa
open Go.Am

/-- a corner of the lower hull of the upper ends -/
def CornP (l : List Gt) (k : Nat) : Prop := ∀ i j, i < k → k < j → j < l.length → ((gt l k).hi - (gt l i).hi) * ((gt l j).x - (gt l i).x) < ((gt l j).hi - (gt l i).hi) * ((gt l k).x - (gt l i).x)
noncomputable def cornB (l : List Gt) (k : Nat) : Bool := @decide (CornP l k) (Classical.propDecidable _)
theorem cornB_true {l : List Gt} {k : Nat} : cornB l k = true ↔ CornP l k := by unfold cornB; simp
theorem cornB_false {l : List Gt} {k : Nat} : cornB l k = false ↔ ¬ CornP l k := by unfold cornB; simp
structure I35 (l : List Gt) (a : Option Addr) (c : Nat) (h : Heap) (k : Nat) (i : Nat) (e : Env) (h1 : Heap) : Prop where
  ex : Ext h h1
  e0 : e.get 0 = .slice a l.length c
  e1 : e.get 1 = .int .i64 (k : Int)
  e5 : e.get 5 = .int .i64 (i : Int)
  le : i ≤ k
  r : ∀ i', i' < i → ∀ j, k < j → j < l.length → ((gt l k).hi - (gt l i').hi) * ((gt l j).x - (gt l i').x) < ((gt l j).hi - (gt l i').hi) * ((gt l k).x - (gt l i').x)
structure J35 (l : List Gt) (a : Option Addr) (c : Nat) (h : Heap) (k i : Nat) (j : Nat) (e : Env) (h1 : Heap) : Prop where
  ex : Ext h h1
  e0 : e.get 0 = .slice a l.length c
  e1 : e.get 1 = .int .i64 (k : Int)
  e5 : e.get 5 = .int .i64 (i : Int)
  e6 : e.get 6 = .int .i64 (j : Int)
  lt : k < j
  le : j ≤ l.length
  r : ∀ j', k < j' → j' < j → ((gt l k).hi - (gt l i).hi) * ((gt l j').x - (gt l i).x) < ((gt l j').hi - (gt l i).hi) * ((gt l k).x - (gt l i).x)
theorem c35 (l : List Gt) (a : Option Addr) (c : Nat) (h : Heap) (hg : GA h l a) (o : Ok l) (hl : l.length ≤ 24) (k : Nat) (hk : k < l.length) : callW Try.prog SkH 35 [.slice a l.length c, .int .i64 (k : Int)] h = some (.bool (cornB l k), h, true) := by
  refine call_flat (rs := [.tmp 4]) [_] Try.func35 rfl rfl ?_ ?_
  rotate_left
  · skip
    refine W.forget (fun e1 he1 => ?_)
    have f0_1 := congrArg (fun q => Env.get q 0) he1
    simp only [ofList_cons, ofList_nil, Env.put_some, Env.put_none, Env.get_set, Env.get_set, Nat.reduceEqDiff, reduceIte, if_true, if_false, eq_self] at f0_1
    have f1_1 := congrArg (fun q => Env.get q 1) he1
    simp only [ofList_cons, ofList_nil, Env.put_some, Env.put_none, Env.get_set, Env.get_set, Nat.reduceEqDiff, reduceIte, if_true, if_false, eq_self] at f1_1
    clear he1
    refine W.seq ?_
    refine W.region (fun K hK => ?_)
    simp (config := { maxSteps := 10000000 }) only [go_sem, ↓forkQ_true, ↓forkQ_false, ↓guardQ_some, ↓resQ_val, ↓resQ_unit, ↓resQ_enter, ↓retQ_some, ↓resFQ_val, ↓resFQ_unit, ↓resFQ_enter, ↓retFQ_some, Nat.reduceEqDiff, reduceIte, Nat.reduceAdd, Nat.reduceMul, Nat.reduceSub, reduceCtorEq, Nat.reduceLeDiff, f0_1, f1_1]
    refine hK _ _ ?_
    clear hK K
    refine W.forget (fun e2 he2 => ?_)
    have f0_2 := congrArg (fun q => Env.get q 0) he2
    simp only [Env.put_some, Env.put_none, Env.get_set, Env.get_set, Nat.reduceEqDiff, reduceIte, if_true, if_false, eq_self, f0_1] at f0_2
    have f1_2 := congrArg (fun q => Env.get q 1) he2
    simp only [Env.put_some, Env.put_none, Env.get_set, Env.get_set, Nat.reduceEqDiff, reduceIte, if_true, if_false, eq_self, f1_1] at f1_2
    have f4_2 := congrArg (fun q => Env.get q 4) he2
    simp only [Env.put_some, Env.put_none, Env.get_set, Env.get_set, Nat.reduceEqDiff, reduceIte, if_true, if_false, eq_self] at f4_2
    clear he2 f0_1 f1_1
    refine W.thenN ?_
    refine W.seq ?_
    refine W.seq ?_
    refine W.region (fun K hK => ?_)
    simp (config := { maxSteps := 10000000 }) only [go_sem, ↓forkQ_true, ↓forkQ_false, ↓guardQ_some, ↓resQ_val, ↓resQ_unit, ↓resQ_enter, ↓retQ_some, ↓resFQ_val, ↓resFQ_unit, ↓resFQ_enter, ↓retFQ_some, Nat.reduceEqDiff, reduceIte, Nat.reduceAdd, Nat.reduceMul, Nat.reduceSub, reduceCtorEq, Nat.reduceLeDiff, f0_2, f1_2, f4_2]
    refine hK _ _ ?_
    clear hK K
    refine W.forget (fun e3 he3 => ?_)
    have f0_3 := congrArg (fun q => Env.get q 0) he3
    simp only [Env.put_some, Env.put_none, Env.get_set, Env.get_set, Nat.reduceEqDiff, reduceIte, if_true, if_false, eq_self, f0_2] at f0_3
    have f1_3 := congrArg (fun q => Env.get q 1) he3
    simp only [Env.put_some, Env.put_none, Env.get_set, Env.get_set, Nat.reduceEqDiff, reduceIte, if_true, if_false, eq_self, f1_2] at f1_3
    have f4_3 := congrArg (fun q => Env.get q 4) he3
    simp only [Env.put_some, Env.put_none, Env.get_set, Env.get_set, Nat.reduceEqDiff, reduceIte, if_true, if_false, eq_self, f4_2] at f4_3
    have f5_3 := congrArg (fun q => Env.get q 5) he3
    simp only [Env.put_some, Env.put_none, Env.get_set, Env.get_set, Nat.reduceEqDiff, reduceIte, if_true, if_false, eq_self] at f5_3
    clear he3 f0_2 f1_2 f4_2
    refine W.thenN ?_
    refine W.block ?_
    refine wq_rounds (fun i => k - i) (I35 l a c h k) ?_ 0 _ _ ?_
    · intro i e4 k1 hi
      have f0_4 := hi.e0
      have f1_4 := hi.e1
      have f5_4 := hi.e5
      have ex := hi.ex
      have hle := hi.le
      have hadd : wrapF .i64 ((i : Int) + 1) = ((i + 1 : Nat) : Int) := by rw [w64_in _ (by omega)]; omega
      have haddk : wrapF .i64 ((k : Int) + 1) = ((k + 1 : Nat) : Int) := by rw [w64_in _ (by omega)]; omega
      refine W.seq ?_
      refine W.seq ?_
      refine W.region (fun K hK => ?_)
      simp (config := { maxSteps := 10000000 }) only [go_sem, ↓forkQ_true, ↓forkQ_false, ↓guardQ_some, ↓resQ_val, ↓resQ_unit, ↓resQ_enter, ↓retQ_some, ↓resFQ_val, ↓resFQ_unit, ↓resFQ_enter, ↓retFQ_some, Nat.reduceEqDiff, reduceIte, Nat.reduceAdd, Nat.reduceMul, Nat.reduceSub, reduceCtorEq, Nat.reduceLeDiff, f0_4, f1_4, f5_4, hadd, haddk]
      refine hK _ _ ?_
      clear hK K
      refine W.forget (fun e5 he5 => ?_)
      have f0_5 := congrArg (fun q => Env.get q 0) he5
      simp only [Env.put_some, Env.put_none, Env.get_set, Env.get_set, Nat.reduceEqDiff, reduceIte, if_true, if_false, eq_self, f0_4] at f0_5
      have f1_5 := congrArg (fun q => Env.get q 1) he5
      simp only [Env.put_some, Env.put_none, Env.get_set, Env.get_set, Nat.reduceEqDiff, reduceIte, if_true, if_false, eq_self, f1_4] at f1_5
      have f5_5 := congrArg (fun q => Env.get q 5) he5
      simp only [Env.put_some, Env.put_none, Env.get_set, Env.get_set, Nat.reduceEqDiff, reduceIte, if_true, if_false, eq_self, f5_4] at f5_5
      have f9_5 := congrArg (fun q => Env.get q 9) he5
      simp only [Env.put_some, Env.put_none, Env.get_set, Env.get_set, Nat.reduceEqDiff, reduceIte, if_true, if_false, eq_self] at f9_5
      clear he5 f0_4 f1_4 f5_4
      refine W.thenN ?_
      refine W.cond f9_5 (fun hc6 => ?_) (fun hc6 => ?_)
      · first
        | (cases hc6; done)
        | (exfalso; simp only [decide_eq_true_eq, decide_eq_false_iff_not, Bool.not_eq_true', Bool.not_eq_false', Bool.not_eq_eq_eq_not, Bool.not_true, Bool.not_false] at hc6; omega)
        | (skip
           try simp only [decide_eq_true_eq, decide_eq_false_iff_not, Bool.not_eq_true', Bool.not_eq_false', Bool.not_eq_eq_eq_not, Bool.not_true, Bool.not_false] at hc6
           refine W.skip ?_
           refine W.thenN ?_
           refine W.seq ?_
           refine W.block ?_
           refine W.seq ?_
           refine W.region (fun K hK => ?_)
           simp (config := { maxSteps := 10000000 }) only [go_sem, ↓forkQ_true, ↓forkQ_false, ↓guardQ_some, ↓resQ_val, ↓resQ_unit, ↓resQ_enter, ↓retQ_some, ↓resFQ_val, ↓resFQ_unit, ↓resFQ_enter, ↓retFQ_some, Nat.reduceEqDiff, reduceIte, Nat.reduceAdd, Nat.reduceMul, Nat.reduceSub, reduceCtorEq, Nat.reduceLeDiff, f0_5, f1_5, f5_5, f9_5, hadd, haddk]
           refine hK _ _ ?_
           clear hK K
           refine W.forget (fun e7 he7 => ?_)
           have f0_7 := congrArg (fun q => Env.get q 0) he7
           simp only [Env.put_some, Env.put_none, Env.get_set, Env.get_set, Nat.reduceEqDiff, reduceIte, if_true, if_false, eq_self, f0_5] at f0_7
           have f1_7 := congrArg (fun q => Env.get q 1) he7
           simp only [Env.put_some, Env.put_none, Env.get_set, Env.get_set, Nat.reduceEqDiff, reduceIte, if_true, if_false, eq_self, f1_5] at f1_7
           have f5_7 := congrArg (fun q => Env.get q 5) he7
           simp only [Env.put_some, Env.put_none, Env.get_set, Env.get_set, Nat.reduceEqDiff, reduceIte, if_true, if_false, eq_self, f5_5] at f5_7
           have f6_7 := congrArg (fun q => Env.get q 6) he7
           simp only [Env.put_some, Env.put_none, Env.get_set, Env.get_set, Nat.reduceEqDiff, reduceIte, if_true, if_false, eq_self] at f6_7
           clear he7 f0_5 f1_5 f5_5 f9_5
           refine W.thenN ?_
           refine W.block ?_
           refine wq_rounds (fun j => l.length - j) (J35 l a c h k i) ?_ (k + 1) _ _ ?_
           · intro j e8 k2 hj
             have f0_8 := hj.e0
             have f1_8 := hj.e1
             have f5_8 := hj.e5
             have f6_8 := hj.e6
             have exj := hj.ex
             have hltj := hj.lt
             have hlej := hj.le
             have haddj : wrapF .i64 ((j : Int) + 1) = ((j + 1 : Nat) : Int) := by rw [w64_in _ (by omega)]; omega
             refine W.seq ?_
             refine W.seq ?_
             refine W.region (fun K hK => ?_)
             simp (config := { maxSteps := 10000000 }) only [go_sem, ↓forkQ_true, ↓forkQ_false, ↓guardQ_some, ↓resQ_val, ↓resQ_unit, ↓resQ_enter, ↓retQ_some, ↓resFQ_val, ↓resFQ_unit, ↓resFQ_enter, ↓retFQ_some, Nat.reduceEqDiff, reduceIte, Nat.reduceAdd, Nat.reduceMul, Nat.reduceSub, reduceCtorEq, Nat.reduceLeDiff, f0_8, f1_8, f5_8, f6_8, hadd, haddk, haddj]
             refine hK _ _ ?_
             clear hK K
             refine W.forget (fun e9 he9 => ?_)
             have f0_9 := congrArg (fun q => Env.get q 0) he9
             simp only [Env.put_some, Env.put_none, Env.get_set, Env.get_set, Nat.reduceEqDiff, reduceIte, if_true, if_false, eq_self, f0_8] at f0_9
             have f1_9 := congrArg (fun q => Env.get q 1) he9
             simp only [Env.put_some, Env.put_none, Env.get_set, Env.get_set, Nat.reduceEqDiff, reduceIte, if_true, if_false, eq_self, f1_8] at f1_9
             have f5_9 := congrArg (fun q => Env.get q 5) he9
             simp only [Env.put_some, Env.put_none, Env.get_set, Env.get_set, Nat.reduceEqDiff, reduceIte, if_true, if_false, eq_self, f5_8] at f5_9
             have f6_9 := congrArg (fun q => Env.get q 6) he9
             simp only [Env.put_some, Env.put_none, Env.get_set, Env.get_set, Nat.reduceEqDiff, reduceIte, if_true, if_false, eq_self, f6_8] at f6_9
             have f17_9 := congrArg (fun q => Env.get q 17) he9
             simp only [Env.put_some, Env.put_none, Env.get_set, Env.get_set, Nat.reduceEqDiff, reduceIte, if_true, if_false, eq_self] at f17_9
             clear he9 f0_8 f1_8 f5_8 f6_8
             refine W.thenN ?_
             refine W.cond f17_9 (fun hc10 => ?_) (fun hc10 => ?_)
             · first
               | (cases hc10; done)
               | (exfalso; simp only [decide_eq_true_eq, decide_eq_false_iff_not, Bool.not_eq_true', Bool.not_eq_false', Bool.not_eq_eq_eq_not, Bool.not_true, Bool.not_false] at hc10; omega)
               | (skip
                  try simp only [decide_eq_true_eq, decide_eq_false_iff_not, Bool.not_eq_true', Bool.not_eq_false', Bool.not_eq_eq_eq_not, Bool.not_true, Bool.not_false] at hc10
                  refine W.skip ?_
                  refine W.thenN ?_
                  refine W.seq ?_
                  refine W.block ?_
                  refine W.seq ?_
                  refine W.draw dr35_7 (fun K hK => ?_)
                  have hjn : j < l.length := by omega
                  have hin : i < l.length := by omega
                  have hir1 := inRange_nat hk
                  have hir2 := inRange_nat hin
                  have hir3 := inRange_nat hjn
                  obtain ⟨b, blk, ext, rfl, hb, hcs, hbl⟩ := hg (ne_of_lt hk)
                  have hb' := (exj.get b hbl).trans hb
                  have ck0 := gcell0 (ext := ext) hk
                  have ck2 := gcell2 (ext := ext) hk
                  have ci0 := gcell0 (ext := ext) hin
                  have ci2 := gcell2 (ext := ext) hin
                  have cj0 := gcell0 (ext := ext) hjn
                  have cj2 := gcell2 (ext := ext) hjn
                  have rk := o.rng k hk
                  have ri := o.rng i hin
                  have rj := o.rng j hjn
                  have s1 : wrapF .i64 ((gt l k).hi - (gt l i).hi) = (gt l k).hi - (gt l i).hi := w64_in _ (by omega)
                  have s2 : wrapF .i64 ((gt l j).x - (gt l i).x) = (gt l j).x - (gt l i).x := w64_in _ (by omega)
                  have s3 : wrapF .i64 ((gt l j).hi - (gt l i).hi) = (gt l j).hi - (gt l i).hi := w64_in _ (by omega)
                  have s4 : wrapF .i64 ((gt l k).x - (gt l i).x) = (gt l k).x - (gt l i).x := w64_in _ (by omega)
                  have m1 : wrapF .i64 (((gt l k).hi - (gt l i).hi) * ((gt l j).x - (gt l i).x)) = ((gt l k).hi - (gt l i).hi) * ((gt l j).x - (gt l i).x) := w_mul (A := 2147483648) (B := 1073741824) (by omega) (by omega) (by omega)
                  have m2 : wrapF .i64 (((gt l j).hi - (gt l i).hi) * ((gt l k).x - (gt l i).x)) = ((gt l j).hi - (gt l i).hi) * ((gt l k).x - (gt l i).x) := w_mul (A := 2147483648) (B := 1073741824) (by omega) (by omega) (by omega)
                  simp (config := { maxSteps := 10000000 }) only [go_sem, ↓forkQ_true, ↓forkQ_false, ↓guardQ_some, ↓resQ_val, ↓resQ_unit, ↓resQ_enter, ↓retQ_some, ↓resFQ_val, ↓resFQ_unit, ↓resFQ_enter, ↓retFQ_some, Nat.reduceEqDiff, reduceIte, Nat.reduceAdd, Nat.reduceMul, Nat.reduceSub, reduceCtorEq, Nat.reduceLeDiff, f0_9, f1_9, f5_9, f6_9, f17_9, hadd, haddk, haddj, hir1, hir2, hir3, hb', hcs, ck0, ck2, ci0, ci2, cj0, cj2, s1, s2, s3, s4, m1, m2]
                  refine hK _ _ ?_
                  clear hK K
                  refine W.forget (fun e11 he11 => ?_)
                  have f0_11 := congrArg (fun q => Env.get q 0) he11
                  simp only [Env.put_some, Env.put_none, Env.get_set, Env.get_set, Nat.reduceEqDiff, reduceIte, if_true, if_false, eq_self, f0_9] at f0_11
                  have f1_11 := congrArg (fun q => Env.get q 1) he11
                  simp only [Env.put_some, Env.put_none, Env.get_set, Env.get_set, Nat.reduceEqDiff, reduceIte, if_true, if_false, eq_self, f1_9] at f1_11
                  have f5_11 := congrArg (fun q => Env.get q 5) he11
                  simp only [Env.put_some, Env.put_none, Env.get_set, Env.get_set, Nat.reduceEqDiff, reduceIte, if_true, if_false, eq_self, f5_9] at f5_11
                  have f6_11 := congrArg (fun q => Env.get q 6) he11
                  simp only [Env.put_some, Env.put_none, Env.get_set, Env.get_set, Nat.reduceEqDiff, reduceIte, if_true, if_false, eq_self, f6_9] at f6_11
                  have f66_11 := congrArg (fun q => Env.get q 66) he11
                  simp only [Env.put_some, Env.put_none, Env.get_set, Env.get_set, Nat.reduceEqDiff, reduceIte, if_true, if_false, eq_self] at f66_11
                  clear he11 f0_9 f1_9 f5_9 f6_9 f17_9
                  refine W.thenN ?_
                  refine W.cond f66_11 (fun hc12 => ?_) (fun hc12 => ?_)
                  · first
                    | (cases hc12; done)
                    | (exfalso; simp only [decide_eq_true_eq, decide_eq_false_iff_not, Bool.not_eq_true', Bool.not_eq_false', Bool.not_eq_eq_eq_not, Bool.not_true, Bool.not_false] at hc12; omega)
                    | (skip
                       try simp only [decide_eq_true_eq, decide_eq_false_iff_not, Bool.not_eq_true', Bool.not_eq_false', Bool.not_eq_eq_eq_not, Bool.not_true, Bool.not_false] at hc12
                       refine W.seq ?_
                       refine W.region (fun K hK => ?_)
                       simp (config := { maxSteps := 10000000 }) only [go_sem, ↓forkQ_true, ↓forkQ_false, ↓guardQ_some, ↓resQ_val, ↓resQ_unit, ↓resQ_enter, ↓retQ_some, ↓resFQ_val, ↓resFQ_unit, ↓resFQ_enter, ↓retFQ_some, Nat.reduceEqDiff, reduceIte, Nat.reduceAdd, Nat.reduceMul, Nat.reduceSub, reduceCtorEq, Nat.reduceLeDiff, f0_11, f1_11, f5_11, f6_11, f66_11, hadd, haddk, haddj, hir1, hir2, hir3, hb', hcs, ck0, ck2, ci0, ci2, cj0, cj2, s1, s2, s3, s4, m1, m2]
                       refine hK _ _ ?_
                       clear hK K
                       refine W.forget (fun e13 he13 => ?_)
                       have f0_13 := congrArg (fun q => Env.get q 0) he13
                       simp only [Env.put_some, Env.put_none, Env.get_set, Env.get_set, Nat.reduceEqDiff, reduceIte, if_true, if_false, eq_self, f0_11] at f0_13
                       have f1_13 := congrArg (fun q => Env.get q 1) he13
                       simp only [Env.put_some, Env.put_none, Env.get_set, Env.get_set, Nat.reduceEqDiff, reduceIte, if_true, if_false, eq_self, f1_11] at f1_13
                       have f4_13 := congrArg (fun q => Env.get q 4) he13
                       simp only [Env.put_some, Env.put_none, Env.get_set, Env.get_set, Nat.reduceEqDiff, reduceIte, if_true, if_false, eq_self] at f4_13
                       have f5_13 := congrArg (fun q => Env.get q 5) he13
                       simp only [Env.put_some, Env.put_none, Env.get_set, Env.get_set, Nat.reduceEqDiff, reduceIte, if_true, if_false, eq_self, f5_11] at f5_13
                       have f6_13 := congrArg (fun q => Env.get q 6) he13
                       simp only [Env.put_some, Env.put_none, Env.get_set, Env.get_set, Nat.reduceEqDiff, reduceIte, if_true, if_false, eq_self, f6_11] at f6_13
                       clear he13 f0_11 f1_11 f5_11 f6_11 f66_11
                       refine W.thenN ?_
                       refine W.ret ?_
                       refine W.blockR ?_
                       refine W.thenR ?_
                       refine W.thenR ?_
                       refine W.blockR ?_
                       refine W.blockR ?_
                       refine W.thenR ?_
                       refine W.thenR ?_
                       refine W.blockR ?_
                       refine W.thenR ?_
                       rw [flatQ_ret]
                       refine ⟨by first | exact exj.wr | exact ex.wr, ?_⟩
                       simp only [go_sem, ↓forkQ_true, ↓forkQ_false, ↓guardQ_some, ↓resQ_val, ↓resQ_unit, ↓resQ_enter, ↓retQ_some, ↓resFQ_val, ↓resFQ_unit, ↓resFQ_enter, ↓retFQ_some, Nat.reduceEqDiff, reduceIte, Nat.reduceAdd, Nat.reduceMul, Nat.reduceSub, reduceCtorEq, Nat.reduceLeDiff, f0_13, f1_13, f4_13, f5_13, f6_13]
                       first
                         | (rw [cornB_false.2 (fun hP => by have := hP i j (by omega) (by omega) (by omega); omega)]; done)
                         | (rw [cornB_true.2 (fun i' j' h1 h2 h3 => hi.r i' (by omega) j' h2 h3)]; done))
                  · first
                    | (cases hc12; done)
                    | (exfalso; simp only [decide_eq_true_eq, decide_eq_false_iff_not, Bool.not_eq_true', Bool.not_eq_false', Bool.not_eq_eq_eq_not, Bool.not_true, Bool.not_false] at hc12; omega)
                    | (skip
                       try simp only [decide_eq_true_eq, decide_eq_false_iff_not, Bool.not_eq_true', Bool.not_eq_false', Bool.not_eq_eq_eq_not, Bool.not_true, Bool.not_false] at hc12
                       refine W.skip ?_
                       refine W.blockN ?_
                       refine W.thenN ?_
                       refine W.region (fun K hK => ?_)
                       simp (config := { maxSteps := 10000000 }) only [go_sem, ↓forkQ_true, ↓forkQ_false, ↓guardQ_some, ↓resQ_val, ↓resQ_unit, ↓resQ_enter, ↓retQ_some, ↓resFQ_val, ↓resFQ_unit, ↓resFQ_enter, ↓retFQ_some, Nat.reduceEqDiff, reduceIte, Nat.reduceAdd, Nat.reduceMul, Nat.reduceSub, reduceCtorEq, Nat.reduceLeDiff, f0_11, f1_11, f5_11, f6_11, f66_11, hadd, haddk, haddj, hir1, hir2, hir3, hb', hcs, ck0, ck2, ci0, ci2, cj0, cj2, s1, s2, s3, s4, m1, m2]
                       refine hK _ _ ?_
                       clear hK K
                       refine W.forget (fun e14 he14 => ?_)
                       have f0_14 := congrArg (fun q => Env.get q 0) he14
                       simp only [Env.put_some, Env.put_none, Env.get_set, Env.get_set, Nat.reduceEqDiff, reduceIte, if_true, if_false, eq_self, f0_11] at f0_14
                       have f1_14 := congrArg (fun q => Env.get q 1) he14
                       simp only [Env.put_some, Env.put_none, Env.get_set, Env.get_set, Nat.reduceEqDiff, reduceIte, if_true, if_false, eq_self, f1_11] at f1_14
                       have f5_14 := congrArg (fun q => Env.get q 5) he14
                       simp only [Env.put_some, Env.put_none, Env.get_set, Env.get_set, Nat.reduceEqDiff, reduceIte, if_true, if_false, eq_self, f5_11] at f5_14
                       have f6_14 := congrArg (fun q => Env.get q 6) he14
                       simp only [Env.put_some, Env.put_none, Env.get_set, Env.get_set, Nat.reduceEqDiff, reduceIte, if_true, if_false, eq_self, f6_11] at f6_14
                       clear he14 f0_11 f1_11 f5_11 f6_11 f66_11
                       refine W.thenN ?_
                       exact ⟨j + 1, by dsimp only; omega, exj, f0_14, f1_14, f5_14, f6_14, by omega, by omega, fun j' h1 h2 => if e : j' = j then by subst e; omega else hj.r j' h1 (by omega)⟩))
             · first
               | (cases hc10; done)
               | (exfalso; simp only [decide_eq_true_eq, decide_eq_false_iff_not, Bool.not_eq_true', Bool.not_eq_false', Bool.not_eq_eq_eq_not, Bool.not_true, Bool.not_false] at hc10; omega)
               | (skip
                  try simp only [decide_eq_true_eq, decide_eq_false_iff_not, Bool.not_eq_true', Bool.not_eq_false', Bool.not_eq_eq_eq_not, Bool.not_true, Bool.not_false] at hc10
                  refine W.exit ?_
                  refine W.thenE ?_
                  refine W.thenE ?_
                  refine W.blockE ?_
                  refine W.blockN ?_
                  refine W.thenN ?_
                  refine W.region (fun K hK => ?_)
                  simp (config := { maxSteps := 10000000 }) only [go_sem, ↓forkQ_true, ↓forkQ_false, ↓guardQ_some, ↓resQ_val, ↓resQ_unit, ↓resQ_enter, ↓retQ_some, ↓resFQ_val, ↓resFQ_unit, ↓resFQ_enter, ↓retFQ_some, Nat.reduceEqDiff, reduceIte, Nat.reduceAdd, Nat.reduceMul, Nat.reduceSub, reduceCtorEq, Nat.reduceLeDiff, f0_9, f1_9, f5_9, f6_9, f17_9, hadd, haddk]
                  refine hK _ _ ?_
                  clear hK K
                  refine W.forget (fun e15 he15 => ?_)
                  have f0_15 := congrArg (fun q => Env.get q 0) he15
                  simp only [Env.put_some, Env.put_none, Env.get_set, Env.get_set, Nat.reduceEqDiff, reduceIte, if_true, if_false, eq_self, f0_9] at f0_15
                  have f1_15 := congrArg (fun q => Env.get q 1) he15
                  simp only [Env.put_some, Env.put_none, Env.get_set, Env.get_set, Nat.reduceEqDiff, reduceIte, if_true, if_false, eq_self, f1_9] at f1_15
                  have f5_15 := congrArg (fun q => Env.get q 5) he15
                  simp only [Env.put_some, Env.put_none, Env.get_set, Env.get_set, Nat.reduceEqDiff, reduceIte, if_true, if_false, eq_self, f5_9] at f5_15
                  clear he15 f0_9 f1_9 f5_9 f6_9 f17_9
                  refine W.thenN ?_
                  exact ⟨i + 1, by dsimp only; omega, exj, f0_15, f1_15, f5_15, by omega, fun i' hi' j' h1 h2 => if e : i' = i then by subst e; exact hj.r j' h1 (by omega) else hi.r i' (by omega) j' h1 h2⟩)
           · exact ⟨ex, f0_7, f1_7, f5_7, f6_7, by omega, by omega, fun j' h1 h2 => by omega⟩)
      · first
        | (cases hc6; done)
        | (exfalso; simp only [decide_eq_true_eq, decide_eq_false_iff_not, Bool.not_eq_true', Bool.not_eq_false', Bool.not_eq_eq_eq_not, Bool.not_true, Bool.not_false] at hc6; omega)
        | (skip
           try simp only [decide_eq_true_eq, decide_eq_false_iff_not, Bool.not_eq_true', Bool.not_eq_false', Bool.not_eq_eq_eq_not, Bool.not_true, Bool.not_false] at hc6
           refine W.exit ?_
           refine W.thenE ?_
           refine W.thenE ?_
           refine W.blockE ?_
           refine W.thenN ?_
           refine W.seq ?_
           refine W.region (fun K hK => ?_)
           simp (config := { maxSteps := 10000000 }) only [go_sem, ↓forkQ_true, ↓forkQ_false, ↓guardQ_some, ↓resQ_val, ↓resQ_unit, ↓resQ_enter, ↓retQ_some, ↓resFQ_val, ↓resFQ_unit, ↓resFQ_enter, ↓retFQ_some, Nat.reduceEqDiff, reduceIte, Nat.reduceAdd, Nat.reduceMul, Nat.reduceSub, reduceCtorEq, Nat.reduceLeDiff, f0_5, f1_5, f5_5, f9_5]
           refine hK _ _ ?_
           clear hK K
           refine W.forget (fun e16 he16 => ?_)
           have f4_16 := congrArg (fun q => Env.get q 4) he16
           simp only [Env.put_some, Env.put_none, Env.get_set, Env.get_set, Nat.reduceEqDiff, reduceIte, if_true, if_false, eq_self] at f4_16
           clear he16 f0_5 f1_5 f5_5 f9_5
           refine W.thenN ?_
           refine W.ret ?_
           rw [flatQ_ret]
           refine ⟨by first | exact exj.wr | exact ex.wr, ?_⟩
           simp only [go_sem, ↓forkQ_true, ↓forkQ_false, ↓guardQ_some, ↓resQ_val, ↓resQ_unit, ↓resQ_enter, ↓retQ_some, ↓resFQ_val, ↓resFQ_unit, ↓resFQ_enter, ↓retFQ_some, Nat.reduceEqDiff, reduceIte, Nat.reduceAdd, Nat.reduceMul, Nat.reduceSub, reduceCtorEq, Nat.reduceLeDiff, f4_16]
           first
             | (rw [cornB_false.2 (fun hP => by have := hP i j (by omega) (by omega) (by omega); omega)]; done)
             | (rw [cornB_true.2 (fun i' j' h1 h2 h3 => hi.r i' (by omega) j' h2 h3)]; done))
    · exact ⟨Ext.low h, f0_3, f1_3, f5_3, Nat.zero_le _, fun j hj => by omega⟩
  · rfl
end Go.Proofs.Ytlblocieleildaa
