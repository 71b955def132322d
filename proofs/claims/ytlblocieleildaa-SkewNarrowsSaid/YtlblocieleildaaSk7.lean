/- What few and same give. -/
import Derived.Test.YtlblocieleildaaSk6
set_option linter.unusedSimpArgs false
set_option linter.unusedVariables false
set_option maxRecDepth 20000
set_option maxHeartbeats 8000000
namespace Go.Proofs.Ytlblocieleildaa
open Go.Am

theorem c10 (a : Option Addr) (n c : Nat) (h : Heap) : callW Try.prog SkH 10 [.slice a n c] h = some (.bool (decide ((n : Int) ≤ 24)), h, true) := by
  refine call_flat (rs := [.tmp 2]) [_] Try.func10 rfl rfl ?_ ?_
  rotate_left
  · simp only [go_sem, ↓forkQ_true, ↓forkQ_false, ↓guardQ_some, ↓resQ_val, ↓resQ_unit, ↓resQ_enter, ↓retQ_some, ↓resFQ_val, ↓resFQ_unit, ↓resFQ_enter, ↓retFQ_some, Nat.reduceEqDiff, reduceIte, Nat.reduceAdd, Nat.reduceMul, Nat.reduceSub, reduceCtorEq, Nat.reduceLeDiff]
  · rfl
theorem nat_ext {xs ys : List Int} (h : xs.length = ys.length) (h2 : ∀ j, j < xs.length → nat xs j = nat ys j) : xs = ys := by
  apply List.ext_getElem h
  intro i h1 h3
  have := h2 i h1
  unfold nat at this
  rw [List.getD_eq_getElem?_getD, List.getD_eq_getElem?_getD, List.getElem?_eq_getElem h1, List.getElem?_eq_getElem h3] at this
  exact this
structure I18 (xs ys : List Int) (a b : Option Addr) (c d : Nat) (h : Heap) (i : Nat) (e : Env) (h1 : Heap) : Prop where
  ex : Ext h h1
  e0 : e.get 0 = .slice a xs.length c
  e1 : e.get 1 = .slice b ys.length d
  e5 : e.get 5 = .int .i64 (i : Int)
  le : i ≤ xs.length
  len : xs.length = ys.length
  r : ∀ j, j < i → nat xs j = nat ys j
theorem c18 (xs ys : List Int) (a b : Option Addr) (c d : Nat) (h : Heap) (ha : IA h xs a) (hb : IA h ys b) (hl : xs.length ≤ 1000000) : callW Try.prog SkH 18 [.slice a xs.length c, .slice b ys.length d] h = some (.bool (decide (xs = ys)), h, true) := by
  refine call_flat (rs := [.tmp 4]) [_] Try.func18 rfl rfl ?_ ?_
  rotate_left
  · skip
    refine W.forget (fun e1 he1 => ?_)
    have f0_1 := congrArg (fun q => Env.get q 0) he1
    simp only [ofList_cons, ofList_nil, Env.put_some, Env.put_none, Env.get_set, Env.get_set, Nat.reduceEqDiff, reduceIte, if_true, if_false, eq_self] at f0_1
    have f1_1 := congrArg (fun q => Env.get q 1) he1
    simp only [ofList_cons, ofList_nil, Env.put_some, Env.put_none, Env.get_set, Env.get_set, Nat.reduceEqDiff, reduceIte, if_true, if_false, eq_self] at f1_1
    clear he1
    refine W.seq ?_
    refine W.region (fun K hK => ?_)
    simp (config := { maxSteps := 10000000 }) only [go_sem, ↓forkQ_true, ↓forkQ_false, ↓guardQ_some, ↓resQ_val, ↓resQ_unit, ↓resQ_enter, ↓retQ_some, ↓resFQ_val, ↓resFQ_unit, ↓resFQ_enter, ↓retFQ_some, Nat.reduceEqDiff, reduceIte, Nat.reduceAdd, Nat.reduceMul, Nat.reduceSub, reduceCtorEq, Nat.reduceLeDiff, f0_1, f1_1]
    refine hK _ _ ?_
    clear hK K
    refine W.forget (fun e2 he2 => ?_)
    have f0_2 := congrArg (fun q => Env.get q 0) he2
    simp only [Env.put_some, Env.put_none, Env.get_set, Env.get_set, Nat.reduceEqDiff, reduceIte, if_true, if_false, eq_self, f0_1] at f0_2
    have f1_2 := congrArg (fun q => Env.get q 1) he2
    simp only [Env.put_some, Env.put_none, Env.get_set, Env.get_set, Nat.reduceEqDiff, reduceIte, if_true, if_false, eq_self, f1_1] at f1_2
    have f4_2 := congrArg (fun q => Env.get q 4) he2
    simp only [Env.put_some, Env.put_none, Env.get_set, Env.get_set, Nat.reduceEqDiff, reduceIte, if_true, if_false, eq_self] at f4_2
    clear he2 f0_1 f1_1
    refine W.thenN ?_
    refine W.seq ?_
    refine W.seq ?_
    refine W.region (fun K hK => ?_)
    simp (config := { maxSteps := 10000000 }) only [go_sem, ↓forkQ_true, ↓forkQ_false, ↓guardQ_some, ↓resQ_val, ↓resQ_unit, ↓resQ_enter, ↓retQ_some, ↓resFQ_val, ↓resFQ_unit, ↓resFQ_enter, ↓retFQ_some, Nat.reduceEqDiff, reduceIte, Nat.reduceAdd, Nat.reduceMul, Nat.reduceSub, reduceCtorEq, Nat.reduceLeDiff, f0_2, f1_2, f4_2]
    refine hK _ _ ?_
    clear hK K
    refine W.forget (fun e3 he3 => ?_)
    have f0_3 := congrArg (fun q => Env.get q 0) he3
    simp only [Env.put_some, Env.put_none, Env.get_set, Env.get_set, Nat.reduceEqDiff, reduceIte, if_true, if_false, eq_self, f0_2] at f0_3
    have f1_3 := congrArg (fun q => Env.get q 1) he3
    simp only [Env.put_some, Env.put_none, Env.get_set, Env.get_set, Nat.reduceEqDiff, reduceIte, if_true, if_false, eq_self, f1_2] at f1_3
    have f4_3 := congrArg (fun q => Env.get q 4) he3
    simp only [Env.put_some, Env.put_none, Env.get_set, Env.get_set, Nat.reduceEqDiff, reduceIte, if_true, if_false, eq_self, f4_2] at f4_3
    have f10_3 := congrArg (fun q => Env.get q 10) he3
    simp only [Env.put_some, Env.put_none, Env.get_set, Env.get_set, Nat.reduceEqDiff, reduceIte, if_true, if_false, eq_self] at f10_3
    clear he3 f0_2 f1_2 f4_2
    refine W.thenN ?_
    refine W.cond f10_3 (fun hc4 => ?_) (fun hc4 => ?_)
    · first
      | (cases hc4; done)
      | (exfalso; simp only [decide_eq_true_eq, decide_eq_false_iff_not, Bool.not_eq_true', Bool.not_eq_false', Bool.not_eq_eq_eq_not, Bool.not_true, Bool.not_false] at hc4; omega)
      | (skip
         try simp only [decide_eq_true_eq, decide_eq_false_iff_not, Bool.not_eq_true', Bool.not_eq_false', Bool.not_eq_eq_eq_not, Bool.not_true, Bool.not_false] at hc4
         refine W.seq ?_
         refine W.region (fun K hK => ?_)
         simp (config := { maxSteps := 10000000 }) only [go_sem, ↓forkQ_true, ↓forkQ_false, ↓guardQ_some, ↓resQ_val, ↓resQ_unit, ↓resQ_enter, ↓retQ_some, ↓resFQ_val, ↓resFQ_unit, ↓resFQ_enter, ↓retFQ_some, Nat.reduceEqDiff, reduceIte, Nat.reduceAdd, Nat.reduceMul, Nat.reduceSub, reduceCtorEq, Nat.reduceLeDiff, f0_3, f1_3, f4_3, f10_3]
         refine hK _ _ ?_
         clear hK K
         refine W.forget (fun e5 he5 => ?_)
         have f0_5 := congrArg (fun q => Env.get q 0) he5
         simp only [Env.put_some, Env.put_none, Env.get_set, Env.get_set, Nat.reduceEqDiff, reduceIte, if_true, if_false, eq_self, f0_3] at f0_5
         have f1_5 := congrArg (fun q => Env.get q 1) he5
         simp only [Env.put_some, Env.put_none, Env.get_set, Env.get_set, Nat.reduceEqDiff, reduceIte, if_true, if_false, eq_self, f1_3] at f1_5
         have f4_5 := congrArg (fun q => Env.get q 4) he5
         simp only [Env.put_some, Env.put_none, Env.get_set, Env.get_set, Nat.reduceEqDiff, reduceIte, if_true, if_false, eq_self, f4_3] at f4_5
         clear he5 f0_3 f1_3 f4_3 f10_3
         refine W.thenN ?_
         refine W.ret ?_
         refine W.thenR ?_
         rw [flatQ_ret]
         refine ⟨by first | rfl | exact ex.wr, ?_⟩
         simp only [go_sem, ↓forkQ_true, ↓forkQ_false, ↓guardQ_some, ↓resQ_val, ↓resQ_unit, ↓resQ_enter, ↓retQ_some, ↓resFQ_val, ↓resFQ_unit, ↓resFQ_enter, ↓retFQ_some, Nat.reduceEqDiff, reduceIte, Nat.reduceAdd, Nat.reduceMul, Nat.reduceSub, reduceCtorEq, Nat.reduceLeDiff, f0_5, f1_5, f4_5]
         first
           | (rw [decide_eq_false (show ¬ xs = ys from fun e => by subst e; omega)]; done)
           | (rw [decide_eq_true (nat_ext hlen (fun j hj => hi.r j (by omega)))]; done))
    · first
      | (cases hc4; done)
      | (exfalso; simp only [decide_eq_true_eq, decide_eq_false_iff_not, Bool.not_eq_true', Bool.not_eq_false', Bool.not_eq_eq_eq_not, Bool.not_true, Bool.not_false] at hc4; omega)
      | (skip
         try simp only [decide_eq_true_eq, decide_eq_false_iff_not, Bool.not_eq_true', Bool.not_eq_false', Bool.not_eq_eq_eq_not, Bool.not_true, Bool.not_false] at hc4
         refine W.skip ?_
         refine W.thenN ?_
         refine W.seq ?_
         refine W.seq ?_
         refine W.region (fun K hK => ?_)
         simp (config := { maxSteps := 10000000 }) only [go_sem, ↓forkQ_true, ↓forkQ_false, ↓guardQ_some, ↓resQ_val, ↓resQ_unit, ↓resQ_enter, ↓retQ_some, ↓resFQ_val, ↓resFQ_unit, ↓resFQ_enter, ↓retFQ_some, Nat.reduceEqDiff, reduceIte, Nat.reduceAdd, Nat.reduceMul, Nat.reduceSub, reduceCtorEq, Nat.reduceLeDiff, f0_3, f1_3, f4_3, f10_3]
         refine hK _ _ ?_
         clear hK K
         refine W.forget (fun e6 he6 => ?_)
         have f0_6 := congrArg (fun q => Env.get q 0) he6
         simp only [Env.put_some, Env.put_none, Env.get_set, Env.get_set, Nat.reduceEqDiff, reduceIte, if_true, if_false, eq_self, f0_3] at f0_6
         have f1_6 := congrArg (fun q => Env.get q 1) he6
         simp only [Env.put_some, Env.put_none, Env.get_set, Env.get_set, Nat.reduceEqDiff, reduceIte, if_true, if_false, eq_self, f1_3] at f1_6
         have f4_6 := congrArg (fun q => Env.get q 4) he6
         simp only [Env.put_some, Env.put_none, Env.get_set, Env.get_set, Nat.reduceEqDiff, reduceIte, if_true, if_false, eq_self, f4_3] at f4_6
         have f5_6 := congrArg (fun q => Env.get q 5) he6
         simp only [Env.put_some, Env.put_none, Env.get_set, Env.get_set, Nat.reduceEqDiff, reduceIte, if_true, if_false, eq_self] at f5_6
         clear he6 f0_3 f1_3 f4_3 f10_3
         refine W.thenN ?_
         refine W.block ?_
         refine wq_rounds (fun i => xs.length - i) (I18 xs ys a b c d h) ?_ 0 _ _ ?_
         · intro i e7 k1 hi
           have f0_7 := hi.e0
           have f1_7 := hi.e1
           have f5_7 := hi.e5
           have ex := hi.ex
           have hle := hi.le
           have hlen := hi.len
           have hadd : wrapF .i64 ((i : Int) + 1) = ((i + 1 : Nat) : Int) := by rw [w64_in _ (by omega)]; omega
           refine W.seq ?_
           refine W.seq ?_
           refine W.region (fun K hK => ?_)
           simp (config := { maxSteps := 10000000 }) only [go_sem, ↓forkQ_true, ↓forkQ_false, ↓guardQ_some, ↓resQ_val, ↓resQ_unit, ↓resQ_enter, ↓retQ_some, ↓resFQ_val, ↓resFQ_unit, ↓resFQ_enter, ↓retFQ_some, Nat.reduceEqDiff, reduceIte, Nat.reduceAdd, Nat.reduceMul, Nat.reduceSub, reduceCtorEq, Nat.reduceLeDiff, f0_7, f1_7, f5_7, hadd]
           refine hK _ _ ?_
           clear hK K
           refine W.forget (fun e8 he8 => ?_)
           have f0_8 := congrArg (fun q => Env.get q 0) he8
           simp only [Env.put_some, Env.put_none, Env.get_set, Env.get_set, Nat.reduceEqDiff, reduceIte, if_true, if_false, eq_self, f0_7] at f0_8
           have f1_8 := congrArg (fun q => Env.get q 1) he8
           simp only [Env.put_some, Env.put_none, Env.get_set, Env.get_set, Nat.reduceEqDiff, reduceIte, if_true, if_false, eq_self, f1_7] at f1_8
           have f5_8 := congrArg (fun q => Env.get q 5) he8
           simp only [Env.put_some, Env.put_none, Env.get_set, Env.get_set, Nat.reduceEqDiff, reduceIte, if_true, if_false, eq_self, f5_7] at f5_8
           have f14_8 := congrArg (fun q => Env.get q 14) he8
           simp only [Env.put_some, Env.put_none, Env.get_set, Env.get_set, Nat.reduceEqDiff, reduceIte, if_true, if_false, eq_self] at f14_8
           clear he8 f0_7 f1_7 f5_7
           refine W.thenN ?_
           refine W.cond f14_8 (fun hc9 => ?_) (fun hc9 => ?_)
           · first
             | (cases hc9; done)
             | (exfalso; simp only [decide_eq_true_eq, decide_eq_false_iff_not, Bool.not_eq_true', Bool.not_eq_false', Bool.not_eq_eq_eq_not, Bool.not_true, Bool.not_false] at hc9; omega)
             | (skip
                try simp only [decide_eq_true_eq, decide_eq_false_iff_not, Bool.not_eq_true', Bool.not_eq_false', Bool.not_eq_eq_eq_not, Bool.not_true, Bool.not_false] at hc9
                refine W.skip ?_
                refine W.thenN ?_
                refine W.seq ?_
                refine W.block ?_
                refine W.seq ?_
                refine W.draw dr18_6 (fun K hK => ?_)
                have hlt : i < xs.length := by omega
                have hir := inRange_nat hlt
                have hir2 := inRange_nat (show i < ys.length by omega)
                obtain ⟨b1, blk1, rfl, hb1, hcell1, hbl1⟩ := ha.at hlt
                obtain ⟨b2, blk2, rfl, hb2, hcell2, hbl2⟩ := hb.at (show i < ys.length by omega)
                have hg1 := (ex.get b1 hbl1).trans hb1
                have hg2 := (ex.get b2 hbl2).trans hb2
                simp (config := { maxSteps := 10000000 }) only [go_sem, ↓forkQ_true, ↓forkQ_false, ↓guardQ_some, ↓resQ_val, ↓resQ_unit, ↓resQ_enter, ↓retQ_some, ↓resFQ_val, ↓resFQ_unit, ↓resFQ_enter, ↓retFQ_some, Nat.reduceEqDiff, reduceIte, Nat.reduceAdd, Nat.reduceMul, Nat.reduceSub, reduceCtorEq, Nat.reduceLeDiff, f0_8, f1_8, f5_8, f14_8, hadd, hir, hir2, hg1, hg2, hcell1, hcell2]
                refine hK _ _ ?_
                clear hK K
                refine W.forget (fun e10 he10 => ?_)
                have f0_10 := congrArg (fun q => Env.get q 0) he10
                simp only [Env.put_some, Env.put_none, Env.get_set, Env.get_set, Nat.reduceEqDiff, reduceIte, if_true, if_false, eq_self, f0_8] at f0_10
                have f1_10 := congrArg (fun q => Env.get q 1) he10
                simp only [Env.put_some, Env.put_none, Env.get_set, Env.get_set, Nat.reduceEqDiff, reduceIte, if_true, if_false, eq_self, f1_8] at f1_10
                have f5_10 := congrArg (fun q => Env.get q 5) he10
                simp only [Env.put_some, Env.put_none, Env.get_set, Env.get_set, Nat.reduceEqDiff, reduceIte, if_true, if_false, eq_self, f5_8] at f5_10
                have f25_10 := congrArg (fun q => Env.get q 25) he10
                simp only [Env.put_some, Env.put_none, Env.get_set, Env.get_set, Nat.reduceEqDiff, reduceIte, if_true, if_false, eq_self] at f25_10
                clear he10 f0_8 f1_8 f5_8 f14_8
                refine W.thenN ?_
                refine W.cond f25_10 (fun hc11 => ?_) (fun hc11 => ?_)
                · first
                  | (cases hc11; done)
                  | (exfalso; simp only [decide_eq_true_eq, decide_eq_false_iff_not, Bool.not_eq_true', Bool.not_eq_false', Bool.not_eq_eq_eq_not, Bool.not_true, Bool.not_false] at hc11; omega)
                  | (skip
                     try simp only [decide_eq_true_eq, decide_eq_false_iff_not, Bool.not_eq_true', Bool.not_eq_false', Bool.not_eq_eq_eq_not, Bool.not_true, Bool.not_false] at hc11
                     refine W.seq ?_
                     refine W.region (fun K hK => ?_)
                     simp (config := { maxSteps := 10000000 }) only [go_sem, ↓forkQ_true, ↓forkQ_false, ↓guardQ_some, ↓resQ_val, ↓resQ_unit, ↓resQ_enter, ↓retQ_some, ↓resFQ_val, ↓resFQ_unit, ↓resFQ_enter, ↓retFQ_some, Nat.reduceEqDiff, reduceIte, Nat.reduceAdd, Nat.reduceMul, Nat.reduceSub, reduceCtorEq, Nat.reduceLeDiff, f0_10, f1_10, f5_10, f25_10, hadd, hir, hir2, hg1, hg2, hcell1, hcell2]
                     refine hK _ _ ?_
                     clear hK K
                     refine W.forget (fun e12 he12 => ?_)
                     have f0_12 := congrArg (fun q => Env.get q 0) he12
                     simp only [Env.put_some, Env.put_none, Env.get_set, Env.get_set, Nat.reduceEqDiff, reduceIte, if_true, if_false, eq_self, f0_10] at f0_12
                     have f1_12 := congrArg (fun q => Env.get q 1) he12
                     simp only [Env.put_some, Env.put_none, Env.get_set, Env.get_set, Nat.reduceEqDiff, reduceIte, if_true, if_false, eq_self, f1_10] at f1_12
                     have f4_12 := congrArg (fun q => Env.get q 4) he12
                     simp only [Env.put_some, Env.put_none, Env.get_set, Env.get_set, Nat.reduceEqDiff, reduceIte, if_true, if_false, eq_self] at f4_12
                     have f5_12 := congrArg (fun q => Env.get q 5) he12
                     simp only [Env.put_some, Env.put_none, Env.get_set, Env.get_set, Nat.reduceEqDiff, reduceIte, if_true, if_false, eq_self, f5_10] at f5_12
                     clear he12 f0_10 f1_10 f5_10 f25_10
                     refine W.thenN ?_
                     refine W.ret ?_
                     refine W.blockR ?_
                     refine W.thenR ?_
                     refine W.thenR ?_
                     refine W.blockR ?_
                     refine W.thenR ?_
                     rw [flatQ_ret]
                     refine ⟨by first | rfl | exact ex.wr, ?_⟩
                     simp only [go_sem, ↓forkQ_true, ↓forkQ_false, ↓guardQ_some, ↓resQ_val, ↓resQ_unit, ↓resQ_enter, ↓retQ_some, ↓resFQ_val, ↓resFQ_unit, ↓resFQ_enter, ↓retFQ_some, Nat.reduceEqDiff, reduceIte, Nat.reduceAdd, Nat.reduceMul, Nat.reduceSub, reduceCtorEq, Nat.reduceLeDiff, f0_12, f1_12, f4_12, f5_12]
                     first
                       | (rw [decide_eq_false (show ¬ xs = ys from fun e => by subst e; omega)]; done)
                       | (rw [decide_eq_true (nat_ext hlen (fun j hj => hi.r j (by omega)))]; done))
                · first
                  | (cases hc11; done)
                  | (exfalso; simp only [decide_eq_true_eq, decide_eq_false_iff_not, Bool.not_eq_true', Bool.not_eq_false', Bool.not_eq_eq_eq_not, Bool.not_true, Bool.not_false] at hc11; omega)
                  | (skip
                     try simp only [decide_eq_true_eq, decide_eq_false_iff_not, Bool.not_eq_true', Bool.not_eq_false', Bool.not_eq_eq_eq_not, Bool.not_true, Bool.not_false] at hc11
                     refine W.skip ?_
                     refine W.blockN ?_
                     refine W.thenN ?_
                     refine W.region (fun K hK => ?_)
                     simp (config := { maxSteps := 10000000 }) only [go_sem, ↓forkQ_true, ↓forkQ_false, ↓guardQ_some, ↓resQ_val, ↓resQ_unit, ↓resQ_enter, ↓retQ_some, ↓resFQ_val, ↓resFQ_unit, ↓resFQ_enter, ↓retFQ_some, Nat.reduceEqDiff, reduceIte, Nat.reduceAdd, Nat.reduceMul, Nat.reduceSub, reduceCtorEq, Nat.reduceLeDiff, f0_10, f1_10, f5_10, f25_10, hadd, hir, hir2, hg1, hg2, hcell1, hcell2]
                     refine hK _ _ ?_
                     clear hK K
                     refine W.forget (fun e13 he13 => ?_)
                     have f0_13 := congrArg (fun q => Env.get q 0) he13
                     simp only [Env.put_some, Env.put_none, Env.get_set, Env.get_set, Nat.reduceEqDiff, reduceIte, if_true, if_false, eq_self, f0_10] at f0_13
                     have f1_13 := congrArg (fun q => Env.get q 1) he13
                     simp only [Env.put_some, Env.put_none, Env.get_set, Env.get_set, Nat.reduceEqDiff, reduceIte, if_true, if_false, eq_self, f1_10] at f1_13
                     have f5_13 := congrArg (fun q => Env.get q 5) he13
                     simp only [Env.put_some, Env.put_none, Env.get_set, Env.get_set, Nat.reduceEqDiff, reduceIte, if_true, if_false, eq_self, f5_10] at f5_13
                     clear he13 f0_10 f1_10 f5_10 f25_10
                     refine W.thenN ?_
                     exact ⟨i + 1, by dsimp only; omega, ex, f0_13, f1_13, f5_13, by omega, hlen, fun j hj => if e : j = i then by subst e; omega else hi.r j (by omega)⟩))
           · first
             | (cases hc9; done)
             | (exfalso; simp only [decide_eq_true_eq, decide_eq_false_iff_not, Bool.not_eq_true', Bool.not_eq_false', Bool.not_eq_eq_eq_not, Bool.not_true, Bool.not_false] at hc9; omega)
             | (skip
                try simp only [decide_eq_true_eq, decide_eq_false_iff_not, Bool.not_eq_true', Bool.not_eq_false', Bool.not_eq_eq_eq_not, Bool.not_true, Bool.not_false] at hc9
                refine W.exit ?_
                refine W.thenE ?_
                refine W.thenE ?_
                refine W.blockE ?_
                refine W.thenN ?_
                refine W.seq ?_
                refine W.region (fun K hK => ?_)
                simp (config := { maxSteps := 10000000 }) only [go_sem, ↓forkQ_true, ↓forkQ_false, ↓guardQ_some, ↓resQ_val, ↓resQ_unit, ↓resQ_enter, ↓retQ_some, ↓resFQ_val, ↓resFQ_unit, ↓resFQ_enter, ↓retFQ_some, Nat.reduceEqDiff, reduceIte, Nat.reduceAdd, Nat.reduceMul, Nat.reduceSub, reduceCtorEq, Nat.reduceLeDiff, f0_8, f1_8, f5_8, f14_8]
                refine hK _ _ ?_
                clear hK K
                refine W.forget (fun e14 he14 => ?_)
                have f4_14 := congrArg (fun q => Env.get q 4) he14
                simp only [Env.put_some, Env.put_none, Env.get_set, Env.get_set, Nat.reduceEqDiff, reduceIte, if_true, if_false, eq_self] at f4_14
                clear he14 f0_8 f1_8 f5_8 f14_8
                refine W.thenN ?_
                refine W.ret ?_
                rw [flatQ_ret]
                refine ⟨by first | rfl | exact ex.wr, ?_⟩
                simp only [go_sem, ↓forkQ_true, ↓forkQ_false, ↓guardQ_some, ↓resQ_val, ↓resQ_unit, ↓resQ_enter, ↓retQ_some, ↓resFQ_val, ↓resFQ_unit, ↓resFQ_enter, ↓retFQ_some, Nat.reduceEqDiff, reduceIte, Nat.reduceAdd, Nat.reduceMul, Nat.reduceSub, reduceCtorEq, Nat.reduceLeDiff, f4_14]
                first
                  | (rw [decide_eq_false (show ¬ xs = ys from fun e => by subst e; omega)]; done)
                  | (rw [decide_eq_true (nat_ext hlen (fun j hj => hi.r j (by omega)))]; done))
         · exact ⟨Ext.low h, f0_6, f1_6, f5_6, Nat.zero_le _, by omega, fun j hj => by omega⟩)
  · rfl
end Go.Proofs.Ytlblocieleildaa
