/- What the reference's Check gives. -/
import Derived.Test.YtlblocieleildaaSk4
set_option linter.unusedSimpArgs false
set_option linter.unusedVariables false
set_option maxRecDepth 20000
set_option maxHeartbeats 8000000
namespace Go.Proofs.Ytlblocieleildaa
open Go.Am

structure I15 (l : List Gt) (a : Option Addr) (c : Nat) (h : Heap) (i : Nat) (e : Env) (h1 : Heap) : Prop where
  ex : Ext h h1
  e0 : e.get 0 = .slice a l.length c
  e3 : e.get 3 = .int .i64 (i : Int)
  le : i ≤ l.length
  r : chk l (l.length - i) i = chk l l.length 0
theorem c15 (l : List Gt) (a : Option Addr) (c : Nat) (h : Heap) (hg : GA h l a) (hl : l.length ≤ 24) : callW Try.prog SkH 15 [.slice a l.length c] h = some (.int .i64 (checkZ l), h, true) := by
  refine call_flat (rs := [.tmp 2]) [_] Try.func15 rfl rfl ?_ ?_
  rotate_left
  · skip
    by_cases hnil : l = []
    · subst hnil
      have h0 : ((0 : Nat) : Int) = 0 := rfl
      have hz : checkZ [] = 14 := rfl
      simp only [go_sem, ↓forkQ_true, ↓forkQ_false, ↓guardQ_some, ↓resQ_val, ↓resQ_unit, ↓resQ_enter, ↓retQ_some, ↓resFQ_val, ↓resFQ_unit, ↓resFQ_enter, ↓retFQ_some, Nat.reduceEqDiff, reduceIte, Nat.reduceAdd, Nat.reduceMul, Nat.reduceSub, reduceCtorEq, Nat.reduceLeDiff, h0, hz]
    have hpos : 0 < l.length := List.length_pos_iff.2 hnil
    have h0 : ((l.length : Int) = 0) = False := eq_false (by omega)
    have h1024 : ((1024 : Int) < (l.length : Int)) = False := eq_false (by omega)
    have hz : checkZ l = chk l l.length 0 := by unfold checkZ; rw [if_neg hnil]
    rw [hz]
    refine W.forget (fun e1 he1 => ?_)
    have f0_1 := congrArg (fun q => Env.get q 0) he1
    simp only [ofList_cons, ofList_nil, Env.put_some, Env.put_none, Env.get_set, Env.get_set, Nat.reduceEqDiff, reduceIte, if_true, if_false, eq_self] at f0_1
    clear he1
    refine W.seq ?_
    refine W.region (fun K hK => ?_)
    simp (config := { maxSteps := 10000000 }) only [go_sem, ↓forkQ_true, ↓forkQ_false, ↓guardQ_some, ↓resQ_val, ↓resQ_unit, ↓resQ_enter, ↓retQ_some, ↓resFQ_val, ↓resFQ_unit, ↓resFQ_enter, ↓retFQ_some, Nat.reduceEqDiff, reduceIte, Nat.reduceAdd, Nat.reduceMul, Nat.reduceSub, reduceCtorEq, Nat.reduceLeDiff, f0_1, h0, h1024]
    refine hK _ _ ?_
    clear hK K
    refine W.forget (fun e2 he2 => ?_)
    have f0_2 := congrArg (fun q => Env.get q 0) he2
    simp only [Env.put_some, Env.put_none, Env.get_set, Env.get_set, Nat.reduceEqDiff, reduceIte, if_true, if_false, eq_self, f0_1] at f0_2
    have f2_2 := congrArg (fun q => Env.get q 2) he2
    simp only [Env.put_some, Env.put_none, Env.get_set, Env.get_set, Nat.reduceEqDiff, reduceIte, if_true, if_false, eq_self] at f2_2
    clear he2 f0_1
    refine W.thenN ?_
    refine W.seq ?_
    refine W.seq ?_
    refine W.region (fun K hK => ?_)
    simp (config := { maxSteps := 10000000 }) only [go_sem, ↓forkQ_true, ↓forkQ_false, ↓guardQ_some, ↓resQ_val, ↓resQ_unit, ↓resQ_enter, ↓retQ_some, ↓resFQ_val, ↓resFQ_unit, ↓resFQ_enter, ↓retFQ_some, Nat.reduceEqDiff, reduceIte, Nat.reduceAdd, Nat.reduceMul, Nat.reduceSub, reduceCtorEq, Nat.reduceLeDiff, f0_2, f2_2, h0, h1024]
    refine hK _ _ ?_
    clear hK K
    refine W.forget (fun e3 he3 => ?_)
    have f0_3 := congrArg (fun q => Env.get q 0) he3
    simp only [Env.put_some, Env.put_none, Env.get_set, Env.get_set, Nat.reduceEqDiff, reduceIte, if_true, if_false, eq_self, f0_2] at f0_3
    have f2_3 := congrArg (fun q => Env.get q 2) he3
    simp only [Env.put_some, Env.put_none, Env.get_set, Env.get_set, Nat.reduceEqDiff, reduceIte, if_true, if_false, eq_self, f2_2] at f2_3
    have f7_3 := congrArg (fun q => Env.get q 7) he3
    simp only [Env.put_some, Env.put_none, Env.get_set, Env.get_set, Nat.reduceEqDiff, reduceIte, if_true, if_false, eq_self] at f7_3
    clear he3 f0_2 f2_2
    refine W.thenN ?_
    refine W.cond f7_3 (fun hc4 => ?_) (fun hc4 => ?_)
    · first
      | (cases hc4; done)
      | (exfalso; simp only [decide_eq_true_eq, decide_eq_false_iff_not, Bool.not_eq_true', Bool.not_eq_false', Bool.not_eq_eq_eq_not, Bool.not_true, Bool.not_false] at hc4; omega)
      | (skip
         try simp only [decide_eq_true_eq, decide_eq_false_iff_not, Bool.not_eq_true', Bool.not_eq_false', Bool.not_eq_eq_eq_not, Bool.not_true, Bool.not_false] at hc4
         refine W.seq ?_
         refine W.region (fun K hK => ?_)
         simp (config := { maxSteps := 10000000 }) only [go_sem, ↓forkQ_true, ↓forkQ_false, ↓guardQ_some, ↓resQ_val, ↓resQ_unit, ↓resQ_enter, ↓retQ_some, ↓resFQ_val, ↓resFQ_unit, ↓resFQ_enter, ↓retFQ_some, Nat.reduceEqDiff, reduceIte, Nat.reduceAdd, Nat.reduceMul, Nat.reduceSub, reduceCtorEq, Nat.reduceLeDiff, f0_3, f2_3, f7_3, h0, h1024]
         refine hK _ _ ?_
         clear hK K
         refine W.forget (fun e5 he5 => ?_)
         have f0_5 := congrArg (fun q => Env.get q 0) he5
         simp only [Env.put_some, Env.put_none, Env.get_set, Env.get_set, Nat.reduceEqDiff, reduceIte, if_true, if_false, eq_self, f0_3] at f0_5
         have f2_5 := congrArg (fun q => Env.get q 2) he5
         simp only [Env.put_some, Env.put_none, Env.get_set, Env.get_set, Nat.reduceEqDiff, reduceIte, if_true, if_false, eq_self, f2_3] at f2_5
         clear he5 f0_3 f2_3 f7_3
         refine W.thenN ?_
         refine W.ret ?_
         refine W.thenR ?_
         rw [flatQ_ret]
         simp only [go_sem, ↓forkQ_true, ↓forkQ_false, ↓guardQ_some, ↓resQ_val, ↓resQ_unit, ↓resQ_enter, ↓retQ_some, ↓resFQ_val, ↓resFQ_unit, ↓resFQ_enter, ↓retFQ_some, Nat.reduceEqDiff, reduceIte, Nat.reduceAdd, Nat.reduceMul, Nat.reduceSub, reduceCtorEq, Nat.reduceLeDiff, f0_5, f2_5]
         first
           | (rw [hR (v := 3) (by unfold errAt; rw [if_pos (by unfold rngBad; omega)]) (by omega)]; simp only [go_sem, ↓forkQ_true, ↓forkQ_false, ↓guardQ_some, ↓resQ_val, ↓resQ_unit, ↓resQ_enter, ↓retQ_some, ↓resFQ_val, ↓resFQ_unit, ↓resFQ_enter, ↓retFQ_some, Nat.reduceEqDiff, reduceIte, Nat.reduceAdd, Nat.reduceMul, Nat.reduceSub, reduceCtorEq, Nat.reduceLeDiff, ex.wr, ex.fact']; done)
           | (rw [hR (v := 12) (by unfold errAt; rw [if_neg (by unfold rngBad; omega), if_pos (by omega)]) (by omega)]; simp only [go_sem, ↓forkQ_true, ↓forkQ_false, ↓guardQ_some, ↓resQ_val, ↓resQ_unit, ↓resQ_enter, ↓retQ_some, ↓resFQ_val, ↓resFQ_unit, ↓resFQ_enter, ↓retFQ_some, Nat.reduceEqDiff, reduceIte, Nat.reduceAdd, Nat.reduceMul, Nat.reduceSub, reduceCtorEq, Nat.reduceLeDiff, ex.wr, ex.fact']; done)
           | (have hz : chk l l.length 0 = 0 := by rw [← hr, show l.length - i = 0 by omega]; rfl
              rw [hz]; simp only [go_sem, ↓forkQ_true, ↓forkQ_false, ↓guardQ_some, ↓resQ_val, ↓resQ_unit, ↓resQ_enter, ↓retQ_some, ↓resFQ_val, ↓resFQ_unit, ↓resFQ_enter, ↓retFQ_some, Nat.reduceEqDiff, reduceIte, Nat.reduceAdd, Nat.reduceMul, Nat.reduceSub, reduceCtorEq, Nat.reduceLeDiff, ex.wr]; done))
    · first
      | (cases hc4; done)
      | (exfalso; simp only [decide_eq_true_eq, decide_eq_false_iff_not, Bool.not_eq_true', Bool.not_eq_false', Bool.not_eq_eq_eq_not, Bool.not_true, Bool.not_false] at hc4; omega)
      | (skip
         try simp only [decide_eq_true_eq, decide_eq_false_iff_not, Bool.not_eq_true', Bool.not_eq_false', Bool.not_eq_eq_eq_not, Bool.not_true, Bool.not_false] at hc4
         refine W.skip ?_
         refine W.thenN ?_
         refine W.seq ?_
         refine W.seq ?_
         refine W.region (fun K hK => ?_)
         simp (config := { maxSteps := 10000000 }) only [go_sem, ↓forkQ_true, ↓forkQ_false, ↓guardQ_some, ↓resQ_val, ↓resQ_unit, ↓resQ_enter, ↓retQ_some, ↓resFQ_val, ↓resFQ_unit, ↓resFQ_enter, ↓retFQ_some, Nat.reduceEqDiff, reduceIte, Nat.reduceAdd, Nat.reduceMul, Nat.reduceSub, reduceCtorEq, Nat.reduceLeDiff, f0_3, f2_3, f7_3, h0, h1024]
         refine hK _ _ ?_
         clear hK K
         refine W.forget (fun e6 he6 => ?_)
         have f0_6 := congrArg (fun q => Env.get q 0) he6
         simp only [Env.put_some, Env.put_none, Env.get_set, Env.get_set, Nat.reduceEqDiff, reduceIte, if_true, if_false, eq_self, f0_3] at f0_6
         have f2_6 := congrArg (fun q => Env.get q 2) he6
         simp only [Env.put_some, Env.put_none, Env.get_set, Env.get_set, Nat.reduceEqDiff, reduceIte, if_true, if_false, eq_self, f2_3] at f2_6
         have f10_6 := congrArg (fun q => Env.get q 10) he6
         simp only [Env.put_some, Env.put_none, Env.get_set, Env.get_set, Nat.reduceEqDiff, reduceIte, if_true, if_false, eq_self] at f10_6
         clear he6 f0_3 f2_3 f7_3
         refine W.thenN ?_
         refine W.cond f10_6 (fun hc7 => ?_) (fun hc7 => ?_)
         · first
           | (cases hc7; done)
           | (exfalso; simp only [decide_eq_true_eq, decide_eq_false_iff_not, Bool.not_eq_true', Bool.not_eq_false', Bool.not_eq_eq_eq_not, Bool.not_true, Bool.not_false] at hc7; omega)
           | (skip
              try simp only [decide_eq_true_eq, decide_eq_false_iff_not, Bool.not_eq_true', Bool.not_eq_false', Bool.not_eq_eq_eq_not, Bool.not_true, Bool.not_false] at hc7
              refine W.seq ?_
              refine W.region (fun K hK => ?_)
              simp (config := { maxSteps := 10000000 }) only [go_sem, ↓forkQ_true, ↓forkQ_false, ↓guardQ_some, ↓resQ_val, ↓resQ_unit, ↓resQ_enter, ↓retQ_some, ↓resFQ_val, ↓resFQ_unit, ↓resFQ_enter, ↓retFQ_some, Nat.reduceEqDiff, reduceIte, Nat.reduceAdd, Nat.reduceMul, Nat.reduceSub, reduceCtorEq, Nat.reduceLeDiff, f0_6, f2_6, f10_6, h0, h1024]
              refine hK _ _ ?_
              clear hK K
              refine W.forget (fun e8 he8 => ?_)
              have f0_8 := congrArg (fun q => Env.get q 0) he8
              simp only [Env.put_some, Env.put_none, Env.get_set, Env.get_set, Nat.reduceEqDiff, reduceIte, if_true, if_false, eq_self, f0_6] at f0_8
              have f2_8 := congrArg (fun q => Env.get q 2) he8
              simp only [Env.put_some, Env.put_none, Env.get_set, Env.get_set, Nat.reduceEqDiff, reduceIte, if_true, if_false, eq_self, f2_6] at f2_8
              clear he8 f0_6 f2_6 f10_6
              refine W.thenN ?_
              refine W.ret ?_
              refine W.thenR ?_
              rw [flatQ_ret]
              simp only [go_sem, ↓forkQ_true, ↓forkQ_false, ↓guardQ_some, ↓resQ_val, ↓resQ_unit, ↓resQ_enter, ↓retQ_some, ↓resFQ_val, ↓resFQ_unit, ↓resFQ_enter, ↓retFQ_some, Nat.reduceEqDiff, reduceIte, Nat.reduceAdd, Nat.reduceMul, Nat.reduceSub, reduceCtorEq, Nat.reduceLeDiff, f0_8, f2_8]
              first
                | (rw [hR (v := 3) (by unfold errAt; rw [if_pos (by unfold rngBad; omega)]) (by omega)]; simp only [go_sem, ↓forkQ_true, ↓forkQ_false, ↓guardQ_some, ↓resQ_val, ↓resQ_unit, ↓resQ_enter, ↓retQ_some, ↓resFQ_val, ↓resFQ_unit, ↓resFQ_enter, ↓retFQ_some, Nat.reduceEqDiff, reduceIte, Nat.reduceAdd, Nat.reduceMul, Nat.reduceSub, reduceCtorEq, Nat.reduceLeDiff, ex.wr, ex.fact']; done)
                | (rw [hR (v := 12) (by unfold errAt; rw [if_neg (by unfold rngBad; omega), if_pos (by omega)]) (by omega)]; simp only [go_sem, ↓forkQ_true, ↓forkQ_false, ↓guardQ_some, ↓resQ_val, ↓resQ_unit, ↓resQ_enter, ↓retQ_some, ↓resFQ_val, ↓resFQ_unit, ↓resFQ_enter, ↓retFQ_some, Nat.reduceEqDiff, reduceIte, Nat.reduceAdd, Nat.reduceMul, Nat.reduceSub, reduceCtorEq, Nat.reduceLeDiff, ex.wr, ex.fact']; done)
                | (have hz : chk l l.length 0 = 0 := by rw [← hr, show l.length - i = 0 by omega]; rfl
                   rw [hz]; simp only [go_sem, ↓forkQ_true, ↓forkQ_false, ↓guardQ_some, ↓resQ_val, ↓resQ_unit, ↓resQ_enter, ↓retQ_some, ↓resFQ_val, ↓resFQ_unit, ↓resFQ_enter, ↓retFQ_some, Nat.reduceEqDiff, reduceIte, Nat.reduceAdd, Nat.reduceMul, Nat.reduceSub, reduceCtorEq, Nat.reduceLeDiff, ex.wr]; done))
         · first
           | (cases hc7; done)
           | (exfalso; simp only [decide_eq_true_eq, decide_eq_false_iff_not, Bool.not_eq_true', Bool.not_eq_false', Bool.not_eq_eq_eq_not, Bool.not_true, Bool.not_false] at hc7; omega)
           | (skip
              try simp only [decide_eq_true_eq, decide_eq_false_iff_not, Bool.not_eq_true', Bool.not_eq_false', Bool.not_eq_eq_eq_not, Bool.not_true, Bool.not_false] at hc7
              refine W.skip ?_
              refine W.thenN ?_
              refine W.seq ?_
              refine W.seq ?_
              refine W.region (fun K hK => ?_)
              simp (config := { maxSteps := 10000000 }) only [go_sem, ↓forkQ_true, ↓forkQ_false, ↓guardQ_some, ↓resQ_val, ↓resQ_unit, ↓resQ_enter, ↓retQ_some, ↓resFQ_val, ↓resFQ_unit, ↓resFQ_enter, ↓retFQ_some, Nat.reduceEqDiff, reduceIte, Nat.reduceAdd, Nat.reduceMul, Nat.reduceSub, reduceCtorEq, Nat.reduceLeDiff, f0_6, f2_6, f10_6, h0, h1024]
              refine hK _ _ ?_
              clear hK K
              refine W.forget (fun e9 he9 => ?_)
              have f0_9 := congrArg (fun q => Env.get q 0) he9
              simp only [Env.put_some, Env.put_none, Env.get_set, Env.get_set, Nat.reduceEqDiff, reduceIte, if_true, if_false, eq_self, f0_6] at f0_9
              have f2_9 := congrArg (fun q => Env.get q 2) he9
              simp only [Env.put_some, Env.put_none, Env.get_set, Env.get_set, Nat.reduceEqDiff, reduceIte, if_true, if_false, eq_self, f2_6] at f2_9
              have f3_9 := congrArg (fun q => Env.get q 3) he9
              simp only [Env.put_some, Env.put_none, Env.get_set, Env.get_set, Nat.reduceEqDiff, reduceIte, if_true, if_false, eq_self] at f3_9
              clear he9 f0_6 f2_6 f10_6
              refine W.thenN ?_
              refine W.block ?_
              refine wq_rounds (fun i => l.length - i) (I15 l a c h) ?_ 0 _ _ ?_
              · intro i e10 k1 hi
                have f0_10 := hi.e0
                have f3_10 := hi.e3
                have ex := hi.ex
                have hle := hi.le
                have hr := hi.r
                refine W.seq ?_
                refine W.seq ?_
                refine W.region (fun K hK => ?_)
                simp (config := { maxSteps := 10000000 }) only [go_sem, ↓forkQ_true, ↓forkQ_false, ↓guardQ_some, ↓resQ_val, ↓resQ_unit, ↓resQ_enter, ↓retQ_some, ↓resFQ_val, ↓resFQ_unit, ↓resFQ_enter, ↓retFQ_some, Nat.reduceEqDiff, reduceIte, Nat.reduceAdd, Nat.reduceMul, Nat.reduceSub, reduceCtorEq, Nat.reduceLeDiff, f0_10, f3_10, h0, h1024]
                refine hK _ _ ?_
                clear hK K
                refine W.forget (fun e11 he11 => ?_)
                have f0_11 := congrArg (fun q => Env.get q 0) he11
                simp only [Env.put_some, Env.put_none, Env.get_set, Env.get_set, Nat.reduceEqDiff, reduceIte, if_true, if_false, eq_self, f0_10] at f0_11
                have f3_11 := congrArg (fun q => Env.get q 3) he11
                simp only [Env.put_some, Env.put_none, Env.get_set, Env.get_set, Nat.reduceEqDiff, reduceIte, if_true, if_false, eq_self, f3_10] at f3_11
                have f14_11 := congrArg (fun q => Env.get q 14) he11
                simp only [Env.put_some, Env.put_none, Env.get_set, Env.get_set, Nat.reduceEqDiff, reduceIte, if_true, if_false, eq_self] at f14_11
                clear he11 f0_10 f3_10
                refine W.thenN ?_
                refine W.cond f14_11 (fun hc12 => ?_) (fun hc12 => ?_)
                · first
                  | (cases hc12; done)
                  | (exfalso; simp only [decide_eq_true_eq, decide_eq_false_iff_not, Bool.not_eq_true', Bool.not_eq_false', Bool.not_eq_eq_eq_not, Bool.not_true, Bool.not_false] at hc12; omega)
                  | (skip
                     try simp only [decide_eq_true_eq, decide_eq_false_iff_not, Bool.not_eq_true', Bool.not_eq_false', Bool.not_eq_eq_eq_not, Bool.not_true, Bool.not_false] at hc12
                     refine W.skip ?_
                     refine W.thenN ?_
                     refine W.seq ?_
                     refine W.block ?_
                     refine W.seq ?_
                     refine W.region (fun K hK => ?_)
                     have hlt : i < l.length := by omega
                     have hir := inRange_nat hlt
                     obtain ⟨b, blk, ext, rfl, hb, hcs, hbl⟩ := hg (ne_of_lt hlt)
                     have hb' := (ex.get b hbl).trans hb
                     have hbn := ex.ne hbl
                     have hbn' := ex.ne' hbl
                     have hf' := ex.fact'
                     have hw := ex.wr
                     have hcut := gcut (ext := ext) hlt
                     have hx := gcell0 (l := l) (ext := ext) (i := i - 1) (by omega)
                     have hadd : wrapF .i64 ((i : Int) + 1) = ((i + 1 : Nat) : Int) := by rw [w64_in _ (by omega)]; omega
                     have hsub : wrapF .i64 ((i : Int) - 1) = (i : Int) - 1 := w64_in _ (by omega)
                     have hnat : ((i : Int) - 1).toNat = i - 1 := by omega
                     have hir' : inRange ((i : Int) - 1) l.length = decide (0 < (i : Int)) := by
                       by_cases h0 : 0 < (i : Int)
                       · rw [show (i : Int) - 1 = ((i - 1 : Nat) : Int) by omega, inRange_nat (show i - 1 < l.length by omega)]; simp; omega
                       · have : i = 0 := by omega
                         subst this; rfl
                     have hr1 : l.length - i = (l.length - (i + 1)) + 1 := by omega
                     rw [hr1] at hr
                     have hR : ∀ {v : Int}, errAt l i = v → v ≠ 0 → chk l l.length 0 = v := fun {v} he hv => by
                       rw [← hr, chk, he, if_neg hv]
                     have next : errAt l i = 0 → ∀ (e1 : Env) (h2 : Heap), e1.get 0 = .slice (some ⟨b, 0, none⟩) l.length c → e1.get 3 = .int .i64 ((i + 1 : Nat) : Int) → Ext h h2 → again (fun i => l.length - i) (I15 l (some ⟨b, 0, none⟩) c h) i e1 h2 :=
                       fun he e1 h2 k0 k13 kx => ⟨i + 1, by dsimp only; omega, kx, k0, k13, hlt, by rw [← hr, chk, if_pos he]⟩
                     simp (config := { maxSteps := 10000000 }) only [go_sem, ↓forkQ_true, ↓forkQ_false, ↓guardQ_some, ↓resQ_val, ↓resQ_unit, ↓resQ_enter, ↓retQ_some, ↓resFQ_val, ↓resFQ_unit, ↓resFQ_enter, ↓retFQ_some, Nat.reduceEqDiff, reduceIte, Nat.reduceAdd, Nat.reduceMul, Nat.reduceSub, reduceCtorEq, Nat.reduceLeDiff, f0_11, f3_11, f14_11, h0, h1024, hir, hb', hbn, hbn', hw, hf', hcs, hcut, hx, hadd, hsub, hnat, hir']
                     refine hK _ _ ?_
                     clear hK K
                     refine W.forget (fun e13 he13 => ?_)
                     have f0_13 := congrArg (fun q => Env.get q 0) he13
                     simp only [Env.put_some, Env.put_none, Env.get_set, Env.get_set, Nat.reduceEqDiff, reduceIte, if_true, if_false, eq_self, f0_11] at f0_13
                     have f3_13 := congrArg (fun q => Env.get q 3) he13
                     simp only [Env.put_some, Env.put_none, Env.get_set, Env.get_set, Nat.reduceEqDiff, reduceIte, if_true, if_false, eq_self, f3_11] at f3_13
                     have f4_13 := congrArg (fun q => Env.get q 4) he13
                     simp only [Env.put_some, Env.put_none, Env.get_set, Env.get_set, Nat.reduceEqDiff, reduceIte, if_true, if_false, eq_self] at f4_13
                     clear he13 f0_11 f3_11 f14_11
                     refine W.thenN ?_
                     refine W.seq ?_
                     refine W.seq ?_
                     refine W.regionA (fun A hA K hK => ?_)
                     have gd3 := guardAt hA (j := 3) (d := 24) rfl
                     have gd8 := guardAt hA (j := 8) (d := 29) rfl
                     have gd13 := guardAt hA (j := 13) (d := 34) rfl
                     have gd18 := guardAt hA (j := 18) (d := 39) rfl
                     have gd23 := guardAt hA (j := 23) (d := 44) rfl
                     clear hA
                     simp (config := { maxSteps := 10000000 }) only [go_sem, ↓forkQ_true, ↓forkQ_false, ↓guardQ_some, ↓resQ_val, ↓resQ_unit, ↓resQ_enter, ↓retQ_some, ↓resFQ_val, ↓resFQ_unit, ↓resFQ_enter, ↓retFQ_some, Nat.reduceEqDiff, reduceIte, Nat.reduceAdd, Nat.reduceMul, Nat.reduceSub, reduceCtorEq, Nat.reduceLeDiff, f0_13, f3_13, f4_13, h0, h1024, hir, hb', hbn, hbn', hw, hf', hcs, hcut, hx, hadd, hsub, hnat, hir', gd3, gd8, gd13, gd18, gd23]
                     repeat' (first | (refine W.forkP (fun hc14 => ?_) (fun hc14 => ?_) <;> simp (config := { maxSteps := 10000000 }) only [go_sem, ↓forkQ_true, ↓forkQ_false, ↓guardQ_some, ↓resQ_val, ↓resQ_unit, ↓resQ_enter, ↓retQ_some, ↓resFQ_val, ↓resFQ_unit, ↓resFQ_enter, ↓retFQ_some, Nat.reduceEqDiff, reduceIte, Nat.reduceAdd, Nat.reduceMul, Nat.reduceSub, reduceCtorEq, Nat.reduceLeDiff, f0_13, f3_13, f4_13, h0, h1024, hir, hb', hbn, hbn', hw, hf', hcs, hcut, hx, hadd, hsub, hnat, hir', gd3, gd8, gd13, gd18, gd23, hc14]) | (refine W.fork (fun hc14 => ?_) (fun hc14 => ?_) <;> simp (config := { maxSteps := 10000000 }) only [go_sem, ↓forkQ_true, ↓forkQ_false, ↓guardQ_some, ↓resQ_val, ↓resQ_unit, ↓resQ_enter, ↓retQ_some, ↓resFQ_val, ↓resFQ_unit, ↓resFQ_enter, ↓retFQ_some, Nat.reduceEqDiff, reduceIte, Nat.reduceAdd, Nat.reduceMul, Nat.reduceSub, reduceCtorEq, Nat.reduceLeDiff, f0_13, f3_13, f4_13, h0, h1024, hir, hb', hbn, hbn', hw, hf', hcs, hcut, hx, hadd, hsub, hnat, hir', gd3, gd8, gd13, gd18, gd23, hc14]))
                     all_goals
                       refine hK _ _ ?_
                       clear hK K A gd3 gd8 gd13 gd18 gd23
                       refine W.forget (fun e14 he14 => ?_)
                       have f0_14 := congrArg (fun q => Env.get q 0) he14
                       simp only [Env.put_some, Env.put_none, Env.get_set, Env.get_set, Nat.reduceEqDiff, reduceIte, if_true, if_false, eq_self, f0_13] at f0_14
                       have f3_14 := congrArg (fun q => Env.get q 3) he14
                       simp only [Env.put_some, Env.put_none, Env.get_set, Env.get_set, Nat.reduceEqDiff, reduceIte, if_true, if_false, eq_self, f3_13] at f3_14
                       have f4_14 := congrArg (fun q => Env.get q 4) he14
                       simp only [Env.put_some, Env.put_none, Env.get_set, Env.get_set, Nat.reduceEqDiff, reduceIte, if_true, if_false, eq_self, f4_13] at f4_14
                       have f48_14 := congrArg (fun q => Env.get q 48) he14
                       simp only [Env.put_some, Env.put_none, Env.get_set, Env.get_set, Nat.reduceEqDiff, reduceIte, if_true, if_false, eq_self] at f48_14
                       clear he14 f0_13 f3_13 f4_13
                       refine W.thenN ?_
                       refine W.cond f48_14 (fun hc15 => ?_) (fun hc15 => ?_)
                       · first
                         | (cases hc15; done)
                         | (exfalso; simp only [decide_eq_true_eq, decide_eq_false_iff_not, Bool.not_eq_true', Bool.not_eq_false', Bool.not_eq_eq_eq_not, Bool.not_true, Bool.not_false] at hc15; omega)
                         | (skip
                            try simp only [decide_eq_true_eq, decide_eq_false_iff_not, Bool.not_eq_true', Bool.not_eq_false', Bool.not_eq_eq_eq_not, Bool.not_true, Bool.not_false] at hc15
                            refine W.seq ?_
                            refine W.region (fun K hK => ?_)
                            simp (config := { maxSteps := 10000000 }) only [go_sem, ↓forkQ_true, ↓forkQ_false, ↓guardQ_some, ↓resQ_val, ↓resQ_unit, ↓resQ_enter, ↓retQ_some, ↓resFQ_val, ↓resFQ_unit, ↓resFQ_enter, ↓retFQ_some, Nat.reduceEqDiff, reduceIte, Nat.reduceAdd, Nat.reduceMul, Nat.reduceSub, reduceCtorEq, Nat.reduceLeDiff, f0_14, f3_14, f4_14, f48_14, h0, h1024, hir, hb', hbn, hbn', hw, hf', hcs, hcut, hx, hadd, hsub, hnat, hir']
                            refine hK _ _ ?_
                            clear hK K
                            refine W.forget (fun e16 he16 => ?_)
                            have f0_16 := congrArg (fun q => Env.get q 0) he16
                            simp only [Env.put_some, Env.put_none, Env.get_set, Env.get_set, Nat.reduceEqDiff, reduceIte, if_true, if_false, eq_self, f0_14] at f0_16
                            have f2_16 := congrArg (fun q => Env.get q 2) he16
                            simp only [Env.put_some, Env.put_none, Env.get_set, Env.get_set, Nat.reduceEqDiff, reduceIte, if_true, if_false, eq_self] at f2_16
                            have f3_16 := congrArg (fun q => Env.get q 3) he16
                            simp only [Env.put_some, Env.put_none, Env.get_set, Env.get_set, Nat.reduceEqDiff, reduceIte, if_true, if_false, eq_self, f3_14] at f3_16
                            have f4_16 := congrArg (fun q => Env.get q 4) he16
                            simp only [Env.put_some, Env.put_none, Env.get_set, Env.get_set, Nat.reduceEqDiff, reduceIte, if_true, if_false, eq_self, f4_14] at f4_16
                            clear he16 f0_14 f3_14 f4_14 f48_14
                            refine W.thenN ?_
                            refine W.ret ?_
                            refine W.thenR ?_
                            refine W.blockR ?_
                            refine W.thenR ?_
                            refine W.thenR ?_
                            refine W.blockR ?_
                            refine W.thenR ?_
                            rw [flatQ_ret]
                            simp only [go_sem, ↓forkQ_true, ↓forkQ_false, ↓guardQ_some, ↓resQ_val, ↓resQ_unit, ↓resQ_enter, ↓retQ_some, ↓resFQ_val, ↓resFQ_unit, ↓resFQ_enter, ↓retFQ_some, Nat.reduceEqDiff, reduceIte, Nat.reduceAdd, Nat.reduceMul, Nat.reduceSub, reduceCtorEq, Nat.reduceLeDiff, f0_16, f2_16, f3_16, f4_16]
                            first
                              | (rw [hR (v := 3) (by unfold errAt; rw [if_pos (by unfold rngBad; omega)]) (by omega)]; simp only [go_sem, ↓forkQ_true, ↓forkQ_false, ↓guardQ_some, ↓resQ_val, ↓resQ_unit, ↓resQ_enter, ↓retQ_some, ↓resFQ_val, ↓resFQ_unit, ↓resFQ_enter, ↓retFQ_some, Nat.reduceEqDiff, reduceIte, Nat.reduceAdd, Nat.reduceMul, Nat.reduceSub, reduceCtorEq, Nat.reduceLeDiff, ex.wr, ex.fact']; done)
                              | (rw [hR (v := 12) (by unfold errAt; rw [if_neg (by unfold rngBad; omega), if_pos (by omega)]) (by omega)]; simp only [go_sem, ↓forkQ_true, ↓forkQ_false, ↓guardQ_some, ↓resQ_val, ↓resQ_unit, ↓resQ_enter, ↓retQ_some, ↓resFQ_val, ↓resFQ_unit, ↓resFQ_enter, ↓retFQ_some, Nat.reduceEqDiff, reduceIte, Nat.reduceAdd, Nat.reduceMul, Nat.reduceSub, reduceCtorEq, Nat.reduceLeDiff, ex.wr, ex.fact']; done)
                              | (have hz : chk l l.length 0 = 0 := by rw [← hr, show l.length - i = 0 by omega]; rfl
                                 rw [hz]; simp only [go_sem, ↓forkQ_true, ↓forkQ_false, ↓guardQ_some, ↓resQ_val, ↓resQ_unit, ↓resQ_enter, ↓retQ_some, ↓resFQ_val, ↓resFQ_unit, ↓resFQ_enter, ↓retFQ_some, Nat.reduceEqDiff, reduceIte, Nat.reduceAdd, Nat.reduceMul, Nat.reduceSub, reduceCtorEq, Nat.reduceLeDiff, ex.wr]; done))
                       · first
                         | (cases hc15; done)
                         | (exfalso; simp only [decide_eq_true_eq, decide_eq_false_iff_not, Bool.not_eq_true', Bool.not_eq_false', Bool.not_eq_eq_eq_not, Bool.not_true, Bool.not_false] at hc15; omega)
                         | (skip
                            try simp only [decide_eq_true_eq, decide_eq_false_iff_not, Bool.not_eq_true', Bool.not_eq_false', Bool.not_eq_eq_eq_not, Bool.not_true, Bool.not_false] at hc15
                            refine W.skip ?_
                            refine W.thenN ?_
                            refine W.seq ?_
                            refine W.drawA dr15_11 (fun A hA K hK => ?_)
                            have gd5 := guardAt hA (j := 5) (d := 54) rfl
                            have gd8 := guardAt hA (j := 8) (d := 57) rfl
                            clear hA
                            simp (config := { maxSteps := 10000000 }) only [go_sem, ↓forkQ_true, ↓forkQ_false, ↓guardQ_some, ↓resQ_val, ↓resQ_unit, ↓resQ_enter, ↓retQ_some, ↓resFQ_val, ↓resFQ_unit, ↓resFQ_enter, ↓retFQ_some, Nat.reduceEqDiff, reduceIte, Nat.reduceAdd, Nat.reduceMul, Nat.reduceSub, reduceCtorEq, Nat.reduceLeDiff, f0_14, f3_14, f4_14, f48_14, h0, h1024, hir, hb', hbn, hbn', hw, hf', hcs, hcut, hx, hadd, hsub, hnat, hir', gd5, gd8]
                            repeat' (first | (refine W.forkP (fun hc17 => ?_) (fun hc17 => ?_) <;> simp (config := { maxSteps := 10000000 }) only [go_sem, ↓forkQ_true, ↓forkQ_false, ↓guardQ_some, ↓resQ_val, ↓resQ_unit, ↓resQ_enter, ↓retQ_some, ↓resFQ_val, ↓resFQ_unit, ↓resFQ_enter, ↓retFQ_some, Nat.reduceEqDiff, reduceIte, Nat.reduceAdd, Nat.reduceMul, Nat.reduceSub, reduceCtorEq, Nat.reduceLeDiff, f0_14, f3_14, f4_14, f48_14, h0, h1024, hir, hb', hbn, hbn', hw, hf', hcs, hcut, hx, hadd, hsub, hnat, hir', gd5, gd8, hc17]) | (refine W.fork (fun hc17 => ?_) (fun hc17 => ?_) <;> simp (config := { maxSteps := 10000000 }) only [go_sem, ↓forkQ_true, ↓forkQ_false, ↓guardQ_some, ↓resQ_val, ↓resQ_unit, ↓resQ_enter, ↓retQ_some, ↓resFQ_val, ↓resFQ_unit, ↓resFQ_enter, ↓retFQ_some, Nat.reduceEqDiff, reduceIte, Nat.reduceAdd, Nat.reduceMul, Nat.reduceSub, reduceCtorEq, Nat.reduceLeDiff, f0_14, f3_14, f4_14, f48_14, h0, h1024, hir, hb', hbn, hbn', hw, hf', hcs, hcut, hx, hadd, hsub, hnat, hir', gd5, gd8, hc17]))
                            all_goals
                              refine hK _ _ ?_
                              clear hK K A gd5 gd8
                              refine W.forget (fun e17 he17 => ?_)
                              have f0_17 := congrArg (fun q => Env.get q 0) he17
                              simp only [Env.put_some, Env.put_none, Env.get_set, Env.get_set, Nat.reduceEqDiff, reduceIte, if_true, if_false, eq_self, f0_14] at f0_17
                              have f3_17 := congrArg (fun q => Env.get q 3) he17
                              simp only [Env.put_some, Env.put_none, Env.get_set, Env.get_set, Nat.reduceEqDiff, reduceIte, if_true, if_false, eq_self, f3_14] at f3_17
                              have f68_17 := congrArg (fun q => Env.get q 68) he17
                              simp only [Env.put_some, Env.put_none, Env.get_set, Env.get_set, Nat.reduceEqDiff, reduceIte, if_true, if_false, eq_self] at f68_17
                              clear he17 f0_14 f3_14 f4_14 f48_14
                              refine W.thenN ?_
                              refine W.cond f68_17 (fun hc18 => ?_) (fun hc18 => ?_)
                              · first
                                | (cases hc18; done)
                                | (exfalso; simp only [decide_eq_true_eq, decide_eq_false_iff_not, Bool.not_eq_true', Bool.not_eq_false', Bool.not_eq_eq_eq_not, Bool.not_true, Bool.not_false] at hc18; omega)
                                | (skip
                                   try simp only [decide_eq_true_eq, decide_eq_false_iff_not, Bool.not_eq_true', Bool.not_eq_false', Bool.not_eq_eq_eq_not, Bool.not_true, Bool.not_false] at hc18
                                   refine W.seq ?_
                                   refine W.region (fun K hK => ?_)
                                   simp (config := { maxSteps := 10000000 }) only [go_sem, ↓forkQ_true, ↓forkQ_false, ↓guardQ_some, ↓resQ_val, ↓resQ_unit, ↓resQ_enter, ↓retQ_some, ↓resFQ_val, ↓resFQ_unit, ↓resFQ_enter, ↓retFQ_some, Nat.reduceEqDiff, reduceIte, Nat.reduceAdd, Nat.reduceMul, Nat.reduceSub, reduceCtorEq, Nat.reduceLeDiff, f0_17, f3_17, f68_17, h0, h1024, hir, hb', hbn, hbn', hw, hf', hcs, hcut, hx, hadd, hsub, hnat, hir']
                                   refine hK _ _ ?_
                                   clear hK K
                                   refine W.forget (fun e19 he19 => ?_)
                                   have f0_19 := congrArg (fun q => Env.get q 0) he19
                                   simp only [Env.put_some, Env.put_none, Env.get_set, Env.get_set, Nat.reduceEqDiff, reduceIte, if_true, if_false, eq_self, f0_17] at f0_19
                                   have f2_19 := congrArg (fun q => Env.get q 2) he19
                                   simp only [Env.put_some, Env.put_none, Env.get_set, Env.get_set, Nat.reduceEqDiff, reduceIte, if_true, if_false, eq_self] at f2_19
                                   have f3_19 := congrArg (fun q => Env.get q 3) he19
                                   simp only [Env.put_some, Env.put_none, Env.get_set, Env.get_set, Nat.reduceEqDiff, reduceIte, if_true, if_false, eq_self, f3_17] at f3_19
                                   clear he19 f0_17 f3_17 f68_17
                                   refine W.thenN ?_
                                   refine W.ret ?_
                                   refine W.blockR ?_
                                   refine W.thenR ?_
                                   refine W.thenR ?_
                                   refine W.blockR ?_
                                   refine W.thenR ?_
                                   rw [flatQ_ret]
                                   simp only [go_sem, ↓forkQ_true, ↓forkQ_false, ↓guardQ_some, ↓resQ_val, ↓resQ_unit, ↓resQ_enter, ↓retQ_some, ↓resFQ_val, ↓resFQ_unit, ↓resFQ_enter, ↓retFQ_some, Nat.reduceEqDiff, reduceIte, Nat.reduceAdd, Nat.reduceMul, Nat.reduceSub, reduceCtorEq, Nat.reduceLeDiff, f0_19, f2_19, f3_19]
                                   first
                                     | (rw [hR (v := 3) (by unfold errAt; rw [if_pos (by unfold rngBad; omega)]) (by omega)]; simp only [go_sem, ↓forkQ_true, ↓forkQ_false, ↓guardQ_some, ↓resQ_val, ↓resQ_unit, ↓resQ_enter, ↓retQ_some, ↓resFQ_val, ↓resFQ_unit, ↓resFQ_enter, ↓retFQ_some, Nat.reduceEqDiff, reduceIte, Nat.reduceAdd, Nat.reduceMul, Nat.reduceSub, reduceCtorEq, Nat.reduceLeDiff, ex.wr, ex.fact']; done)
                                     | (rw [hR (v := 12) (by unfold errAt; rw [if_neg (by unfold rngBad; omega), if_pos (by omega)]) (by omega)]; simp only [go_sem, ↓forkQ_true, ↓forkQ_false, ↓guardQ_some, ↓resQ_val, ↓resQ_unit, ↓resQ_enter, ↓retQ_some, ↓resFQ_val, ↓resFQ_unit, ↓resFQ_enter, ↓retFQ_some, Nat.reduceEqDiff, reduceIte, Nat.reduceAdd, Nat.reduceMul, Nat.reduceSub, reduceCtorEq, Nat.reduceLeDiff, ex.wr, ex.fact']; done)
                                     | (have hz : chk l l.length 0 = 0 := by rw [← hr, show l.length - i = 0 by omega]; rfl
                                        rw [hz]; simp only [go_sem, ↓forkQ_true, ↓forkQ_false, ↓guardQ_some, ↓resQ_val, ↓resQ_unit, ↓resQ_enter, ↓retQ_some, ↓resFQ_val, ↓resFQ_unit, ↓resFQ_enter, ↓retFQ_some, Nat.reduceEqDiff, reduceIte, Nat.reduceAdd, Nat.reduceMul, Nat.reduceSub, reduceCtorEq, Nat.reduceLeDiff, ex.wr]; done))
                              · first
                                | (cases hc18; done)
                                | (exfalso; simp only [decide_eq_true_eq, decide_eq_false_iff_not, Bool.not_eq_true', Bool.not_eq_false', Bool.not_eq_eq_eq_not, Bool.not_true, Bool.not_false] at hc18; omega)
                                | (skip
                                   try simp only [decide_eq_true_eq, decide_eq_false_iff_not, Bool.not_eq_true', Bool.not_eq_false', Bool.not_eq_eq_eq_not, Bool.not_true, Bool.not_false] at hc18
                                   refine W.skip ?_
                                   refine W.blockN ?_
                                   refine W.thenN ?_
                                   refine W.region (fun K hK => ?_)
                                   simp (config := { maxSteps := 10000000 }) only [go_sem, ↓forkQ_true, ↓forkQ_false, ↓guardQ_some, ↓resQ_val, ↓resQ_unit, ↓resQ_enter, ↓retQ_some, ↓resFQ_val, ↓resFQ_unit, ↓resFQ_enter, ↓retFQ_some, Nat.reduceEqDiff, reduceIte, Nat.reduceAdd, Nat.reduceMul, Nat.reduceSub, reduceCtorEq, Nat.reduceLeDiff, f0_17, f3_17, f68_17, h0, h1024, hir, hb', hbn, hbn', hw, hf', hcs, hcut, hx, hadd, hsub, hnat, hir']
                                   refine hK _ _ ?_
                                   clear hK K
                                   refine W.forget (fun e20 he20 => ?_)
                                   have f0_20 := congrArg (fun q => Env.get q 0) he20
                                   simp only [Env.put_some, Env.put_none, Env.get_set, Env.get_set, Nat.reduceEqDiff, reduceIte, if_true, if_false, eq_self, f0_17] at f0_20
                                   have f3_20 := congrArg (fun q => Env.get q 3) he20
                                   simp only [Env.put_some, Env.put_none, Env.get_set, Env.get_set, Nat.reduceEqDiff, reduceIte, if_true, if_false, eq_self, f3_17] at f3_20
                                   clear he20 f0_17 f3_17 f68_17
                                   refine W.thenN ?_
                                   have her : errAt l i = 0 := by unfold errAt; rw [if_neg (by unfold rngBad; omega), if_neg (by omega)]
                                   exact next her _ _ f0_20 f3_20 ((ex.alloc _).set ex.next _))))
                · first
                  | (cases hc12; done)
                  | (exfalso; simp only [decide_eq_true_eq, decide_eq_false_iff_not, Bool.not_eq_true', Bool.not_eq_false', Bool.not_eq_eq_eq_not, Bool.not_true, Bool.not_false] at hc12; omega)
                  | (skip
                     try simp only [decide_eq_true_eq, decide_eq_false_iff_not, Bool.not_eq_true', Bool.not_eq_false', Bool.not_eq_eq_eq_not, Bool.not_true, Bool.not_false] at hc12
                     refine W.exit ?_
                     refine W.thenE ?_
                     refine W.thenE ?_
                     refine W.blockE ?_
                     refine W.thenN ?_
                     refine W.seq ?_
                     refine W.region (fun K hK => ?_)
                     simp (config := { maxSteps := 10000000 }) only [go_sem, ↓forkQ_true, ↓forkQ_false, ↓guardQ_some, ↓resQ_val, ↓resQ_unit, ↓resQ_enter, ↓retQ_some, ↓resFQ_val, ↓resFQ_unit, ↓resFQ_enter, ↓retFQ_some, Nat.reduceEqDiff, reduceIte, Nat.reduceAdd, Nat.reduceMul, Nat.reduceSub, reduceCtorEq, Nat.reduceLeDiff, f0_11, f3_11, f14_11, h0, h1024]
                     refine hK _ _ ?_
                     clear hK K
                     refine W.forget (fun e21 he21 => ?_)
                     have f2_21 := congrArg (fun q => Env.get q 2) he21
                     simp only [Env.put_some, Env.put_none, Env.get_set, Env.get_set, Nat.reduceEqDiff, reduceIte, if_true, if_false, eq_self] at f2_21
                     clear he21 f0_11 f3_11 f14_11
                     refine W.thenN ?_
                     refine W.ret ?_
                     rw [flatQ_ret]
                     simp only [go_sem, ↓forkQ_true, ↓forkQ_false, ↓guardQ_some, ↓resQ_val, ↓resQ_unit, ↓resQ_enter, ↓retQ_some, ↓resFQ_val, ↓resFQ_unit, ↓resFQ_enter, ↓retFQ_some, Nat.reduceEqDiff, reduceIte, Nat.reduceAdd, Nat.reduceMul, Nat.reduceSub, reduceCtorEq, Nat.reduceLeDiff, f2_21]
                     first
                       | (rw [hR (v := 3) (by unfold errAt; rw [if_pos (by unfold rngBad; omega)]) (by omega)]; simp only [go_sem, ↓forkQ_true, ↓forkQ_false, ↓guardQ_some, ↓resQ_val, ↓resQ_unit, ↓resQ_enter, ↓retQ_some, ↓resFQ_val, ↓resFQ_unit, ↓resFQ_enter, ↓retFQ_some, Nat.reduceEqDiff, reduceIte, Nat.reduceAdd, Nat.reduceMul, Nat.reduceSub, reduceCtorEq, Nat.reduceLeDiff, ex.wr, ex.fact']; done)
                       | (rw [hR (v := 12) (by unfold errAt; rw [if_neg (by unfold rngBad; omega), if_pos (by omega)]) (by omega)]; simp only [go_sem, ↓forkQ_true, ↓forkQ_false, ↓guardQ_some, ↓resQ_val, ↓resQ_unit, ↓resQ_enter, ↓retQ_some, ↓resFQ_val, ↓resFQ_unit, ↓resFQ_enter, ↓retFQ_some, Nat.reduceEqDiff, reduceIte, Nat.reduceAdd, Nat.reduceMul, Nat.reduceSub, reduceCtorEq, Nat.reduceLeDiff, ex.wr, ex.fact']; done)
                       | (have hz : chk l l.length 0 = 0 := by rw [← hr, show l.length - i = 0 by omega]; rfl
                          rw [hz]; simp only [go_sem, ↓forkQ_true, ↓forkQ_false, ↓guardQ_some, ↓resQ_val, ↓resQ_unit, ↓resQ_enter, ↓retQ_some, ↓resFQ_val, ↓resFQ_unit, ↓resFQ_enter, ↓retFQ_some, Nat.reduceEqDiff, reduceIte, Nat.reduceAdd, Nat.reduceMul, Nat.reduceSub, reduceCtorEq, Nat.reduceLeDiff, ex.wr]; done))
              · exact ⟨Ext.low h, f0_9, f3_9, Nat.zero_le _, by simp⟩))
  · rfl
end Go.Proofs.Ytlblocieleildaa
