/- What mirrored gives. -/
import Derived.Test.YtlblocieleildaaSk9
import Derived.Test.YtlblocieleildaaAm32
set_option linter.unusedSimpArgs false
set_option linter.unusedVariables false
set_option maxRecDepth 20000
set_option maxHeartbeats 8000000
namespace Go.Proofs.Ytlblocieleildaa
open Go.Am

structure I39 (l : List Gt) (a : Option Addr) (c : Nat) (h : Heap) (i : Nat) (ar : Option Addr) (e : Env) (h1 : Heap) : Prop where
  ex : Ext h h1
  e3 : e.get 3 = .slice ar i i
  e6 : e.get 6 = .slice a l.length c
  e7 : e.get 7 = .int .i64 (l.length : Int)
  e8 : e.get 8 = .int .i64 (i : Int)
  le : i ≤ l.length
  ol : OL h1 ar i 3 (gcells ((turnedL l).take i)) i h.next
theorem c39 (l : List Gt) (a : Option Addr) (c : Nat) (h : Heap) (hg : GA h l a) (o : Ok l) (hl : l.length ≤ 24) : ∃ a' h', callW Try.prog SkH 39 [.slice a l.length c] h = some (.slice a' (turnedL l).length l.length, h', true) ∧ Grow h h' ∧ GA h' (turnedL l) a' := by
  obtain ⟨vs, h9, hR9, hc9⟩ := call_done (H := SkH) (rs := [.tmp 2]) (R := fun vs h9 => ∃ a1, vs = [.slice a1 l.length l.length] ∧ OL h9 a1 l.length 3 (gcells ((turnedL l).take l.length)) l.length h.next ∧ h9.wr = h.next) (args := [.slice a l.length c]) (h := h) Try.func39 rfl rfl (by
    skip
    refine W.forget (fun e1 he1 => ?_)
    have f0_1 := congrArg (fun q => Env.get q 0) he1
    simp only [ofList_cons, ofList_nil, go_sem, Nat.reduceEqDiff, reduceIte] at f0_1
    clear he1
    refine W.seq ?_
    refine W.region (fun K hK => ?_)
    simp (config := { maxSteps := 10000000 }) only [go_sem, ↓forkQ_true, ↓forkQ_false, ↓guardQ_some, ↓resQ_val, ↓resQ_unit, ↓resQ_enter, ↓retQ_some, ↓resFQ_val, ↓resFQ_unit, ↓resFQ_enter, ↓retFQ_some, Nat.reduceEqDiff, reduceIte, Nat.reduceAdd, Nat.reduceMul, Nat.reduceSub, reduceCtorEq, Nat.reduceLeDiff, f0_1]
    refine hK _ _ ?_
    clear hK K
    refine W.forget (fun e2 he2 => ?_)
    have f0_2 := congrArg (fun q => Env.get q 0) he2
    simp only [go_sem, Nat.reduceEqDiff, reduceIte, f0_1] at f0_2
    have f2_2 := congrArg (fun q => Env.get q 2) he2
    simp only [go_sem, Nat.reduceEqDiff, reduceIte] at f2_2
    clear he2 f0_1
    refine W.thenN ?_
    refine W.seq ?_
    refine W.region (fun K hK => ?_)
    simp (config := { maxSteps := 10000000 }) only [go_sem, ↓forkQ_true, ↓forkQ_false, ↓guardQ_some, ↓resQ_val, ↓resQ_unit, ↓resQ_enter, ↓retQ_some, ↓resFQ_val, ↓resFQ_unit, ↓resFQ_enter, ↓retFQ_some, Nat.reduceEqDiff, reduceIte, Nat.reduceAdd, Nat.reduceMul, Nat.reduceSub, reduceCtorEq, Nat.reduceLeDiff, f0_2, f2_2]
    refine hK _ _ ?_
    clear hK K
    refine W.forget (fun e3 he3 => ?_)
    have f0_3 := congrArg (fun q => Env.get q 0) he3
    simp only [go_sem, Nat.reduceEqDiff, reduceIte, f0_2] at f0_3
    have f2_3 := congrArg (fun q => Env.get q 2) he3
    simp only [go_sem, Nat.reduceEqDiff, reduceIte, f2_2] at f2_3
    have f3_3 := congrArg (fun q => Env.get q 3) he3
    simp only [go_sem, Nat.reduceEqDiff, reduceIte] at f3_3
    clear he3 f0_2 f2_2
    refine W.thenN ?_
    refine W.seq ?_
    refine W.seq ?_
    refine W.region (fun K hK => ?_)
    simp (config := { maxSteps := 10000000 }) only [go_sem, ↓forkQ_true, ↓forkQ_false, ↓guardQ_some, ↓resQ_val, ↓resQ_unit, ↓resQ_enter, ↓retQ_some, ↓resFQ_val, ↓resFQ_unit, ↓resFQ_enter, ↓retFQ_some, Nat.reduceEqDiff, reduceIte, Nat.reduceAdd, Nat.reduceMul, Nat.reduceSub, reduceCtorEq, Nat.reduceLeDiff, f0_3, f2_3, f3_3]
    refine hK _ _ ?_
    clear hK K
    refine W.forget (fun e4 he4 => ?_)
    have f2_4 := congrArg (fun q => Env.get q 2) he4
    simp only [go_sem, Nat.reduceEqDiff, reduceIte, f2_3] at f2_4
    have f3_4 := congrArg (fun q => Env.get q 3) he4
    simp only [go_sem, Nat.reduceEqDiff, reduceIte, f3_3] at f3_4
    have f6_4 := congrArg (fun q => Env.get q 6) he4
    simp only [go_sem, Nat.reduceEqDiff, reduceIte] at f6_4
    have f7_4 := congrArg (fun q => Env.get q 7) he4
    simp only [go_sem, Nat.reduceEqDiff, reduceIte] at f7_4
    have f8_4 := congrArg (fun q => Env.get q 8) he4
    simp only [go_sem, Nat.reduceEqDiff, reduceIte] at f8_4
    clear he4 f0_3 f2_3 f3_3
    refine W.thenN ?_
    refine W.block ?_
    refine wq_rounds (fun s : Nat × Option Addr => l.length - s.1) (fun s => I39 l a c h s.1 s.2) ?_ (0, none) _ _ ?_
    · intro ⟨i, ar⟩ e5 k1 hi
      replace hi : I39 l a c h i ar _ k1 := hi
      have f3_5 := hi.e3
      have f6_5 := hi.e6
      have f7_5 := hi.e7
      have f8_5 := hi.e8
      have ex := hi.ex
      have hle := hi.le
      have hadd : wrapF .i64 ((i : Int) + 1) = ((i + 1 : Nat) : Int) := by rw [w64_in _ (by omega)]; omega
      refine W.seq ?_
      refine W.region (fun K hK => ?_)
      simp (config := { maxSteps := 10000000 }) only [go_sem, ↓forkQ_true, ↓forkQ_false, ↓guardQ_some, ↓resQ_val, ↓resQ_unit, ↓resQ_enter, ↓retQ_some, ↓resFQ_val, ↓resFQ_unit, ↓resFQ_enter, ↓retFQ_some, Nat.reduceEqDiff, reduceIte, Nat.reduceAdd, Nat.reduceMul, Nat.reduceSub, reduceCtorEq, Nat.reduceLeDiff, f3_5, f6_5, f7_5, f8_5, hadd]
      refine hK _ _ ?_
      clear hK K
      refine W.forget (fun e6 he6 => ?_)
      have f3_6 := congrArg (fun q => Env.get q 3) he6
      simp only [go_sem, Nat.reduceEqDiff, reduceIte, f3_5] at f3_6
      have f6_6 := congrArg (fun q => Env.get q 6) he6
      simp only [go_sem, Nat.reduceEqDiff, reduceIte, f6_5] at f6_6
      have f7_6 := congrArg (fun q => Env.get q 7) he6
      simp only [go_sem, Nat.reduceEqDiff, reduceIte, f7_5] at f7_6
      have f8_6 := congrArg (fun q => Env.get q 8) he6
      simp only [go_sem, Nat.reduceEqDiff, reduceIte, f8_5] at f8_6
      have f9_6 := congrArg (fun q => Env.get q 9) he6
      simp only [go_sem, Nat.reduceEqDiff, reduceIte] at f9_6
      clear he6 f3_5 f6_5 f7_5 f8_5
      refine W.thenN ?_
      refine W.seq ?_
      refine W.cond f9_6 (fun hc7 => ?_) (fun hc7 => ?_)
      · first
        | (cases hc7; done)
        | (exfalso; simp only [decide_eq_true_eq, decide_eq_false_iff_not, Bool.not_eq_true', Bool.not_eq_false', Bool.not_eq_eq_eq_not, Bool.not_true, Bool.not_false] at hc7; omega)
        | (skip
           try simp only [decide_eq_true_eq, decide_eq_false_iff_not, Bool.not_eq_true', Bool.not_eq_false', Bool.not_eq_eq_eq_not, Bool.not_true, Bool.not_false] at hc7
           refine W.skip ?_
           refine W.thenN ?_
           refine W.seq ?_
           refine W.block ?_
           refine W.seq ?_
           refine W.region (fun K hK => ?_)
           have hlt : i < l.length := by omega
           have hir := inRange_nat hlt
           obtain ⟨b, blk, ext, rfl, hb, hcs, hbl⟩ := hg (ne_of_lt hlt)
           have hb' := (ex.get b hbl).trans hb
           have hbn := ex.ne hbl
           have hbn' := ex.ne' hbl
           have hcut := gcut (ext := ext) hlt
           have hf' := ex.fact'
           have hw := ex.wr
           simp (config := { maxSteps := 10000000 }) only [go_sem, ↓forkQ_true, ↓forkQ_false, ↓guardQ_some, ↓resQ_val, ↓resQ_unit, ↓resQ_enter, ↓retQ_some, ↓resFQ_val, ↓resFQ_unit, ↓resFQ_enter, ↓retFQ_some, Nat.reduceEqDiff, reduceIte, Nat.reduceAdd, Nat.reduceMul, Nat.reduceSub, reduceCtorEq, Nat.reduceLeDiff, f3_6, f6_6, f7_6, f8_6, f9_6, hadd, hir, hb', hcs, hbn, hbn', hcut, hf', hw]
           refine hK _ _ ?_
           clear hK K
           refine W.forget (fun e8 he8 => ?_)
           refine W.forgetH (fun k4 hk8 => ?_)
           have ex4 : Ext h k4 := by rw [hk8]; exact (ex.alloc _).set ex.next _
           have ol4 : OL k4 ar i 3 (gcells ((turnedL l).take i)) i h.next := hi.ol.ext (by rw [hk8]; exact Nat.le_succ _) (fun q h1 h2 => by rw [hk8, Heap.get_set_ne _ _ (by omega), Heap.get_alloc_ne _ _ (by omega)])
           have g5 : k4.get k1.next = some ⟨[.int .i64 (gt l i).x, .int .i64 (gt l i).lo, .int .i64 (gt l i).hi], true, false, none⟩ := by rw [hk8]; exact Heap.get_set_same _ _ _
           clear hk8
           have f3_8 := congrArg (fun q => Env.get q 3) he8
           simp only [go_sem, Nat.reduceEqDiff, reduceIte, f3_6] at f3_8
           have f5_8 := congrArg (fun q => Env.get q 5) he8
           simp only [go_sem, Nat.reduceEqDiff, reduceIte] at f5_8
           have f6_8 := congrArg (fun q => Env.get q 6) he8
           simp only [go_sem, Nat.reduceEqDiff, reduceIte, f6_6] at f6_8
           have f7_8 := congrArg (fun q => Env.get q 7) he8
           simp only [go_sem, Nat.reduceEqDiff, reduceIte, f7_6] at f7_8
           have f8_8 := congrArg (fun q => Env.get q 8) he8
           simp only [go_sem, Nat.reduceEqDiff, reduceIte, f8_6] at f8_8
           clear he8 f3_6 f6_6 f7_6 f8_6 f9_6
           refine W.thenN ?_
           refine W.region (fun K hK => ?_)
           have ri := o.rng i hlt
           have s1 : wrapF .i64 (0 - (gt l i).hi) = -(gt l i).hi := by rw [w64_in _ (by omega)]; omega
           have s2 : wrapF .i64 (0 - (gt l i).lo) = -(gt l i).lo := by rw [w64_in _ (by omega)]; omega
           have o1 := ol4.alloc ⟨[.int .i64 (gt l i).x, .int .i64 (-(gt l i).hi), .int .i64 (-(gt l i).lo)], true, false, none⟩
           obtain ⟨a2, c2, rd, fe, hap, o2, hx2, hc2⟩ := o1.append (bytes := 24) (Heap.get_alloc_same _ _) rfl (by omega) (Nat.le_succ_of_le ex4.next)
           obtain rfl := hc2 rfl
           simp (config := { maxSteps := 10000000 }) only [go_sem, ↓forkQ_true, ↓forkQ_false, ↓guardQ_some, ↓resQ_val, ↓resQ_unit, ↓resQ_enter, ↓retQ_some, ↓resFQ_val, ↓resFQ_unit, ↓resFQ_enter, ↓retFQ_some, Nat.reduceEqDiff, reduceIte, Nat.reduceAdd, Nat.reduceMul, Nat.reduceSub, reduceCtorEq, Nat.reduceLeDiff, f3_8, f5_8, f6_8, f7_8, f8_8, hadd, hir, hb', hcs, hbn, hbn', hcut, hf', hw, g5, s1, s2, hap]
           refine hK _ _ ?_
           clear hK K
           refine W.forget (fun e9 he9 => ?_)
           have f3_9 := congrArg (fun q => Env.get q 3) he9
           simp only [go_sem, Nat.reduceEqDiff, reduceIte, f3_8] at f3_9
           have f6_9 := congrArg (fun q => Env.get q 6) he9
           simp only [go_sem, Nat.reduceEqDiff, reduceIte, f6_8] at f6_9
           have f7_9 := congrArg (fun q => Env.get q 7) he9
           simp only [go_sem, Nat.reduceEqDiff, reduceIte, f7_8] at f7_9
           have f8_9 := congrArg (fun q => Env.get q 8) he9
           simp only [go_sem, Nat.reduceEqDiff, reduceIte, f8_8] at f8_9
           clear he9 f3_8 f5_8 f6_8 f7_8 f8_8
           refine W.blockN ?_
           refine W.thenN ?_
           refine W.region (fun K hK => ?_)
           simp (config := { maxSteps := 10000000 }) only [go_sem, ↓forkQ_true, ↓forkQ_false, ↓guardQ_some, ↓resQ_val, ↓resQ_unit, ↓resQ_enter, ↓retQ_some, ↓resFQ_val, ↓resFQ_unit, ↓resFQ_enter, ↓retFQ_some, Nat.reduceEqDiff, reduceIte, Nat.reduceAdd, Nat.reduceMul, Nat.reduceSub, reduceCtorEq, Nat.reduceLeDiff, f3_9, f6_9, f7_9, f8_9, hadd, hir, hb', hcs, hbn, hbn', hcut, hf', hw, g5, s1, s2, hap]
           refine hK _ _ ?_
           clear hK K
           refine W.forget (fun e10 he10 => ?_)
           have f3_10 := congrArg (fun q => Env.get q 3) he10
           simp only [go_sem, Nat.reduceEqDiff, reduceIte, f3_9] at f3_10
           have f6_10 := congrArg (fun q => Env.get q 6) he10
           simp only [go_sem, Nat.reduceEqDiff, reduceIte, f6_9] at f6_10
           have f7_10 := congrArg (fun q => Env.get q 7) he10
           simp only [go_sem, Nat.reduceEqDiff, reduceIte, f7_9] at f7_10
           have f8_10 := congrArg (fun q => Env.get q 8) he10
           simp only [go_sem, Nat.reduceEqDiff, reduceIte, f8_9] at f8_10
           clear he10 f3_9 f6_9 f7_9 f8_9
           refine W.thenN ?_
           exact ⟨(i + 1, a2), by dsimp only; omega, hx2 h (Nat.le_refl _) (ex4.alloc _), f3_10, f6_10, f7_10, f8_10, by dsimp only; omega, by dsimp only; rw [take_succ_gt _ i (by rw [turnedL_len]; exact hlt), gcells_app, turnedL_at l i hlt]; exact o2⟩)
      · first
        | (cases hc7; done)
        | (exfalso; simp only [decide_eq_true_eq, decide_eq_false_iff_not, Bool.not_eq_true', Bool.not_eq_false', Bool.not_eq_eq_eq_not, Bool.not_true, Bool.not_false] at hc7; omega)
        | (skip
           try simp only [decide_eq_true_eq, decide_eq_false_iff_not, Bool.not_eq_true', Bool.not_eq_false', Bool.not_eq_eq_eq_not, Bool.not_true, Bool.not_false] at hc7
           refine W.exit ?_
           refine W.thenE ?_
           refine W.thenE ?_
           refine W.blockE ?_
           refine W.thenN ?_
           refine W.seq ?_
           refine W.region (fun K hK => ?_)
           simp (config := { maxSteps := 10000000 }) only [go_sem, ↓forkQ_true, ↓forkQ_false, ↓guardQ_some, ↓resQ_val, ↓resQ_unit, ↓resQ_enter, ↓retQ_some, ↓resFQ_val, ↓resFQ_unit, ↓resFQ_enter, ↓retFQ_some, Nat.reduceEqDiff, reduceIte, Nat.reduceAdd, Nat.reduceMul, Nat.reduceSub, reduceCtorEq, Nat.reduceLeDiff, f3_6, f6_6, f7_6, f8_6, f9_6]
           refine hK _ _ ?_
           clear hK K
           refine W.forget (fun e11 he11 => ?_)
           have f2_11 := congrArg (fun q => Env.get q 2) he11
           simp only [go_sem, Nat.reduceEqDiff, reduceIte] at f2_11
           clear he11 f3_6 f6_6 f7_6 f8_6 f9_6
           refine W.thenN ?_
           refine W.ret ?_
           rw [doneQ_ret]
           obtain rfl : i = l.length := by omega
           exact ⟨[.slice ar l.length l.length], by simp only [go_sem, ↓forkQ_true, ↓forkQ_false, ↓guardQ_some, ↓resQ_val, ↓resQ_unit, ↓resQ_enter, ↓retQ_some, ↓resFQ_val, ↓resFQ_unit, ↓resFQ_enter, ↓retFQ_some, Nat.reduceEqDiff, reduceIte, Nat.reduceAdd, Nat.reduceMul, Nat.reduceSub, reduceCtorEq, Nat.reduceLeDiff, f2_11], ar, rfl, hi.ol, ex.wr⟩)
    · exact ⟨Ext.low h, f3_4, f6_4, f7_4, f8_4, Nat.zero_le _, OL.nil _ _ _⟩)
  obtain ⟨a1, rfl, o1, w1⟩ := hR9
  obtain ⟨a', h', q1, q2, q3⟩ := o1.leave w1
  rw [← turnedL_len l, List.take_length] at q3
  refine ⟨a', h', ?_, q2, OL.ga (by rw [turnedL_len] at q3 ⊢; exact q3)⟩
  rw [turnedL_len]
  exact hc9.trans (congrArg some q1)
end Go.Proofs.Ytlblocieleildaa
