/- What turned gives. -/
import Derived.Test.YtlblocieleildaaSk6
set_option linter.unusedSimpArgs false
set_option linter.unusedVariables false
set_option maxRecDepth 20000
set_option maxHeartbeats 8000000
namespace Go.Proofs.Ytlblocieleildaa
open Go.Am

theorem gcells_app : ∀ (l : List Gt) (g : Gt), gcells (l ++ [g]) = gcells l ++ [.int .i64 g.x, .int .i64 g.lo, .int .i64 g.hi]
  | [], g => rfl
  | _ :: r, g => by simp only [List.cons_append, gcells, gcells_app r g]
theorem take_succ_gt (l : List Gt) (i : Nat) (hi : i < l.length) : l.take (i + 1) = l.take i ++ [gt l i] := by
  rw [List.take_add_one, List.getElem?_eq_getElem hi]
  unfold gt
  rw [List.getD_eq_getElem?_getD, List.getElem?_eq_getElem hi]
  rfl
structure I37 (l : List Gt) (a : Option Addr) (c : Nat) (h : Heap) (i : Nat) (ar : Option Addr) (e : Env) (h1 : Heap) : Prop where
  ex : Ext h h1
  e0 : e.get 0 = .slice a l.length c
  e3 : e.get 3 = .slice ar i i
  e4 : e.get 4 = .int .i64 (i : Int)
  le : i ≤ l.length
  ol : OL h1 ar i 3 (gcells ((turnedL l).take i)) i h.next
theorem c37 (l : List Gt) (a : Option Addr) (c : Nat) (h : Heap) (hg : GA h l a) (o : Ok l) (hl : l.length ≤ 24) : ∃ a' h', callW Try.prog SkH 37 [.slice a l.length c] h = some (.slice a' (turnedL l).length l.length, h', true) ∧ Grow h h' ∧ GA h' (turnedL l) a' := by
  obtain ⟨vs, h9, hR9, hc9⟩ := call_done (H := SkH) (rs := [.tmp 2]) (R := fun vs h9 => ∃ a1, vs = [.slice a1 l.length l.length] ∧ OL h9 a1 l.length 3 (gcells ((turnedL l).take l.length)) l.length h.next ∧ h9.wr = h.next) (args := [.slice a l.length c]) (h := h) Try.func37 rfl rfl (by
    skip
    refine W.forget (fun e1 he1 => ?_)
    have f0_1 := congrArg (fun q => Env.get q 0) he1
    simp only [ofList_cons, ofList_nil, Env.put_some, Env.put_none, Env.get_set, Env.get_set, Nat.reduceEqDiff, reduceIte, if_true, if_false, eq_self] at f0_1
    clear he1
    refine W.seq ?_
    refine W.region (fun K hK => ?_)
    simp (config := { maxSteps := 10000000 }) only [go_sem, ↓forkQ_true, ↓forkQ_false, ↓guardQ_some, ↓resQ_val, ↓resQ_unit, ↓resQ_enter, ↓retQ_some, ↓resFQ_val, ↓resFQ_unit, ↓resFQ_enter, ↓retFQ_some, Nat.reduceEqDiff, reduceIte, Nat.reduceAdd, Nat.reduceMul, Nat.reduceSub, reduceCtorEq, Nat.reduceLeDiff, f0_1]
    refine hK _ _ ?_
    clear hK K
    refine W.forget (fun e2 he2 => ?_)
    have f0_2 := congrArg (fun q => Env.get q 0) he2
    simp only [Env.put_some, Env.put_none, Env.get_set, Env.get_set, Nat.reduceEqDiff, reduceIte, if_true, if_false, eq_self, f0_1] at f0_2
    have f2_2 := congrArg (fun q => Env.get q 2) he2
    simp only [Env.put_some, Env.put_none, Env.get_set, Env.get_set, Nat.reduceEqDiff, reduceIte, if_true, if_false, eq_self] at f2_2
    clear he2 f0_1
    refine W.thenN ?_
    refine W.seq ?_
    refine W.region (fun K hK => ?_)
    simp (config := { maxSteps := 10000000 }) only [go_sem, ↓forkQ_true, ↓forkQ_false, ↓guardQ_some, ↓resQ_val, ↓resQ_unit, ↓resQ_enter, ↓retQ_some, ↓resFQ_val, ↓resFQ_unit, ↓resFQ_enter, ↓retFQ_some, Nat.reduceEqDiff, reduceIte, Nat.reduceAdd, Nat.reduceMul, Nat.reduceSub, reduceCtorEq, Nat.reduceLeDiff, f0_2, f2_2]
    refine hK _ _ ?_
    clear hK K
    refine W.forget (fun e3 he3 => ?_)
    have f0_3 := congrArg (fun q => Env.get q 0) he3
    simp only [Env.put_some, Env.put_none, Env.get_set, Env.get_set, Nat.reduceEqDiff, reduceIte, if_true, if_false, eq_self, f0_2] at f0_3
    have f2_3 := congrArg (fun q => Env.get q 2) he3
    simp only [Env.put_some, Env.put_none, Env.get_set, Env.get_set, Nat.reduceEqDiff, reduceIte, if_true, if_false, eq_self, f2_2] at f2_3
    have f3_3 := congrArg (fun q => Env.get q 3) he3
    simp only [Env.put_some, Env.put_none, Env.get_set, Env.get_set, Nat.reduceEqDiff, reduceIte, if_true, if_false, eq_self] at f3_3
    clear he3 f0_2 f2_2
    refine W.thenN ?_
    refine W.seq ?_
    refine W.seq ?_
    refine W.region (fun K hK => ?_)
    simp (config := { maxSteps := 10000000 }) only [go_sem, ↓forkQ_true, ↓forkQ_false, ↓guardQ_some, ↓resQ_val, ↓resQ_unit, ↓resQ_enter, ↓retQ_some, ↓resFQ_val, ↓resFQ_unit, ↓resFQ_enter, ↓retFQ_some, Nat.reduceEqDiff, reduceIte, Nat.reduceAdd, Nat.reduceMul, Nat.reduceSub, reduceCtorEq, Nat.reduceLeDiff, f0_3, f2_3, f3_3]
    refine hK _ _ ?_
    clear hK K
    refine W.forget (fun e4 he4 => ?_)
    have f0_4 := congrArg (fun q => Env.get q 0) he4
    simp only [Env.put_some, Env.put_none, Env.get_set, Env.get_set, Nat.reduceEqDiff, reduceIte, if_true, if_false, eq_self, f0_3] at f0_4
    have f2_4 := congrArg (fun q => Env.get q 2) he4
    simp only [Env.put_some, Env.put_none, Env.get_set, Env.get_set, Nat.reduceEqDiff, reduceIte, if_true, if_false, eq_self, f2_3] at f2_4
    have f3_4 := congrArg (fun q => Env.get q 3) he4
    simp only [Env.put_some, Env.put_none, Env.get_set, Env.get_set, Nat.reduceEqDiff, reduceIte, if_true, if_false, eq_self, f3_3] at f3_4
    have f4_4 := congrArg (fun q => Env.get q 4) he4
    simp only [Env.put_some, Env.put_none, Env.get_set, Env.get_set, Nat.reduceEqDiff, reduceIte, if_true, if_false, eq_self] at f4_4
    clear he4 f0_3 f2_3 f3_3
    refine W.thenN ?_
    refine W.block ?_
    refine wq_rounds (fun s : Nat × Option Addr => l.length - s.1) (fun s => I37 l a c h s.1 s.2) ?_ (0, none) _ _ ?_
    · intro ⟨i, ar⟩ e5 k1 hi
      replace hi : I37 l a c h i ar _ k1 := hi
      have f0_5 := hi.e0
      have f3_5 := hi.e3
      have f4_5 := hi.e4
      have ex := hi.ex
      have hle := hi.le
      have hadd : wrapF .i64 ((i : Int) + 1) = ((i + 1 : Nat) : Int) := by rw [w64_in _ (by omega)]; omega
      refine W.seq ?_
      refine W.seq ?_
      refine W.region (fun K hK => ?_)
      simp (config := { maxSteps := 10000000 }) only [go_sem, ↓forkQ_true, ↓forkQ_false, ↓guardQ_some, ↓resQ_val, ↓resQ_unit, ↓resQ_enter, ↓retQ_some, ↓resFQ_val, ↓resFQ_unit, ↓resFQ_enter, ↓retFQ_some, Nat.reduceEqDiff, reduceIte, Nat.reduceAdd, Nat.reduceMul, Nat.reduceSub, reduceCtorEq, Nat.reduceLeDiff, f0_5, f3_5, f4_5, hadd]
      refine hK _ _ ?_
      clear hK K
      refine W.forget (fun e6 he6 => ?_)
      have f0_6 := congrArg (fun q => Env.get q 0) he6
      simp only [Env.put_some, Env.put_none, Env.get_set, Env.get_set, Nat.reduceEqDiff, reduceIte, if_true, if_false, eq_self, f0_5] at f0_6
      have f3_6 := congrArg (fun q => Env.get q 3) he6
      simp only [Env.put_some, Env.put_none, Env.get_set, Env.get_set, Nat.reduceEqDiff, reduceIte, if_true, if_false, eq_self, f3_5] at f3_6
      have f4_6 := congrArg (fun q => Env.get q 4) he6
      simp only [Env.put_some, Env.put_none, Env.get_set, Env.get_set, Nat.reduceEqDiff, reduceIte, if_true, if_false, eq_self, f4_5] at f4_6
      have f8_6 := congrArg (fun q => Env.get q 8) he6
      simp only [Env.put_some, Env.put_none, Env.get_set, Env.get_set, Nat.reduceEqDiff, reduceIte, if_true, if_false, eq_self] at f8_6
      clear he6 f0_5 f3_5 f4_5
      refine W.thenN ?_
      refine W.cond f8_6 (fun hc7 => ?_) (fun hc7 => ?_)
      · first
        | (cases hc7; done)
        | (exfalso; simp only [decide_eq_true_eq, decide_eq_false_iff_not, Bool.not_eq_true', Bool.not_eq_false', Bool.not_eq_eq_eq_not, Bool.not_true, Bool.not_false] at hc7; omega)
        | (skip
           try simp only [decide_eq_true_eq, decide_eq_false_iff_not, Bool.not_eq_true', Bool.not_eq_false', Bool.not_eq_eq_eq_not, Bool.not_true, Bool.not_false] at hc7
           refine W.skip ?_
           refine W.thenN ?_
           refine W.seq ?_
           refine W.block ?_
           refine W.draw dr37_5 (fun K hK => ?_)
           have hlt : i < l.length := by omega
           have hir := inRange_nat hlt
           obtain ⟨b, blk, ext, rfl, hb, hcs, hbl⟩ := hg (ne_of_lt hlt)
           have hb' := (ex.get b hbl).trans hb
           have c0 := gcell0 (ext := ext) hlt
           have c1 := gcell1 (ext := ext) hlt
           have c2' := gcell2 (ext := ext) hlt
           have ri := o.rng i hlt
           have s1 : wrapF .i64 (0 - (gt l i).hi) = -(gt l i).hi := by rw [w64_in _ (by omega)]; omega
           have s2 : wrapF .i64 (0 - (gt l i).lo) = -(gt l i).lo := by rw [w64_in _ (by omega)]; omega
           have o1 := hi.ol.alloc ⟨[.int .i64 (gt l i).x, .int .i64 (-(gt l i).hi), .int .i64 (-(gt l i).lo)], true, false, none⟩
           obtain ⟨a2, c2, rd, fe, hap, o2, hx2, hc2⟩ := o1.append (bytes := 24) (Heap.get_alloc_same _ _) rfl (by omega) (Nat.le_succ_of_le ex.next)
           obtain rfl := hc2 rfl
           simp (config := { maxSteps := 10000000 }) only [go_sem, ↓forkQ_true, ↓forkQ_false, ↓guardQ_some, ↓resQ_val, ↓resQ_unit, ↓resQ_enter, ↓retQ_some, ↓resFQ_val, ↓resFQ_unit, ↓resFQ_enter, ↓retFQ_some, Nat.reduceEqDiff, reduceIte, Nat.reduceAdd, Nat.reduceMul, Nat.reduceSub, reduceCtorEq, Nat.reduceLeDiff, f0_6, f3_6, f4_6, f8_6, hadd, hir, hb', hcs, c0, c1, c2', s1, s2, hap]
           refine hK _ _ ?_
           clear hK K
           refine W.forget (fun e8 he8 => ?_)
           have f0_8 := congrArg (fun q => Env.get q 0) he8
           simp only [Env.put_some, Env.put_none, Env.get_set, Env.get_set, Nat.reduceEqDiff, reduceIte, if_true, if_false, eq_self, f0_6] at f0_8
           have f3_8 := congrArg (fun q => Env.get q 3) he8
           simp only [Env.put_some, Env.put_none, Env.get_set, Env.get_set, Nat.reduceEqDiff, reduceIte, if_true, if_false, eq_self, f3_6] at f3_8
           have f4_8 := congrArg (fun q => Env.get q 4) he8
           simp only [Env.put_some, Env.put_none, Env.get_set, Env.get_set, Nat.reduceEqDiff, reduceIte, if_true, if_false, eq_self, f4_6] at f4_8
           clear he8 f0_6 f3_6 f4_6 f8_6
           refine W.blockN ?_
           refine W.thenN ?_
           refine W.region (fun K hK => ?_)
           simp (config := { maxSteps := 10000000 }) only [go_sem, ↓forkQ_true, ↓forkQ_false, ↓guardQ_some, ↓resQ_val, ↓resQ_unit, ↓resQ_enter, ↓retQ_some, ↓resFQ_val, ↓resFQ_unit, ↓resFQ_enter, ↓retFQ_some, Nat.reduceEqDiff, reduceIte, Nat.reduceAdd, Nat.reduceMul, Nat.reduceSub, reduceCtorEq, Nat.reduceLeDiff, f0_8, f3_8, f4_8, hadd, hir, hb', hcs, c0, c1, c2', s1, s2, hap]
           refine hK _ _ ?_
           clear hK K
           refine W.forget (fun e9 he9 => ?_)
           have f0_9 := congrArg (fun q => Env.get q 0) he9
           simp only [Env.put_some, Env.put_none, Env.get_set, Env.get_set, Nat.reduceEqDiff, reduceIte, if_true, if_false, eq_self, f0_8] at f0_9
           have f3_9 := congrArg (fun q => Env.get q 3) he9
           simp only [Env.put_some, Env.put_none, Env.get_set, Env.get_set, Nat.reduceEqDiff, reduceIte, if_true, if_false, eq_self, f3_8] at f3_9
           have f4_9 := congrArg (fun q => Env.get q 4) he9
           simp only [Env.put_some, Env.put_none, Env.get_set, Env.get_set, Nat.reduceEqDiff, reduceIte, if_true, if_false, eq_self, f4_8] at f4_9
           clear he9 f0_8 f3_8 f4_8
           refine W.thenN ?_
           exact ⟨(i + 1, a2), by dsimp only; omega, hx2 h (Nat.le_refl _) (ex.alloc _), f0_9, f3_9, f4_9, by dsimp only; omega, by dsimp only; rw [take_succ_gt _ i (by rw [turnedL_len]; exact hlt), gcells_app, turnedL_at l i hlt]; exact o2⟩)
      · first
        | (cases hc7; done)
        | (exfalso; simp only [decide_eq_true_eq, decide_eq_false_iff_not, Bool.not_eq_true', Bool.not_eq_false', Bool.not_eq_eq_eq_not, Bool.not_true, Bool.not_false] at hc7; omega)
        | (skip
           try simp only [decide_eq_true_eq, decide_eq_false_iff_not, Bool.not_eq_true', Bool.not_eq_false', Bool.not_eq_eq_eq_not, Bool.not_true, Bool.not_false] at hc7
           refine W.exit ?_
           refine W.thenE ?_
           refine W.thenE ?_
           refine W.blockE ?_
           refine W.thenN ?_
           refine W.seq ?_
           refine W.region (fun K hK => ?_)
           simp (config := { maxSteps := 10000000 }) only [go_sem, ↓forkQ_true, ↓forkQ_false, ↓guardQ_some, ↓resQ_val, ↓resQ_unit, ↓resQ_enter, ↓retQ_some, ↓resFQ_val, ↓resFQ_unit, ↓resFQ_enter, ↓retFQ_some, Nat.reduceEqDiff, reduceIte, Nat.reduceAdd, Nat.reduceMul, Nat.reduceSub, reduceCtorEq, Nat.reduceLeDiff, f0_6, f3_6, f4_6, f8_6]
           refine hK _ _ ?_
           clear hK K
           refine W.forget (fun e10 he10 => ?_)
           have f2_10 := congrArg (fun q => Env.get q 2) he10
           simp only [Env.put_some, Env.put_none, Env.get_set, Env.get_set, Nat.reduceEqDiff, reduceIte, if_true, if_false, eq_self] at f2_10
           clear he10 f0_6 f3_6 f4_6 f8_6
           refine W.thenN ?_
           refine W.ret ?_
           rw [doneQ_ret]
           obtain rfl : i = l.length := by omega
           exact ⟨[.slice ar l.length l.length], by simp only [go_sem, ↓forkQ_true, ↓forkQ_false, ↓guardQ_some, ↓resQ_val, ↓resQ_unit, ↓resQ_enter, ↓retQ_some, ↓resFQ_val, ↓resFQ_unit, ↓resFQ_enter, ↓retFQ_some, Nat.reduceEqDiff, reduceIte, Nat.reduceAdd, Nat.reduceMul, Nat.reduceSub, reduceCtorEq, Nat.reduceLeDiff, f2_10], ar, rfl, hi.ol, ex.wr⟩)
    · exact ⟨Ext.low h, f0_4, f3_4, f4_4, Nat.zero_le _, OL.nil _ _ _⟩)
  obtain ⟨a1, rfl, o1, w1⟩ := hR9
  obtain ⟨a', h', q1, q2, q3⟩ := o1.leave w1
  rw [← turnedL_len l, List.take_length] at q3
  refine ⟨a', h', ?_, q2, OL.ga (by rw [turnedL_len] at q3 ⊢; exact q3)⟩
  rw [turnedL_len]
  exact hc9.trans (congrArg some q1)
end Go.Proofs.Ytlblocieleildaa
