/- What the reference's Lower and Upper give. -/
import Derived.Test.YtlblocieleildaaSk5
import Derived.Test.YtlblocieleildaaSk8
import Derived.Test.YtlblocieleildaaSk9
set_option linter.unusedSimpArgs false
set_option linter.unusedVariables false
set_option maxRecDepth 20000
set_option maxHeartbeats 8000000
namespace Go.Proofs.Ytlblocieleildaa
open Go.Am

/-- the corners among the first i gates -/
noncomputable def cornU (l : List Gt) (i : Nat) : List Int := ((List.range i).filter (cornB l)).map (fun k : Nat => (k : Int))
theorem cornU_len (l : List Gt) (i : Nat) : (cornU l i).length ≤ i := by
  unfold cornU
  rw [List.length_map]
  have := List.length_filter_le (cornB l) (List.range i)
  rw [List.length_range] at this
  exact this
theorem cornU_t {l : List Gt} {i : Nat} (hc : cornB l i = true) : cornU l (i + 1) = cornU l i ++ [(i : Int)] := by
  unfold cornU
  rw [List.range_succ, List.filter_append, List.map_append]
  simp [hc]
theorem cornU_f {l : List Gt} {i : Nat} (hc : cornB l i = false) : cornU l (i + 1) = cornU l i := by
  unfold cornU
  rw [List.range_succ, List.filter_append, List.map_append]
  simp [hc]
theorem icells_app (xs : List Int) (x : Int) : icells (xs ++ [x]) = icells xs ++ [.int .i64 x] := by unfold icells; simp
structure I20 (l : List Gt) (a : Option Addr) (c : Nat) (h : Heap) (i : Nat) (ar : Option Addr) (cc : Nat) (e : Env) (h1 : Heap) : Prop where
  ex : Ext h h1
  e0 : e.get 0 = .slice a l.length c
  e3 : e.get 3 = .slice ar (cornU l i).length cc
  e4 : e.get 4 = .int .i64 (i : Int)
  le : i ≤ l.length
  ol : OL h1 ar cc 1 (icells (cornU l i)) (cornU l i).length h.next
/-- the corners that the reference tells -/
noncomputable def lowR (l : List Gt) : List Int := if checkZ l = 0 then cornU l l.length else []
theorem c20_ok (l : List Gt) (a : Option Addr) (c : Nat) (h : Heap) (hg : GA h l a) (o : Ok l) (hl : l.length ≤ 24) : ∃ a' c' h', callW Try.prog SkH 20 [.slice a l.length c] h = some (.slice a' (cornU l l.length).length c', h', true) ∧ Grow h h' ∧ OL h' a' c' 1 (icells (cornU l l.length)) (cornU l l.length).length h.next := by
  obtain ⟨vs, h9, hR9, hc9⟩ := call_done (H := SkH) (rs := [.tmp 2]) (R := fun vs h9 => ∃ a1 c1, vs = [.slice a1 (cornU l l.length).length c1] ∧ OL h9 a1 c1 1 (icells (cornU l l.length)) (cornU l l.length).length h.next ∧ h9.wr = h.next) (args := [.slice a l.length c]) (h := h) Try.func20 rfl rfl (by
    skip
    refine W.forget (fun e1 he1 => ?_)
    have f0_1 := congrArg (fun q => Env.get q 0) he1
    simp only [ofList_cons, ofList_nil, Env.put_some, Env.put_none, Env.get_set, Env.get_set, Nat.reduceEqDiff, reduceIte, if_true, if_false, eq_self] at f0_1
    clear he1
    refine W.seq ?_
    refine W.region (fun K hK => ?_)
    simp only [go_sem, ↓forkQ_true, ↓forkQ_false, ↓guardQ_some, ↓resQ_val, ↓resQ_unit, ↓resQ_enter, ↓retQ_some, ↓resFQ_val, ↓resFQ_unit, ↓resFQ_enter, ↓retFQ_some, Nat.reduceEqDiff, reduceIte, Nat.reduceAdd, Nat.reduceMul, Nat.reduceSub, reduceCtorEq, Nat.reduceLeDiff, f0_1]
    refine hK _ _ ?_
    clear hK K
    refine W.forget (fun e2 he2 => ?_)
    have f0_2 := congrArg (fun q => Env.get q 0) he2
    simp only [Env.put_some, Env.put_none, Env.get_set, Env.get_set, Nat.reduceEqDiff, reduceIte, if_true, if_false, eq_self, f0_1] at f0_2
    have f2_2 := congrArg (fun q => Env.get q 2) he2
    simp only [Env.put_some, Env.put_none, Env.get_set, Env.get_set, Nat.reduceEqDiff, reduceIte, if_true, if_false, eq_self] at f2_2
    clear he2 f0_1
    refine W.thenN ?_
    refine W.seq ?_
    refine W.seq ?_
    refine W.region (fun K hK => ?_)
    have hz := (checkZ_ok l).2 o
    have q15 := c15 l a c (h.low h.next) (hg.ext (Ext.low h)) hl
    simp only [go_sem, ↓forkQ_true, ↓forkQ_false, ↓guardQ_some, ↓resQ_val, ↓resQ_unit, ↓resQ_enter, ↓retQ_some, ↓resFQ_val, ↓resFQ_unit, ↓resFQ_enter, ↓retFQ_some, Nat.reduceEqDiff, reduceIte, Nat.reduceAdd, Nat.reduceMul, Nat.reduceSub, reduceCtorEq, Nat.reduceLeDiff, f0_2, f2_2, q15, hz]
    refine hK _ _ ?_
    clear hK K
    refine W.forget (fun e3 he3 => ?_)
    have f0_3 := congrArg (fun q => Env.get q 0) he3
    simp only [Env.put_some, Env.put_none, Env.get_set, Env.get_set, Nat.reduceEqDiff, reduceIte, if_true, if_false, eq_self, f0_2] at f0_3
    have f2_3 := congrArg (fun q => Env.get q 2) he3
    simp only [Env.put_some, Env.put_none, Env.get_set, Env.get_set, Nat.reduceEqDiff, reduceIte, if_true, if_false, eq_self, f2_2] at f2_3
    have f7_3 := congrArg (fun q => Env.get q 7) he3
    simp only [Env.put_some, Env.put_none, Env.get_set, Env.get_set, Nat.reduceEqDiff, reduceIte, if_true, if_false, eq_self] at f7_3
    clear he3 f0_2 f2_2
    refine W.thenN ?_
    refine W.cond f7_3 (fun hc4 => ?_) (fun hc4 => ?_)
    · first
      | (cases hc4; done)
      | (exfalso; simp only [decide_eq_true_eq, decide_eq_false_iff_not, Bool.not_eq_true', Bool.not_eq_false', Bool.not_eq_eq_eq_not, Bool.not_true, Bool.not_false] at hc4; omega)
      | (skip
         try simp only [decide_eq_true_eq, decide_eq_false_iff_not, Bool.not_eq_true', Bool.not_eq_false', Bool.not_eq_eq_eq_not, Bool.not_true, Bool.not_false] at hc4
         refine W.seq ?_
         refine W.region (fun K hK => ?_)
         simp only [go_sem, ↓forkQ_true, ↓forkQ_false, ↓guardQ_some, ↓resQ_val, ↓resQ_unit, ↓resQ_enter, ↓retQ_some, ↓resFQ_val, ↓resFQ_unit, ↓resFQ_enter, ↓retFQ_some, Nat.reduceEqDiff, reduceIte, Nat.reduceAdd, Nat.reduceMul, Nat.reduceSub, reduceCtorEq, Nat.reduceLeDiff, f0_3, f2_3, f7_3, q15, hz]
         refine hK _ _ ?_
         clear hK K
         refine W.forget (fun e5 he5 => ?_)
         have f0_5 := congrArg (fun q => Env.get q 0) he5
         simp only [Env.put_some, Env.put_none, Env.get_set, Env.get_set, Nat.reduceEqDiff, reduceIte, if_true, if_false, eq_self, f0_3] at f0_5
         have f2_5 := congrArg (fun q => Env.get q 2) he5
         simp only [Env.put_some, Env.put_none, Env.get_set, Env.get_set, Nat.reduceEqDiff, reduceIte, if_true, if_false, eq_self, f2_3] at f2_5
         clear he5 f0_3 f2_3 f7_3
         refine W.thenN ?_
         refine W.ret ?_
         refine W.thenR ?_
         rw [doneQ_ret]
         obtain rfl : i = l.length := by omega
         exact ⟨[.slice ar (cornU l l.length).length cc], by simp only [go_sem, ↓forkQ_true, ↓forkQ_false, ↓guardQ_some, ↓resQ_val, ↓resQ_unit, ↓resQ_enter, ↓retQ_some, ↓resFQ_val, ↓resFQ_unit, ↓resFQ_enter, ↓retFQ_some, Nat.reduceEqDiff, reduceIte, Nat.reduceAdd, Nat.reduceMul, Nat.reduceSub, reduceCtorEq, Nat.reduceLeDiff, f0_5, f2_5], ar, cc, rfl, hi.ol, ex.wr⟩)
    · first
      | (cases hc4; done)
      | (exfalso; simp only [decide_eq_true_eq, decide_eq_false_iff_not, Bool.not_eq_true', Bool.not_eq_false', Bool.not_eq_eq_eq_not, Bool.not_true, Bool.not_false] at hc4; omega)
      | (skip
         try simp only [decide_eq_true_eq, decide_eq_false_iff_not, Bool.not_eq_true', Bool.not_eq_false', Bool.not_eq_eq_eq_not, Bool.not_true, Bool.not_false] at hc4
         refine W.skip ?_
         refine W.thenN ?_
         refine W.seq ?_
         refine W.region (fun K hK => ?_)
         simp only [go_sem, ↓forkQ_true, ↓forkQ_false, ↓guardQ_some, ↓resQ_val, ↓resQ_unit, ↓resQ_enter, ↓retQ_some, ↓resFQ_val, ↓resFQ_unit, ↓resFQ_enter, ↓retFQ_some, Nat.reduceEqDiff, reduceIte, Nat.reduceAdd, Nat.reduceMul, Nat.reduceSub, reduceCtorEq, Nat.reduceLeDiff, f0_3, f2_3, f7_3, q15, hz]
         refine hK _ _ ?_
         clear hK K
         refine W.forget (fun e6 he6 => ?_)
         have f0_6 := congrArg (fun q => Env.get q 0) he6
         simp only [Env.put_some, Env.put_none, Env.get_set, Env.get_set, Nat.reduceEqDiff, reduceIte, if_true, if_false, eq_self, f0_3] at f0_6
         have f2_6 := congrArg (fun q => Env.get q 2) he6
         simp only [Env.put_some, Env.put_none, Env.get_set, Env.get_set, Nat.reduceEqDiff, reduceIte, if_true, if_false, eq_self, f2_3] at f2_6
         have f3_6 := congrArg (fun q => Env.get q 3) he6
         simp only [Env.put_some, Env.put_none, Env.get_set, Env.get_set, Nat.reduceEqDiff, reduceIte, if_true, if_false, eq_self] at f3_6
         clear he6 f0_3 f2_3 f7_3
         refine W.thenN ?_
         refine W.seq ?_
         refine W.seq ?_
         refine W.region (fun K hK => ?_)
         simp only [go_sem, ↓forkQ_true, ↓forkQ_false, ↓guardQ_some, ↓resQ_val, ↓resQ_unit, ↓resQ_enter, ↓retQ_some, ↓resFQ_val, ↓resFQ_unit, ↓resFQ_enter, ↓retFQ_some, Nat.reduceEqDiff, reduceIte, Nat.reduceAdd, Nat.reduceMul, Nat.reduceSub, reduceCtorEq, Nat.reduceLeDiff, f0_6, f2_6, f3_6, q15, hz]
         refine hK _ _ ?_
         clear hK K
         refine W.forget (fun e7 he7 => ?_)
         have f0_7 := congrArg (fun q => Env.get q 0) he7
         simp only [Env.put_some, Env.put_none, Env.get_set, Env.get_set, Nat.reduceEqDiff, reduceIte, if_true, if_false, eq_self, f0_6] at f0_7
         have f2_7 := congrArg (fun q => Env.get q 2) he7
         simp only [Env.put_some, Env.put_none, Env.get_set, Env.get_set, Nat.reduceEqDiff, reduceIte, if_true, if_false, eq_self, f2_6] at f2_7
         have f3_7 := congrArg (fun q => Env.get q 3) he7
         simp only [Env.put_some, Env.put_none, Env.get_set, Env.get_set, Nat.reduceEqDiff, reduceIte, if_true, if_false, eq_self, f3_6] at f3_7
         have f4_7 := congrArg (fun q => Env.get q 4) he7
         simp only [Env.put_some, Env.put_none, Env.get_set, Env.get_set, Nat.reduceEqDiff, reduceIte, if_true, if_false, eq_self] at f4_7
         clear he7 f0_6 f2_6 f3_6
         refine W.thenN ?_
         refine W.block ?_
         refine wq_rounds (fun s : Nat × Option Addr × Nat => l.length - s.1) (fun s => I20 l a c h s.1 s.2.1 s.2.2) ?_ (0, none, 0) _ _ ?_
         · intro ⟨i, ar, cc⟩ e8 k1 hi
           replace hi : I20 l a c h i ar cc _ k1 := hi
           have f0_8 := hi.e0
           have f3_8 := hi.e3
           have f4_8 := hi.e4
           have ex := hi.ex
           have hle := hi.le
           have hadd : wrapF .i64 ((i : Int) + 1) = ((i + 1 : Nat) : Int) := by rw [w64_in _ (by omega)]; omega
           refine W.seq ?_
           refine W.seq ?_
           refine W.region (fun K hK => ?_)
           simp only [go_sem, ↓forkQ_true, ↓forkQ_false, ↓guardQ_some, ↓resQ_val, ↓resQ_unit, ↓resQ_enter, ↓retQ_some, ↓resFQ_val, ↓resFQ_unit, ↓resFQ_enter, ↓retFQ_some, Nat.reduceEqDiff, reduceIte, Nat.reduceAdd, Nat.reduceMul, Nat.reduceSub, reduceCtorEq, Nat.reduceLeDiff, f0_8, f3_8, f4_8, hadd]
           refine hK _ _ ?_
           clear hK K
           refine W.forget (fun e9 he9 => ?_)
           have f0_9 := congrArg (fun q => Env.get q 0) he9
           simp only [Env.put_some, Env.put_none, Env.get_set, Env.get_set, Nat.reduceEqDiff, reduceIte, if_true, if_false, eq_self, f0_8] at f0_9
           have f3_9 := congrArg (fun q => Env.get q 3) he9
           simp only [Env.put_some, Env.put_none, Env.get_set, Env.get_set, Nat.reduceEqDiff, reduceIte, if_true, if_false, eq_self, f3_8] at f3_9
           have f4_9 := congrArg (fun q => Env.get q 4) he9
           simp only [Env.put_some, Env.put_none, Env.get_set, Env.get_set, Nat.reduceEqDiff, reduceIte, if_true, if_false, eq_self, f4_8] at f4_9
           have f11_9 := congrArg (fun q => Env.get q 11) he9
           simp only [Env.put_some, Env.put_none, Env.get_set, Env.get_set, Nat.reduceEqDiff, reduceIte, if_true, if_false, eq_self] at f11_9
           clear he9 f0_8 f3_8 f4_8
           refine W.thenN ?_
           refine W.cond f11_9 (fun hc10 => ?_) (fun hc10 => ?_)
           · first
             | (cases hc10; done)
             | (exfalso; simp only [decide_eq_true_eq, decide_eq_false_iff_not, Bool.not_eq_true', Bool.not_eq_false', Bool.not_eq_eq_eq_not, Bool.not_true, Bool.not_false] at hc10; omega)
             | (skip
                try simp only [decide_eq_true_eq, decide_eq_false_iff_not, Bool.not_eq_true', Bool.not_eq_false', Bool.not_eq_eq_eq_not, Bool.not_true, Bool.not_false] at hc10
                refine W.skip ?_
                refine W.thenN ?_
                refine W.seq ?_
                refine W.block ?_
                refine W.seq ?_
                refine W.region (fun K hK => ?_)
                have hlt : i < l.length := by omega
                have q35 := c35 l a c k1 (hg.ext ex) o hl i hlt
                simp only [go_sem, ↓forkQ_true, ↓forkQ_false, ↓guardQ_some, ↓resQ_val, ↓resQ_unit, ↓resQ_enter, ↓retQ_some, ↓resFQ_val, ↓resFQ_unit, ↓resFQ_enter, ↓retFQ_some, Nat.reduceEqDiff, reduceIte, Nat.reduceAdd, Nat.reduceMul, Nat.reduceSub, reduceCtorEq, Nat.reduceLeDiff, f0_9, f3_9, f4_9, f11_9, hadd, q35]
                refine hK _ _ ?_
                clear hK K
                refine W.forget (fun e11 he11 => ?_)
                have f0_11 := congrArg (fun q => Env.get q 0) he11
                simp only [Env.put_some, Env.put_none, Env.get_set, Env.get_set, Nat.reduceEqDiff, reduceIte, if_true, if_false, eq_self, f0_9] at f0_11
                have f3_11 := congrArg (fun q => Env.get q 3) he11
                simp only [Env.put_some, Env.put_none, Env.get_set, Env.get_set, Nat.reduceEqDiff, reduceIte, if_true, if_false, eq_self, f3_9] at f3_11
                have f4_11 := congrArg (fun q => Env.get q 4) he11
                simp only [Env.put_some, Env.put_none, Env.get_set, Env.get_set, Nat.reduceEqDiff, reduceIte, if_true, if_false, eq_self, f4_9] at f4_11
                have f16_11 := congrArg (fun q => Env.get q 16) he11
                simp only [Env.put_some, Env.put_none, Env.get_set, Env.get_set, Nat.reduceEqDiff, reduceIte, if_true, if_false, eq_self] at f16_11
                clear he11 f0_9 f3_9 f4_9 f11_9
                refine W.thenN ?_
                refine W.cond f16_11 (fun hc12 => ?_) (fun hc12 => ?_)
                · first
                  | (cases hc12; done)
                  | (exfalso; simp only [decide_eq_true_eq, decide_eq_false_iff_not, Bool.not_eq_true', Bool.not_eq_false', Bool.not_eq_eq_eq_not, Bool.not_true, Bool.not_false] at hc12; omega)
                  | (skip
                     try simp only [decide_eq_true_eq, decide_eq_false_iff_not, Bool.not_eq_true', Bool.not_eq_false', Bool.not_eq_eq_eq_not, Bool.not_true, Bool.not_false] at hc12
                     refine W.region (fun K hK => ?_)
                     have o1 := hi.ol.alloc ⟨[.int .i64 (i : Int)], true, false, none⟩
                     obtain ⟨a2, c2, rd, fe, hap, o2, hx2, _⟩ := o1.append (bytes := 8) (Heap.get_alloc_same _ _) rfl (by have := cornU_len l i; omega) (Nat.le_succ_of_le ex.next)
                     simp only [go_sem, ↓forkQ_true, ↓forkQ_false, ↓guardQ_some, ↓resQ_val, ↓resQ_unit, ↓resQ_enter, ↓retQ_some, ↓resFQ_val, ↓resFQ_unit, ↓resFQ_enter, ↓retFQ_some, Nat.reduceEqDiff, reduceIte, Nat.reduceAdd, Nat.reduceMul, Nat.reduceSub, reduceCtorEq, Nat.reduceLeDiff, f0_11, f3_11, f4_11, f16_11, hadd, q35, hap]
                     refine hK _ _ ?_
                     clear hK K
                     refine W.forget (fun e13 he13 => ?_)
                     have f0_13 := congrArg (fun q => Env.get q 0) he13
                     simp only [Env.put_some, Env.put_none, Env.get_set, Env.get_set, Nat.reduceEqDiff, reduceIte, if_true, if_false, eq_self, f0_11] at f0_13
                     have f3_13 := congrArg (fun q => Env.get q 3) he13
                     simp only [Env.put_some, Env.put_none, Env.get_set, Env.get_set, Nat.reduceEqDiff, reduceIte, if_true, if_false, eq_self, f3_11] at f3_13
                     have f4_13 := congrArg (fun q => Env.get q 4) he13
                     simp only [Env.put_some, Env.put_none, Env.get_set, Env.get_set, Nat.reduceEqDiff, reduceIte, if_true, if_false, eq_self, f4_11] at f4_13
                     clear he13 f0_11 f3_11 f4_11 f16_11
                     refine W.blockN ?_
                     refine W.thenN ?_
                     refine W.region (fun K hK => ?_)
                     simp only [go_sem, ↓forkQ_true, ↓forkQ_false, ↓guardQ_some, ↓resQ_val, ↓resQ_unit, ↓resQ_enter, ↓retQ_some, ↓resFQ_val, ↓resFQ_unit, ↓resFQ_enter, ↓retFQ_some, Nat.reduceEqDiff, reduceIte, Nat.reduceAdd, Nat.reduceMul, Nat.reduceSub, reduceCtorEq, Nat.reduceLeDiff, f0_13, f3_13, f4_13, hadd, q35, hap]
                     refine hK _ _ ?_
                     clear hK K
                     refine W.forget (fun e14 he14 => ?_)
                     have f0_14 := congrArg (fun q => Env.get q 0) he14
                     simp only [Env.put_some, Env.put_none, Env.get_set, Env.get_set, Nat.reduceEqDiff, reduceIte, if_true, if_false, eq_self, f0_13] at f0_14
                     have f3_14 := congrArg (fun q => Env.get q 3) he14
                     simp only [Env.put_some, Env.put_none, Env.get_set, Env.get_set, Nat.reduceEqDiff, reduceIte, if_true, if_false, eq_self, f3_13] at f3_14
                     have f4_14 := congrArg (fun q => Env.get q 4) he14
                     simp only [Env.put_some, Env.put_none, Env.get_set, Env.get_set, Nat.reduceEqDiff, reduceIte, if_true, if_false, eq_self, f4_13] at f4_14
                     clear he14 f0_13 f3_13 f4_13
                     refine W.thenN ?_
                     first
                       | exact ⟨(i + 1, a2, c2), by dsimp only; omega, hx2 h (Nat.le_refl _) (ex.alloc _), f0_14, by dsimp only; rw [cornU_t ‹cornB l i = true›, List.length_append]; exact f3_14, f4_14, by dsimp only; omega, by dsimp only; rw [cornU_t ‹cornB l i = true›, List.length_append, icells_app]; exact o2⟩
                       | exact ⟨(i + 1, ar, cc), by dsimp only; omega, ex, f0_14, by dsimp only; rw [cornU_f ‹cornB l i = false›]; exact f3_14, f4_14, by dsimp only; omega, by dsimp only; rw [cornU_f ‹cornB l i = false›]; exact hi.ol⟩)
                · first
                  | (cases hc12; done)
                  | (exfalso; simp only [decide_eq_true_eq, decide_eq_false_iff_not, Bool.not_eq_true', Bool.not_eq_false', Bool.not_eq_eq_eq_not, Bool.not_true, Bool.not_false] at hc12; omega)
                  | (skip
                     try simp only [decide_eq_true_eq, decide_eq_false_iff_not, Bool.not_eq_true', Bool.not_eq_false', Bool.not_eq_eq_eq_not, Bool.not_true, Bool.not_false] at hc12
                     refine W.skip ?_
                     refine W.blockN ?_
                     refine W.thenN ?_
                     refine W.region (fun K hK => ?_)
                     simp only [go_sem, ↓forkQ_true, ↓forkQ_false, ↓guardQ_some, ↓resQ_val, ↓resQ_unit, ↓resQ_enter, ↓retQ_some, ↓resFQ_val, ↓resFQ_unit, ↓resFQ_enter, ↓retFQ_some, Nat.reduceEqDiff, reduceIte, Nat.reduceAdd, Nat.reduceMul, Nat.reduceSub, reduceCtorEq, Nat.reduceLeDiff, f0_11, f3_11, f4_11, f16_11, hadd, q35]
                     refine hK _ _ ?_
                     clear hK K
                     refine W.forget (fun e15 he15 => ?_)
                     have f0_15 := congrArg (fun q => Env.get q 0) he15
                     simp only [Env.put_some, Env.put_none, Env.get_set, Env.get_set, Nat.reduceEqDiff, reduceIte, if_true, if_false, eq_self, f0_11] at f0_15
                     have f3_15 := congrArg (fun q => Env.get q 3) he15
                     simp only [Env.put_some, Env.put_none, Env.get_set, Env.get_set, Nat.reduceEqDiff, reduceIte, if_true, if_false, eq_self, f3_11] at f3_15
                     have f4_15 := congrArg (fun q => Env.get q 4) he15
                     simp only [Env.put_some, Env.put_none, Env.get_set, Env.get_set, Nat.reduceEqDiff, reduceIte, if_true, if_false, eq_self, f4_11] at f4_15
                     clear he15 f0_11 f3_11 f4_11 f16_11
                     refine W.thenN ?_
                     first
                       | exact ⟨(i + 1, a2, c2), by dsimp only; omega, hx2 h (Nat.le_refl _) (ex.alloc _), f0_15, by dsimp only; rw [cornU_t ‹cornB l i = true›, List.length_append]; exact f3_15, f4_15, by dsimp only; omega, by dsimp only; rw [cornU_t ‹cornB l i = true›, List.length_append, icells_app]; exact o2⟩
                       | exact ⟨(i + 1, ar, cc), by dsimp only; omega, ex, f0_15, by dsimp only; rw [cornU_f ‹cornB l i = false›]; exact f3_15, f4_15, by dsimp only; omega, by dsimp only; rw [cornU_f ‹cornB l i = false›]; exact hi.ol⟩))
           · first
             | (cases hc10; done)
             | (exfalso; simp only [decide_eq_true_eq, decide_eq_false_iff_not, Bool.not_eq_true', Bool.not_eq_false', Bool.not_eq_eq_eq_not, Bool.not_true, Bool.not_false] at hc10; omega)
             | (skip
                try simp only [decide_eq_true_eq, decide_eq_false_iff_not, Bool.not_eq_true', Bool.not_eq_false', Bool.not_eq_eq_eq_not, Bool.not_true, Bool.not_false] at hc10
                refine W.exit ?_
                refine W.thenE ?_
                refine W.thenE ?_
                refine W.blockE ?_
                refine W.thenN ?_
                refine W.seq ?_
                refine W.region (fun K hK => ?_)
                simp only [go_sem, ↓forkQ_true, ↓forkQ_false, ↓guardQ_some, ↓resQ_val, ↓resQ_unit, ↓resQ_enter, ↓retQ_some, ↓resFQ_val, ↓resFQ_unit, ↓resFQ_enter, ↓retFQ_some, Nat.reduceEqDiff, reduceIte, Nat.reduceAdd, Nat.reduceMul, Nat.reduceSub, reduceCtorEq, Nat.reduceLeDiff, f0_9, f3_9, f4_9, f11_9]
                refine hK _ _ ?_
                clear hK K
                refine W.forget (fun e16 he16 => ?_)
                have f2_16 := congrArg (fun q => Env.get q 2) he16
                simp only [Env.put_some, Env.put_none, Env.get_set, Env.get_set, Nat.reduceEqDiff, reduceIte, if_true, if_false, eq_self] at f2_16
                clear he16 f0_9 f3_9 f4_9 f11_9
                refine W.thenN ?_
                refine W.ret ?_
                rw [doneQ_ret]
                obtain rfl : i = l.length := by omega
                exact ⟨[.slice ar (cornU l l.length).length cc], by simp only [go_sem, ↓forkQ_true, ↓forkQ_false, ↓guardQ_some, ↓resQ_val, ↓resQ_unit, ↓resQ_enter, ↓retQ_some, ↓resFQ_val, ↓resFQ_unit, ↓resFQ_enter, ↓retFQ_some, Nat.reduceEqDiff, reduceIte, Nat.reduceAdd, Nat.reduceMul, Nat.reduceSub, reduceCtorEq, Nat.reduceLeDiff, f2_16], ar, cc, rfl, hi.ol, ex.wr⟩)
         · exact ⟨Ext.low h, f0_7, f3_7, f4_7, Nat.zero_le _, OL.nil _ _ _⟩))
  obtain ⟨a1, c1, rfl, o1, w1⟩ := hR9
  obtain ⟨a', h', q1, q2, q3⟩ := o1.leave w1
  exact ⟨a', c1, h', hc9.trans (congrArg some q1), q2, q3⟩
theorem c20 (l : List Gt) (a : Option Addr) (c : Nat) (h : Heap) (hg : GA h l a) (hl : l.length ≤ 24) : ∃ a' c' h', callW Try.prog SkH 20 [.slice a l.length c] h = some (.slice a' (lowR l).length c', h', true) ∧ Grow h h' ∧ OL h' a' c' 1 (icells (lowR l)) (lowR l).length h.next := by
  by_cases hz : checkZ l = 0
  · have hr : lowR l = cornU l l.length := by unfold lowR; rw [if_pos hz]
    rw [hr]
    exact c20_ok l a c h hg ((checkZ_ok l).1 hz) hl
  · have hr : lowR l = [] := by unfold lowR; rw [if_neg hz]
    rw [hr]
    refine ⟨none, 0, h, ?_, Grow.refl h, OL.nil _ _ _⟩
    refine call_flat (rs := [.tmp 2]) [_] Try.func20 rfl rfl ?_ ?_
    rotate_left
    · have q15 := c15 l a c (h.low h.next) (hg.ext (Ext.low h)) hl
      simp only [go_sem, ↓forkQ_true, ↓forkQ_false, ↓guardQ_some, ↓resQ_val, ↓resQ_unit, ↓resQ_enter, ↓retQ_some, ↓resFQ_val, ↓resFQ_unit, ↓resFQ_enter, ↓retFQ_some, Nat.reduceEqDiff, reduceIte, Nat.reduceAdd, Nat.reduceMul, Nat.reduceSub, reduceCtorEq, Nat.reduceLeDiff, q15, hz]
    · rfl
noncomputable def uppR (l : List Gt) : List Int := if checkZ l = 0 then cornU (turnedL l) l.length else []
theorem c22 (l : List Gt) (a : Option Addr) (c : Nat) (h : Heap) (hg : GA h l a) (hl : l.length ≤ 24) : ∃ a' c' h', callW Try.prog SkH 22 [.slice a l.length c] h = some (.slice a' (uppR l).length c', h', true) ∧ Grow h h' ∧ OL h' a' c' 1 (icells (uppR l)) (uppR l).length h.next := by
  have q15 := c15 l a c (h.low h.next) (hg.ext (Ext.low h)) hl
  by_cases hz : checkZ l = 0
  · have hr : uppR l = cornU (turnedL l) l.length := by unfold uppR; rw [if_pos hz]
    rw [hr]
    have o := (checkZ_ok l).1 hz
    obtain ⟨a1, h1, q37, g1, ga1⟩ := c37 l a c (h.low h.next) (hg.ext (Ext.low h)) o hl
    obtain ⟨a2, c2, h2, q20, g2, o2⟩ := c20_ok (turnedL l) a1 l.length h1 ga1 o.turned (by rw [turnedL_len]; exact hl)
    rw [turnedL_len] at q37 q20 o2
    have hw : h2.wr = h.next := g2.wr.trans g1.wr
    obtain ⟨vs, h9, ⟨rfl, rfl⟩, hc9⟩ := call_done (H := SkH) (rs := [.tmp 2]) (R := fun vs h9 => vs = [.slice a2 (cornU (turnedL l) l.length).length c2] ∧ h9 = h2) (args := [.slice a l.length c]) (h := h) Try.func22 rfl rfl (by
      simp only [go_sem, ↓forkQ_true, ↓forkQ_false, ↓guardQ_some, ↓resQ_val, ↓resQ_unit, ↓resQ_enter, ↓retQ_some, ↓resFQ_val, ↓resFQ_unit, ↓resFQ_enter, ↓retFQ_some, Nat.reduceEqDiff, reduceIte, Nat.reduceAdd, Nat.reduceMul, Nat.reduceSub, reduceCtorEq, Nat.reduceLeDiff, q15, hz, q37, q20, doneQ_ret]
      exact ⟨_, rfl, rfl⟩)
    obtain ⟨a', h', q1, q2, q3⟩ := (o2.base (Nat.le_trans (Nat.le_refl _) g1.next)).leave (h := h) hw
    exact ⟨a', c2, h', hc9.trans (congrArg some q1), q2, q3⟩
  · have hr : uppR l = [] := by unfold uppR; rw [if_neg hz]
    rw [hr]
    refine ⟨none, 0, h, ?_, Grow.refl h, OL.nil _ _ _⟩
    refine call_flat (rs := [.tmp 2]) [_] Try.func22 rfl rfl ?_ ?_
    rotate_left
    · simp only [go_sem, ↓forkQ_true, ↓forkQ_false, ↓guardQ_some, ↓resQ_val, ↓resQ_unit, ↓resQ_enter, ↓retQ_some, ↓resFQ_val, ↓resFQ_unit, ↓resFQ_enter, ↓retFQ_some, Nat.reduceEqDiff, reduceIte, Nat.reduceAdd, Nat.reduceMul, Nat.reduceSub, reduceCtorEq, Nat.reduceLeDiff, q15, hz]
    · rfl
end Go.Proofs.Ytlblocieleildaa
