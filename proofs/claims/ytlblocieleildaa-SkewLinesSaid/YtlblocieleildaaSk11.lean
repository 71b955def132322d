/- What hull gives. -/
import Derived.Test.YtlblocieleildaaSk6
import Derived.Test.YtlblocieleildaaPl1
set_option linter.unusedSimpArgs false
set_option linter.unusedVariables false
set_option maxRecDepth 20000
set_option maxHeartbeats 8000000
namespace Go.Proofs.Ytlblocieleildaa
open Go.Am

/-- a stack, bottom first -/
def bot (s : List Nat) : List Int := s.reverse.map (fun k : Nat => (k : Int))
theorem bot_len (s : List Nat) : (bot s).length = s.length := by unfold bot; simp
theorem bot_cons (k : Nat) (s : List Nat) : bot (k :: s) = bot s ++ [(k : Int)] := by unfold bot; simp
theorem bot_top (b : Nat) (s : List Nat) : (icells (bot (b :: s)))[s.length]? = some (.int .i64 (b : Int)) := by
  rw [bot_cons]; unfold icells; rw [List.map_append, List.getElem?_append_right (by rw [List.length_map, bot_len]; exact Nat.le_refl _), List.length_map, bot_len]; simp
theorem bot_next (b a : Nat) (s : List Nat) : (icells (bot (b :: a :: s)))[s.length]? = some (.int .i64 (a : Int)) := by
  rw [bot_cons]; unfold icells; rw [List.map_append, List.getElem?_append_left (by rw [List.length_map, bot_len]; simp)]
  exact bot_top a s
theorem bot_take (b : Nat) (s : List Nat) : (icells (bot (b :: s))).take (s.length * 1) = icells (bot s) := by
  rw [bot_cons]; unfold icells; rw [List.map_append, Nat.mul_one, List.take_append_of_le_length (by rw [List.length_map, bot_len]; exact Nat.le_refl _), List.take_of_length_le (by rw [List.length_map, bot_len]; exact Nat.le_refl _)]
theorem icells_app1 (xs : List Int) (x : Int) : icells (xs ++ [x]) = icells xs ++ [.int .i64 x] := by unfold icells; simp
open Go.Plain in
theorem pop_lt {x y : Nat → Int} {m : Nat} : ∀ (s : List Nat), s.length ≤ m → (pop x y m s).length ≤ m
  | [], h => h
  | [_], h => h
  | b :: a :: r, h => by
    unfold pop
    split
    · exact h
    · exact pop_lt (a :: r) (by simp only [List.length_cons] at h ⊢; omega)
open Go.Plain in
theorem stack_len {x y : Nat → Int} : ∀ (m : Nat), (stack x y m).length ≤ m
  | 0 => Nat.le_refl _
  | m + 1 => by
    unfold stack
    rw [List.length_cons]
    have := pop_lt (x := x) (y := y) (m := m) _ (stack_len (x := x) (y := y) m)
    omega
open Go.Plain in
theorem pop_sub {x y : Nat → Int} {m : Nat} : ∀ (s : List Nat) (k : Nat), k ∈ pop x y m s → k ∈ s
  | [], _, h => h
  | [_], _, h => h
  | b :: a :: r, k, h => by
    unfold pop at h
    split at h
    · exact h
    · exact List.mem_cons_of_mem _ (pop_sub (a :: r) k h)
open Go.Plain in
theorem stack_mem {x y : Nat → Int} : ∀ (m k : Nat), k ∈ stack x y m → k < m
  | 0, k, h => by cases h
  | m + 1, k, h => by
    unfold stack at h
    rcases List.mem_cons.1 h with rfl | h
    · omega
    · have := stack_mem m k (pop_sub _ k h); omega
open Go.Plain
structure I32 (l : List Gt) (a : Option Addr) (c : Nat) (h : Heap) (f : Nat) (x y : Nat → Int) (i : Nat) (ar : Option Addr) (cc : Nat) (e : Env) (h1 : Heap) : Prop where
  ex : Ext h h1
  e0 : e.get 0 = .slice a l.length c
  e1 : e.get 1 = .func (.func f) #[] #[]
  e5 : e.get 5 = .slice ar (stack x y i).length cc
  e12 : e.get 12 = .slice a l.length c
  e13 : e.get 13 = .int .i64 (l.length : Int)
  e14 : e.get 14 = .int .i64 (i : Int)
  le : i ≤ l.length
  ol : OL h1 ar cc 1 (icells (bot (stack x y i))) (stack x y i).length h.next
structure J32 (l : List Gt) (a : Option Addr) (c : Nat) (h : Heap) (f : Nat) (x y : Nat → Int) (i : Nat) (ar : Option Addr) (cc kb : Nat) (s : List Nat) (e : Env) (h1 : Heap) : Prop where
  ex : Ext h h1
  e0 : e.get 0 = .slice a l.length c
  e1 : e.get 1 = .func (.func f) #[] #[]
  e5 : e.get 5 = .slice ar s.length cc
  e6 : e.get 6 = .int .i64 (i : Int)
  e7 : e.get 7 = .pointer (some ⟨kb, 0, none⟩)
  e8 : e.get 8 = .int .i64 (s.length : Int)
  e12 : e.get 12 = .slice a l.length c
  e13 : e.get 13 = .int .i64 (l.length : Int)
  e14 : e.get 14 = .int .i64 (i : Int)
  ol : OL h1 ar cc 1 (icells (bot s)) s.length h.next
  g7 : h1.get kb = some ⟨[.int .i64 (gt l i).x, .int .i64 (gt l i).lo, .int .i64 (gt l i).hi], true, false, none⟩
  r : pop x y i s = pop x y i (stack x y i)
  m : ∀ k, k ∈ s → k < i
  sl : s.length ≤ i
theorem c32_ok (l : List Gt) (a : Option Addr) (c : Nat) (h : Heap) (hg : GA h l a) (o : Ok l) (hl : l.length ≤ 24) (f : Nat) (hbf : hasBody Try.prog f = true) (x y : Nat → Int)
    (hcb : ∀ i j k, i < l.length → j < l.length → k < l.length → ∀ h, callW Try.prog SkH f [.agg #[.int .i64 (gt l i).x, .int .i64 (gt l i).lo, .int .i64 (gt l i).hi], .agg #[.int .i64 (gt l j).x, .int .i64 (gt l j).lo, .int .i64 (gt l j).hi], .agg #[.int .i64 (gt l k).x, .int .i64 (gt l k).lo, .int .i64 (gt l k).hi]] h = some (.bool (decide (0 < cr x y i j k)), h, true)) :
    ∃ a' c' h', callW Try.prog SkH 32 [.slice a l.length c, .func (.func f) #[] #[]] h = some (.slice a' (stack x y l.length).length c', h', true) ∧ Grow h h' ∧ OL h' a' c' 1 (icells (bot (stack x y l.length))) (stack x y l.length).length h.next := by
  obtain ⟨vs, h9, hR9, hc9⟩ := call_done (H := SkH) (rs := [.tmp 4]) (R := fun vs h9 => ∃ a1 c1, vs = [.slice a1 (stack x y l.length).length c1] ∧ OL h9 a1 c1 1 (icells (bot (stack x y l.length))) (stack x y l.length).length h.next ∧ h9.wr = h.next) (args := [.slice a l.length c, .func (.func f) #[] #[]]) (h := h) Try.func32 rfl rfl (by
    skip
    refine W.forget (fun e1 he1 => ?_)
    have f0_1 := congrArg (fun q => Env.get q 0) he1
    simp only [ofList_cons, ofList_nil, Env.put_some, Env.put_none, Env.get_set, Env.get_set, Nat.reduceEqDiff, reduceIte, if_true, if_false, eq_self] at f0_1
    have f1_1 := congrArg (fun q => Env.get q 1) he1
    simp only [ofList_cons, ofList_nil, Env.put_some, Env.put_none, Env.get_set, Env.get_set, Nat.reduceEqDiff, reduceIte, if_true, if_false, eq_self] at f1_1
    clear he1
    refine W.seq ?_
    refine W.region (fun K hK => ?_)
    simp (config := { maxSteps := 10000000 }) only [go_sem, ↓forkQ_true, ↓forkQ_false, ↓guardQ_some, ↓resQ_val, ↓resQ_unit, ↓resQ_enter, ↓retQ_some, ↓resFQ_val, ↓resFQ_unit, ↓resFQ_enter, ↓retFQ_some, Nat.reduceEqDiff, reduceIte, Nat.reduceAdd, Nat.reduceMul, Nat.reduceSub, reduceCtorEq, Nat.reduceLeDiff, f0_1, f1_1]
    refine hK _ _ ?_
    clear hK K
    refine W.forget (fun e2 he2 => ?_)
    have f0_2 := congrArg (fun q => Env.get q 0) he2
    simp only [Env.put_some, Env.put_none, Env.get_set, Env.get_set, Nat.reduceEqDiff, reduceIte, if_true, if_false, eq_self, f0_1] at f0_2
    have f1_2 := congrArg (fun q => Env.get q 1) he2
    simp only [Env.put_some, Env.put_none, Env.get_set, Env.get_set, Nat.reduceEqDiff, reduceIte, if_true, if_false, eq_self, f1_1] at f1_2
    have f4_2 := congrArg (fun q => Env.get q 4) he2
    simp only [Env.put_some, Env.put_none, Env.get_set, Env.get_set, Nat.reduceEqDiff, reduceIte, if_true, if_false, eq_self] at f4_2
    clear he2 f0_1 f1_1
    refine W.thenN ?_
    refine W.seq ?_
    refine W.seq ?_
    refine W.region (fun K hK => ?_)
    have hz := (checkZ_ok l).2 o
    have q14 := c14 l a c (h.low h.next) (hg.ext (Ext.low h)) hl
    simp (config := { maxSteps := 10000000 }) only [go_sem, ↓forkQ_true, ↓forkQ_false, ↓guardQ_some, ↓resQ_val, ↓resQ_unit, ↓resQ_enter, ↓retQ_some, ↓resFQ_val, ↓resFQ_unit, ↓resFQ_enter, ↓retFQ_some, Nat.reduceEqDiff, reduceIte, Nat.reduceAdd, Nat.reduceMul, Nat.reduceSub, reduceCtorEq, Nat.reduceLeDiff, f0_2, f1_2, f4_2, q14, hz]
    refine hK _ _ ?_
    clear hK K
    refine W.forget (fun e3 he3 => ?_)
    have f0_3 := congrArg (fun q => Env.get q 0) he3
    simp only [Env.put_some, Env.put_none, Env.get_set, Env.get_set, Nat.reduceEqDiff, reduceIte, if_true, if_false, eq_self, f0_2] at f0_3
    have f1_3 := congrArg (fun q => Env.get q 1) he3
    simp only [Env.put_some, Env.put_none, Env.get_set, Env.get_set, Nat.reduceEqDiff, reduceIte, if_true, if_false, eq_self, f1_2] at f1_3
    have f4_3 := congrArg (fun q => Env.get q 4) he3
    simp only [Env.put_some, Env.put_none, Env.get_set, Env.get_set, Nat.reduceEqDiff, reduceIte, if_true, if_false, eq_self, f4_2] at f4_3
    have f11_3 := congrArg (fun q => Env.get q 11) he3
    simp only [Env.put_some, Env.put_none, Env.get_set, Env.get_set, Nat.reduceEqDiff, reduceIte, if_true, if_false, eq_self] at f11_3
    clear he3 f0_2 f1_2 f4_2
    refine W.thenN ?_
    refine W.cond f11_3 (fun hc4 => ?_) (fun hc4 => ?_)
    · first
      | (cases hc4; done)
      | (exfalso; simp only [decide_eq_true_eq, decide_eq_false_iff_not, Bool.not_eq_true', Bool.not_eq_false', Bool.not_eq_eq_eq_not, Bool.not_true, Bool.not_false] at hc4; omega)
      | (skip
         try simp only [decide_eq_true_eq, decide_eq_false_iff_not, Bool.not_eq_true', Bool.not_eq_false', Bool.not_eq_eq_eq_not, Bool.not_true, Bool.not_false] at hc4
         refine W.seq ?_
         refine W.region (fun K hK => ?_)
         simp (config := { maxSteps := 10000000 }) only [go_sem, ↓forkQ_true, ↓forkQ_false, ↓guardQ_some, ↓resQ_val, ↓resQ_unit, ↓resQ_enter, ↓retQ_some, ↓resFQ_val, ↓resFQ_unit, ↓resFQ_enter, ↓retFQ_some, Nat.reduceEqDiff, reduceIte, Nat.reduceAdd, Nat.reduceMul, Nat.reduceSub, reduceCtorEq, Nat.reduceLeDiff, f0_3, f1_3, f4_3, f11_3, q14, hz]
         refine hK _ _ ?_
         clear hK K
         refine W.forget (fun e5 he5 => ?_)
         have f0_5 := congrArg (fun q => Env.get q 0) he5
         simp only [Env.put_some, Env.put_none, Env.get_set, Env.get_set, Nat.reduceEqDiff, reduceIte, if_true, if_false, eq_self, f0_3] at f0_5
         have f1_5 := congrArg (fun q => Env.get q 1) he5
         simp only [Env.put_some, Env.put_none, Env.get_set, Env.get_set, Nat.reduceEqDiff, reduceIte, if_true, if_false, eq_self, f1_3] at f1_5
         have f4_5 := congrArg (fun q => Env.get q 4) he5
         simp only [Env.put_some, Env.put_none, Env.get_set, Env.get_set, Nat.reduceEqDiff, reduceIte, if_true, if_false, eq_self, f4_3] at f4_5
         clear he5 f0_3 f1_3 f4_3 f11_3
         refine W.thenN ?_
         refine W.ret ?_
         refine W.thenR ?_
         rw [doneQ_ret]
         obtain rfl : i = l.length := by omega
         exact ⟨[.slice ar (stack x y l.length).length cc], by simp only [go_sem, ↓forkQ_true, ↓forkQ_false, ↓guardQ_some, ↓resQ_val, ↓resQ_unit, ↓resQ_enter, ↓retQ_some, ↓resFQ_val, ↓resFQ_unit, ↓resFQ_enter, ↓retFQ_some, Nat.reduceEqDiff, reduceIte, Nat.reduceAdd, Nat.reduceMul, Nat.reduceSub, reduceCtorEq, Nat.reduceLeDiff, f0_5, f1_5, f4_5], ar, cc, rfl, hi.ol, ex.wr⟩)
    · first
      | (cases hc4; done)
      | (exfalso; simp only [decide_eq_true_eq, decide_eq_false_iff_not, Bool.not_eq_true', Bool.not_eq_false', Bool.not_eq_eq_eq_not, Bool.not_true, Bool.not_false] at hc4; omega)
      | (skip
         try simp only [decide_eq_true_eq, decide_eq_false_iff_not, Bool.not_eq_true', Bool.not_eq_false', Bool.not_eq_eq_eq_not, Bool.not_true, Bool.not_false] at hc4
         refine W.skip ?_
         refine W.thenN ?_
         refine W.seq ?_
         refine W.region (fun K hK => ?_)
         simp (config := { maxSteps := 10000000 }) only [go_sem, ↓forkQ_true, ↓forkQ_false, ↓guardQ_some, ↓resQ_val, ↓resQ_unit, ↓resQ_enter, ↓retQ_some, ↓resFQ_val, ↓resFQ_unit, ↓resFQ_enter, ↓retFQ_some, Nat.reduceEqDiff, reduceIte, Nat.reduceAdd, Nat.reduceMul, Nat.reduceSub, reduceCtorEq, Nat.reduceLeDiff, f0_3, f1_3, f4_3, f11_3, q14, hz]
         refine hK _ _ ?_
         clear hK K
         refine W.forget (fun e6 he6 => ?_)
         have f0_6 := congrArg (fun q => Env.get q 0) he6
         simp only [Env.put_some, Env.put_none, Env.get_set, Env.get_set, Nat.reduceEqDiff, reduceIte, if_true, if_false, eq_self, f0_3] at f0_6
         have f1_6 := congrArg (fun q => Env.get q 1) he6
         simp only [Env.put_some, Env.put_none, Env.get_set, Env.get_set, Nat.reduceEqDiff, reduceIte, if_true, if_false, eq_self, f1_3] at f1_6
         have f4_6 := congrArg (fun q => Env.get q 4) he6
         simp only [Env.put_some, Env.put_none, Env.get_set, Env.get_set, Nat.reduceEqDiff, reduceIte, if_true, if_false, eq_self, f4_3] at f4_6
         have f5_6 := congrArg (fun q => Env.get q 5) he6
         simp only [Env.put_some, Env.put_none, Env.get_set, Env.get_set, Nat.reduceEqDiff, reduceIte, if_true, if_false, eq_self] at f5_6
         clear he6 f0_3 f1_3 f4_3 f11_3
         refine W.thenN ?_
         refine W.seq ?_
         refine W.seq ?_
         refine W.region (fun K hK => ?_)
         simp (config := { maxSteps := 10000000 }) only [go_sem, ↓forkQ_true, ↓forkQ_false, ↓guardQ_some, ↓resQ_val, ↓resQ_unit, ↓resQ_enter, ↓retQ_some, ↓resFQ_val, ↓resFQ_unit, ↓resFQ_enter, ↓retFQ_some, Nat.reduceEqDiff, reduceIte, Nat.reduceAdd, Nat.reduceMul, Nat.reduceSub, reduceCtorEq, Nat.reduceLeDiff, f0_6, f1_6, f4_6, f5_6, q14, hz]
         refine hK _ _ ?_
         clear hK K
         refine W.forget (fun e7 he7 => ?_)
         have f0_7 := congrArg (fun q => Env.get q 0) he7
         simp only [Env.put_some, Env.put_none, Env.get_set, Env.get_set, Nat.reduceEqDiff, reduceIte, if_true, if_false, eq_self, f0_6] at f0_7
         have f1_7 := congrArg (fun q => Env.get q 1) he7
         simp only [Env.put_some, Env.put_none, Env.get_set, Env.get_set, Nat.reduceEqDiff, reduceIte, if_true, if_false, eq_self, f1_6] at f1_7
         have f4_7 := congrArg (fun q => Env.get q 4) he7
         simp only [Env.put_some, Env.put_none, Env.get_set, Env.get_set, Nat.reduceEqDiff, reduceIte, if_true, if_false, eq_self, f4_6] at f4_7
         have f5_7 := congrArg (fun q => Env.get q 5) he7
         simp only [Env.put_some, Env.put_none, Env.get_set, Env.get_set, Nat.reduceEqDiff, reduceIte, if_true, if_false, eq_self, f5_6] at f5_7
         have f12_7 := congrArg (fun q => Env.get q 12) he7
         simp only [Env.put_some, Env.put_none, Env.get_set, Env.get_set, Nat.reduceEqDiff, reduceIte, if_true, if_false, eq_self] at f12_7
         have f13_7 := congrArg (fun q => Env.get q 13) he7
         simp only [Env.put_some, Env.put_none, Env.get_set, Env.get_set, Nat.reduceEqDiff, reduceIte, if_true, if_false, eq_self] at f13_7
         have f14_7 := congrArg (fun q => Env.get q 14) he7
         simp only [Env.put_some, Env.put_none, Env.get_set, Env.get_set, Nat.reduceEqDiff, reduceIte, if_true, if_false, eq_self] at f14_7
         clear he7 f0_6 f1_6 f4_6 f5_6
         refine W.thenN ?_
         refine W.block ?_
         refine wq_rounds (fun s : Nat × Option Addr × Nat => l.length - s.1) (fun s => I32 l a c h f x y s.1 s.2.1 s.2.2) ?_ (0, none, 0) _ _ ?_
         · intro ⟨i, ar, cc⟩ e8 k1 hi
           replace hi : I32 l a c h f x y i ar cc _ k1 := hi
           have f0_8 := hi.e0
           have f1_8 := hi.e1
           have f5_8 := hi.e5
           have f12_8 := hi.e12
           have f13_8 := hi.e13
           have f14_8 := hi.e14
           have ex := hi.ex
           have hle := hi.le
           have hadd : wrapF .i64 ((i : Int) + 1) = ((i + 1 : Nat) : Int) := by rw [w64_in _ (by omega)]; omega
           refine W.seq ?_
           refine W.region (fun K hK => ?_)
           simp (config := { maxSteps := 10000000 }) only [go_sem, ↓forkQ_true, ↓forkQ_false, ↓guardQ_some, ↓resQ_val, ↓resQ_unit, ↓resQ_enter, ↓retQ_some, ↓resFQ_val, ↓resFQ_unit, ↓resFQ_enter, ↓retFQ_some, Nat.reduceEqDiff, reduceIte, Nat.reduceAdd, Nat.reduceMul, Nat.reduceSub, reduceCtorEq, Nat.reduceLeDiff, f0_8, f1_8, f5_8, f12_8, f13_8, f14_8, hadd]
           refine hK _ _ ?_
           clear hK K
           refine W.forget (fun e9 he9 => ?_)
           have f0_9 := congrArg (fun q => Env.get q 0) he9
           simp only [Env.put_some, Env.put_none, Env.get_set, Env.get_set, Nat.reduceEqDiff, reduceIte, if_true, if_false, eq_self, f0_8] at f0_9
           have f1_9 := congrArg (fun q => Env.get q 1) he9
           simp only [Env.put_some, Env.put_none, Env.get_set, Env.get_set, Nat.reduceEqDiff, reduceIte, if_true, if_false, eq_self, f1_8] at f1_9
           have f5_9 := congrArg (fun q => Env.get q 5) he9
           simp only [Env.put_some, Env.put_none, Env.get_set, Env.get_set, Nat.reduceEqDiff, reduceIte, if_true, if_false, eq_self, f5_8] at f5_9
           have f12_9 := congrArg (fun q => Env.get q 12) he9
           simp only [Env.put_some, Env.put_none, Env.get_set, Env.get_set, Nat.reduceEqDiff, reduceIte, if_true, if_false, eq_self, f12_8] at f12_9
           have f13_9 := congrArg (fun q => Env.get q 13) he9
           simp only [Env.put_some, Env.put_none, Env.get_set, Env.get_set, Nat.reduceEqDiff, reduceIte, if_true, if_false, eq_self, f13_8] at f13_9
           have f14_9 := congrArg (fun q => Env.get q 14) he9
           simp only [Env.put_some, Env.put_none, Env.get_set, Env.get_set, Nat.reduceEqDiff, reduceIte, if_true, if_false, eq_self, f14_8] at f14_9
           have f15_9 := congrArg (fun q => Env.get q 15) he9
           simp only [Env.put_some, Env.put_none, Env.get_set, Env.get_set, Nat.reduceEqDiff, reduceIte, if_true, if_false, eq_self] at f15_9
           clear he9 f0_8 f1_8 f5_8 f12_8 f13_8 f14_8
           refine W.thenN ?_
           refine W.seq ?_
           refine W.cond f15_9 (fun hc10 => ?_) (fun hc10 => ?_)
           · first
             | (cases hc10; done)
             | (exfalso; simp only [decide_eq_true_eq, decide_eq_false_iff_not, Bool.not_eq_true', Bool.not_eq_false', Bool.not_eq_eq_eq_not, Bool.not_true, Bool.not_false] at hc10; omega)
             | (skip
                try simp only [decide_eq_true_eq, decide_eq_false_iff_not, Bool.not_eq_true', Bool.not_eq_false', Bool.not_eq_eq_eq_not, Bool.not_true, Bool.not_false] at hc10
                refine W.skip ?_
                refine W.thenN ?_
                refine W.seq ?_
                refine W.block ?_
                refine W.seq ?_
                refine W.region (fun K hK => ?_)
                have hlt : i < l.length := by omega
                have hir := inRange_nat hlt
                have hga := hg.ext ex
                obtain ⟨b0, blk, ext, rfl, hb, hcs, hbl⟩ := hg (ne_of_lt hlt)
                have hb' := (ex.get b0 hbl).trans hb
                have hbn := ex.ne hbl
                have hbn' := ex.ne' hbl
                have hf' := ex.fact'
                have hw := ex.wr
                have hcut := gcut (ext := ext) hlt
                simp (config := { maxSteps := 10000000 }) only [go_sem, ↓forkQ_true, ↓forkQ_false, ↓guardQ_some, ↓resQ_val, ↓resQ_unit, ↓resQ_enter, ↓retQ_some, ↓resFQ_val, ↓resFQ_unit, ↓resFQ_enter, ↓retFQ_some, Nat.reduceEqDiff, reduceIte, Nat.reduceAdd, Nat.reduceMul, Nat.reduceSub, reduceCtorEq, Nat.reduceLeDiff, f0_9, f1_9, f5_9, f12_9, f13_9, f14_9, f15_9, hadd, hir, hb', hbn, hbn', hf', hw, hcs, hcut]
                refine hK _ _ ?_
                clear hK K
                refine W.forget (fun e11 he11 => ?_)
                have f0_11 := congrArg (fun q => Env.get q 0) he11
                simp only [Env.put_some, Env.put_none, Env.get_set, Env.get_set, Nat.reduceEqDiff, reduceIte, if_true, if_false, eq_self, f0_9] at f0_11
                have f1_11 := congrArg (fun q => Env.get q 1) he11
                simp only [Env.put_some, Env.put_none, Env.get_set, Env.get_set, Nat.reduceEqDiff, reduceIte, if_true, if_false, eq_self, f1_9] at f1_11
                have f5_11 := congrArg (fun q => Env.get q 5) he11
                simp only [Env.put_some, Env.put_none, Env.get_set, Env.get_set, Nat.reduceEqDiff, reduceIte, if_true, if_false, eq_self, f5_9] at f5_11
                have f6_11 := congrArg (fun q => Env.get q 6) he11
                simp only [Env.put_some, Env.put_none, Env.get_set, Env.get_set, Nat.reduceEqDiff, reduceIte, if_true, if_false, eq_self] at f6_11
                have f7_11 := congrArg (fun q => Env.get q 7) he11
                simp only [Env.put_some, Env.put_none, Env.get_set, Env.get_set, Nat.reduceEqDiff, reduceIte, if_true, if_false, eq_self] at f7_11
                have f12_11 := congrArg (fun q => Env.get q 12) he11
                simp only [Env.put_some, Env.put_none, Env.get_set, Env.get_set, Nat.reduceEqDiff, reduceIte, if_true, if_false, eq_self, f12_9] at f12_11
                have f13_11 := congrArg (fun q => Env.get q 13) he11
                simp only [Env.put_some, Env.put_none, Env.get_set, Env.get_set, Nat.reduceEqDiff, reduceIte, if_true, if_false, eq_self, f13_9] at f13_11
                have f14_11 := congrArg (fun q => Env.get q 14) he11
                simp only [Env.put_some, Env.put_none, Env.get_set, Env.get_set, Nat.reduceEqDiff, reduceIte, if_true, if_false, eq_self, f14_9] at f14_11
                clear he11 f0_9 f1_9 f5_9 f12_9 f13_9 f14_9 f15_9
                refine W.thenN ?_
                refine W.seq ?_
                refine W.seq ?_
                refine W.region (fun K hK => ?_)
                simp (config := { maxSteps := 10000000 }) only [go_sem, ↓forkQ_true, ↓forkQ_false, ↓guardQ_some, ↓resQ_val, ↓resQ_unit, ↓resQ_enter, ↓retQ_some, ↓resFQ_val, ↓resFQ_unit, ↓resFQ_enter, ↓retFQ_some, Nat.reduceEqDiff, reduceIte, Nat.reduceAdd, Nat.reduceMul, Nat.reduceSub, reduceCtorEq, Nat.reduceLeDiff, f0_11, f1_11, f5_11, f6_11, f7_11, f12_11, f13_11, f14_11, hadd, hir, hb', hbn, hbn', hf', hw, hcs, hcut]
                refine hK _ _ ?_
                clear hK K
                refine W.forget (fun e12 he12 => ?_)
                have f0_12 := congrArg (fun q => Env.get q 0) he12
                simp only [Env.put_some, Env.put_none, Env.get_set, Env.get_set, Nat.reduceEqDiff, reduceIte, if_true, if_false, eq_self, f0_11] at f0_12
                have f1_12 := congrArg (fun q => Env.get q 1) he12
                simp only [Env.put_some, Env.put_none, Env.get_set, Env.get_set, Nat.reduceEqDiff, reduceIte, if_true, if_false, eq_self, f1_11] at f1_12
                have f5_12 := congrArg (fun q => Env.get q 5) he12
                simp only [Env.put_some, Env.put_none, Env.get_set, Env.get_set, Nat.reduceEqDiff, reduceIte, if_true, if_false, eq_self, f5_11] at f5_12
                have f6_12 := congrArg (fun q => Env.get q 6) he12
                simp only [Env.put_some, Env.put_none, Env.get_set, Env.get_set, Nat.reduceEqDiff, reduceIte, if_true, if_false, eq_self, f6_11] at f6_12
                have f7_12 := congrArg (fun q => Env.get q 7) he12
                simp only [Env.put_some, Env.put_none, Env.get_set, Env.get_set, Nat.reduceEqDiff, reduceIte, if_true, if_false, eq_self, f7_11] at f7_12
                have f8_12 := congrArg (fun q => Env.get q 8) he12
                simp only [Env.put_some, Env.put_none, Env.get_set, Env.get_set, Nat.reduceEqDiff, reduceIte, if_true, if_false, eq_self] at f8_12
                have f12_12 := congrArg (fun q => Env.get q 12) he12
                simp only [Env.put_some, Env.put_none, Env.get_set, Env.get_set, Nat.reduceEqDiff, reduceIte, if_true, if_false, eq_self, f12_11] at f12_12
                have f13_12 := congrArg (fun q => Env.get q 13) he12
                simp only [Env.put_some, Env.put_none, Env.get_set, Env.get_set, Nat.reduceEqDiff, reduceIte, if_true, if_false, eq_self, f13_11] at f13_12
                have f14_12 := congrArg (fun q => Env.get q 14) he12
                simp only [Env.put_some, Env.put_none, Env.get_set, Env.get_set, Nat.reduceEqDiff, reduceIte, if_true, if_false, eq_self, f14_11] at f14_12
                clear he12 f0_11 f1_11 f5_11 f6_11 f7_11 f12_11 f13_11 f14_11
                refine W.thenN ?_
                refine W.block ?_
                refine wq_rounds (fun s : List Nat => s.length) (J32 l (some ⟨b0, 0, none⟩) c h f x y i ar cc k1.next) ?_ (stack x y i) _ _ ?_
                · intro s e13 k2 hj
                  have f0_13 := hj.e0
                  have f1_13 := hj.e1
                  have f5_13 := hj.e5
                  have f6_13 := hj.e6
                  have f7_13 := hj.e7
                  have f8_13 := hj.e8
                  have f12_13 := hj.e12
                  have f13_13 := hj.e13
                  have f14_13 := hj.e14
                  have exj := hj.ex
                  have hsl := hj.sl
                  refine W.seq ?_
                  refine W.seq ?_
                  by_cases hs2 : ¬ 2 ≤ s.length
                  · skip
                    have hps : Go.Plain.pop x y i s = s := by
                      match s, hs2 with
                      | [], _ => rfl
                      | [_], _ => rfl
                      | _ :: _ :: _, h => exact absurd h (by simp only [List.length_cons]; omega)
                    have h2 : ((2 : Int) ≤ (s.length : Int)) = False := eq_false (by omega)
                    refine W.drawA dr32_8 (fun A hA K hK => ?_)
                    have gd2 := guardAt hA (j := 2) (d := 23) rfl
                    clear hA
                    simp (config := { maxSteps := 10000000 }) only [go_sem, ↓forkQ_true, ↓forkQ_false, ↓guardQ_some, ↓resQ_val, ↓resQ_unit, ↓resQ_enter, ↓retQ_some, ↓resFQ_val, ↓resFQ_unit, ↓resFQ_enter, ↓retFQ_some, Nat.reduceEqDiff, reduceIte, Nat.reduceAdd, Nat.reduceMul, Nat.reduceSub, reduceCtorEq, Nat.reduceLeDiff, f0_13, f1_13, f5_13, f6_13, f7_13, f8_13, f12_13, f13_13, f14_13, hadd, h2, gd2]
                    repeat' (first | (refine W.forkP (fun hc14 => ?_) (fun hc14 => ?_) <;> simp (config := { maxSteps := 10000000 }) only [go_sem, ↓forkQ_true, ↓forkQ_false, ↓guardQ_some, ↓resQ_val, ↓resQ_unit, ↓resQ_enter, ↓retQ_some, ↓resFQ_val, ↓resFQ_unit, ↓resFQ_enter, ↓retFQ_some, Nat.reduceEqDiff, reduceIte, Nat.reduceAdd, Nat.reduceMul, Nat.reduceSub, reduceCtorEq, Nat.reduceLeDiff, f0_13, f1_13, f5_13, f6_13, f7_13, f8_13, f12_13, f13_13, f14_13, hadd, h2, gd2, hc14]) | (refine W.fork (fun hc14 => ?_) (fun hc14 => ?_) <;> simp (config := { maxSteps := 10000000 }) only [go_sem, ↓forkQ_true, ↓forkQ_false, ↓guardQ_some, ↓resQ_val, ↓resQ_unit, ↓resQ_enter, ↓retQ_some, ↓resFQ_val, ↓resFQ_unit, ↓resFQ_enter, ↓retFQ_some, Nat.reduceEqDiff, reduceIte, Nat.reduceAdd, Nat.reduceMul, Nat.reduceSub, reduceCtorEq, Nat.reduceLeDiff, f0_13, f1_13, f5_13, f6_13, f7_13, f8_13, f12_13, f13_13, f14_13, hadd, h2, gd2, hc14]))
                    all_goals
                      refine hK _ _ ?_
                      clear hK K A gd2
                      refine W.forget (fun e14 he14 => ?_)
                      have f0_14 := congrArg (fun q => Env.get q 0) he14
                      simp only [Env.put_some, Env.put_none, Env.get_set, Env.get_set, Nat.reduceEqDiff, reduceIte, if_true, if_false, eq_self, f0_13] at f0_14
                      have f1_14 := congrArg (fun q => Env.get q 1) he14
                      simp only [Env.put_some, Env.put_none, Env.get_set, Env.get_set, Nat.reduceEqDiff, reduceIte, if_true, if_false, eq_self, f1_13] at f1_14
                      have f5_14 := congrArg (fun q => Env.get q 5) he14
                      simp only [Env.put_some, Env.put_none, Env.get_set, Env.get_set, Nat.reduceEqDiff, reduceIte, if_true, if_false, eq_self, f5_13] at f5_14
                      have f6_14 := congrArg (fun q => Env.get q 6) he14
                      simp only [Env.put_some, Env.put_none, Env.get_set, Env.get_set, Nat.reduceEqDiff, reduceIte, if_true, if_false, eq_self, f6_13] at f6_14
                      have f7_14 := congrArg (fun q => Env.get q 7) he14
                      simp only [Env.put_some, Env.put_none, Env.get_set, Env.get_set, Nat.reduceEqDiff, reduceIte, if_true, if_false, eq_self, f7_13] at f7_14
                      have f8_14 := congrArg (fun q => Env.get q 8) he14
                      simp only [Env.put_some, Env.put_none, Env.get_set, Env.get_set, Nat.reduceEqDiff, reduceIte, if_true, if_false, eq_self, f8_13] at f8_14
                      have f12_14 := congrArg (fun q => Env.get q 12) he14
                      simp only [Env.put_some, Env.put_none, Env.get_set, Env.get_set, Nat.reduceEqDiff, reduceIte, if_true, if_false, eq_self, f12_13] at f12_14
                      have f13_14 := congrArg (fun q => Env.get q 13) he14
                      simp only [Env.put_some, Env.put_none, Env.get_set, Env.get_set, Nat.reduceEqDiff, reduceIte, if_true, if_false, eq_self, f13_13] at f13_14
                      have f14_14 := congrArg (fun q => Env.get q 14) he14
                      simp only [Env.put_some, Env.put_none, Env.get_set, Env.get_set, Nat.reduceEqDiff, reduceIte, if_true, if_false, eq_self, f14_13] at f14_14
                      have f44_14 := congrArg (fun q => Env.get q 44) he14
                      simp only [Env.put_some, Env.put_none, Env.get_set, Env.get_set, Nat.reduceEqDiff, reduceIte, if_true, if_false, eq_self] at f44_14
                      clear he14 f0_13 f1_13 f5_13 f6_13 f7_13 f8_13 f12_13 f13_13 f14_13
                      refine W.thenN ?_
                      refine W.cond f44_14 (fun hc15 => ?_) (fun hc15 => ?_)
                      · first
                        | (cases hc15; done)
                        | (exfalso; simp only [decide_eq_true_eq, decide_eq_false_iff_not, Bool.not_eq_true', Bool.not_eq_false', Bool.not_eq_eq_eq_not, Bool.not_true, Bool.not_false] at hc15; omega)
                        | (skip
                           try simp only [decide_eq_true_eq, decide_eq_false_iff_not, Bool.not_eq_true', Bool.not_eq_false', Bool.not_eq_eq_eq_not, Bool.not_true, Bool.not_false] at hc15
                           refine W.skip ?_
                           refine W.thenN ?_
                           refine W.seq ?_
                           refine W.block ?_
                           refine W.region (fun K hK => ?_)
                           simp (config := { maxSteps := 10000000 }) only [go_sem, ↓forkQ_true, ↓forkQ_false, ↓guardQ_some, ↓resQ_val, ↓resQ_unit, ↓resQ_enter, ↓retQ_some, ↓resFQ_val, ↓resFQ_unit, ↓resFQ_enter, ↓retFQ_some, Nat.reduceEqDiff, reduceIte, Nat.reduceAdd, Nat.reduceMul, Nat.reduceSub, reduceCtorEq, Nat.reduceLeDiff, f0_14, f1_14, f5_14, f6_14, f7_14, f8_14, f12_14, f13_14, f14_14, f44_14, hadd, h2]
                           refine hK _ _ ?_
                           clear hK K
                           refine W.forget (fun e16 he16 => ?_)
                           have f0_16 := congrArg (fun q => Env.get q 0) he16
                           simp only [Env.put_some, Env.put_none, Env.get_set, Env.get_set, Nat.reduceEqDiff, reduceIte, if_true, if_false, eq_self, f0_14] at f0_16
                           have f1_16 := congrArg (fun q => Env.get q 1) he16
                           simp only [Env.put_some, Env.put_none, Env.get_set, Env.get_set, Nat.reduceEqDiff, reduceIte, if_true, if_false, eq_self, f1_14] at f1_16
                           have f5_16 := congrArg (fun q => Env.get q 5) he16
                           simp only [Env.put_some, Env.put_none, Env.get_set, Env.get_set, Nat.reduceEqDiff, reduceIte, if_true, if_false, eq_self, f5_14] at f5_16
                           have f6_16 := congrArg (fun q => Env.get q 6) he16
                           simp only [Env.put_some, Env.put_none, Env.get_set, Env.get_set, Nat.reduceEqDiff, reduceIte, if_true, if_false, eq_self, f6_14] at f6_16
                           have f7_16 := congrArg (fun q => Env.get q 7) he16
                           simp only [Env.put_some, Env.put_none, Env.get_set, Env.get_set, Nat.reduceEqDiff, reduceIte, if_true, if_false, eq_self, f7_14] at f7_16
                           have f8_16 := congrArg (fun q => Env.get q 8) he16
                           simp only [Env.put_some, Env.put_none, Env.get_set, Env.get_set, Nat.reduceEqDiff, reduceIte, if_true, if_false, eq_self, f8_14] at f8_16
                           have f12_16 := congrArg (fun q => Env.get q 12) he16
                           simp only [Env.put_some, Env.put_none, Env.get_set, Env.get_set, Nat.reduceEqDiff, reduceIte, if_true, if_false, eq_self, f12_14] at f12_16
                           have f13_16 := congrArg (fun q => Env.get q 13) he16
                           simp only [Env.put_some, Env.put_none, Env.get_set, Env.get_set, Nat.reduceEqDiff, reduceIte, if_true, if_false, eq_self, f13_14] at f13_16
                           have f14_16 := congrArg (fun q => Env.get q 14) he16
                           simp only [Env.put_some, Env.put_none, Env.get_set, Env.get_set, Nat.reduceEqDiff, reduceIte, if_true, if_false, eq_self, f14_14] at f14_16
                           clear he16 f0_14 f1_14 f5_14 f6_14 f7_14 f8_14 f12_14 f13_14 f14_14 f44_14
                           refine W.blockN ?_
                           refine W.thenN ?_
                           refine W.region (fun K hK => ?_)
                           simp (config := { maxSteps := 10000000 }) only [go_sem, ↓forkQ_true, ↓forkQ_false, ↓guardQ_some, ↓resQ_val, ↓resQ_unit, ↓resQ_enter, ↓retQ_some, ↓resFQ_val, ↓resFQ_unit, ↓resFQ_enter, ↓retFQ_some, Nat.reduceEqDiff, reduceIte, Nat.reduceAdd, Nat.reduceMul, Nat.reduceSub, reduceCtorEq, Nat.reduceLeDiff, f0_16, f1_16, f5_16, f6_16, f7_16, f8_16, f12_16, f13_16, f14_16, hadd, h2]
                           refine hK _ _ ?_
                           clear hK K
                           refine W.forget (fun e17 he17 => ?_)
                           have f0_17 := congrArg (fun q => Env.get q 0) he17
                           simp only [Env.put_some, Env.put_none, Env.get_set, Env.get_set, Nat.reduceEqDiff, reduceIte, if_true, if_false, eq_self, f0_16] at f0_17
                           have f1_17 := congrArg (fun q => Env.get q 1) he17
                           simp only [Env.put_some, Env.put_none, Env.get_set, Env.get_set, Nat.reduceEqDiff, reduceIte, if_true, if_false, eq_self, f1_16] at f1_17
                           have f5_17 := congrArg (fun q => Env.get q 5) he17
                           simp only [Env.put_some, Env.put_none, Env.get_set, Env.get_set, Nat.reduceEqDiff, reduceIte, if_true, if_false, eq_self, f5_16] at f5_17
                           have f6_17 := congrArg (fun q => Env.get q 6) he17
                           simp only [Env.put_some, Env.put_none, Env.get_set, Env.get_set, Nat.reduceEqDiff, reduceIte, if_true, if_false, eq_self, f6_16] at f6_17
                           have f7_17 := congrArg (fun q => Env.get q 7) he17
                           simp only [Env.put_some, Env.put_none, Env.get_set, Env.get_set, Nat.reduceEqDiff, reduceIte, if_true, if_false, eq_self, f7_16] at f7_17
                           have f8_17 := congrArg (fun q => Env.get q 8) he17
                           simp only [Env.put_some, Env.put_none, Env.get_set, Env.get_set, Nat.reduceEqDiff, reduceIte, if_true, if_false, eq_self, f8_16] at f8_17
                           have f12_17 := congrArg (fun q => Env.get q 12) he17
                           simp only [Env.put_some, Env.put_none, Env.get_set, Env.get_set, Nat.reduceEqDiff, reduceIte, if_true, if_false, eq_self, f12_16] at f12_17
                           have f13_17 := congrArg (fun q => Env.get q 13) he17
                           simp only [Env.put_some, Env.put_none, Env.get_set, Env.get_set, Nat.reduceEqDiff, reduceIte, if_true, if_false, eq_self, f13_16] at f13_17
                           have f14_17 := congrArg (fun q => Env.get q 14) he17
                           simp only [Env.put_some, Env.put_none, Env.get_set, Env.get_set, Nat.reduceEqDiff, reduceIte, if_true, if_false, eq_self, f14_16] at f14_17
                           clear he17 f0_16 f1_16 f5_16 f6_16 f7_16 f8_16 f12_16 f13_16 f14_16
                           refine W.thenN ?_
                           exact ⟨a' :: r, by simp, exj, f0_17, f1_17, f5_17, f6_17, f7_17, f8_17, f12_17, f13_17, f14_17, o2, hj.g7, (by rw [← hj.r, Go.Plain.pop, if_neg (by omega)]), fun k hk => hj.m k (List.mem_cons_of_mem _ hk), by simp only [List.length_cons] at hsl ⊢; omega⟩)
                      · first
                        | (cases hc15; done)
                        | (exfalso; simp only [decide_eq_true_eq, decide_eq_false_iff_not, Bool.not_eq_true', Bool.not_eq_false', Bool.not_eq_eq_eq_not, Bool.not_true, Bool.not_false] at hc15; omega)
                        | (skip
                           try simp only [decide_eq_true_eq, decide_eq_false_iff_not, Bool.not_eq_true', Bool.not_eq_false', Bool.not_eq_eq_eq_not, Bool.not_true, Bool.not_false] at hc15
                           refine W.exit ?_
                           refine W.thenE ?_
                           refine W.thenE ?_
                           refine W.blockE ?_
                           refine W.thenN ?_
                           refine W.region (fun K hK => ?_)
                           have o1 := hj.ol.alloc ⟨[.int .i64 (i : Int)], true, false, none⟩
                           obtain ⟨a2, c2, rd, fe, hap, o2, hx2, _⟩ := o1.append (bytes := 8) (Heap.get_alloc_same _ _) rfl (by first | omega | (simp only [List.length_cons] at hsl ⊢; omega)) (Nat.le_succ_of_le exj.next)
                           try simp only [List.length_cons] at hap
                           simp (config := { maxSteps := 10000000 }) only [go_sem, ↓forkQ_true, ↓forkQ_false, ↓guardQ_some, ↓resQ_val, ↓resQ_unit, ↓resQ_enter, ↓retQ_some, ↓resFQ_val, ↓resFQ_unit, ↓resFQ_enter, ↓retFQ_some, Nat.reduceEqDiff, reduceIte, Nat.reduceAdd, Nat.reduceMul, Nat.reduceSub, reduceCtorEq, Nat.reduceLeDiff, f0_14, f1_14, f5_14, f6_14, f7_14, f8_14, f12_14, f13_14, f14_14, f44_14, hadd, h2, hap]
                           refine hK _ _ ?_
                           clear hK K
                           refine W.forget (fun e18 he18 => ?_)
                           have f0_18 := congrArg (fun q => Env.get q 0) he18
                           simp only [Env.put_some, Env.put_none, Env.get_set, Env.get_set, Nat.reduceEqDiff, reduceIte, if_true, if_false, eq_self, f0_14] at f0_18
                           have f1_18 := congrArg (fun q => Env.get q 1) he18
                           simp only [Env.put_some, Env.put_none, Env.get_set, Env.get_set, Nat.reduceEqDiff, reduceIte, if_true, if_false, eq_self, f1_14] at f1_18
                           have f5_18 := congrArg (fun q => Env.get q 5) he18
                           simp only [Env.put_some, Env.put_none, Env.get_set, Env.get_set, Nat.reduceEqDiff, reduceIte, if_true, if_false, eq_self, f5_14] at f5_18
                           have f12_18 := congrArg (fun q => Env.get q 12) he18
                           simp only [Env.put_some, Env.put_none, Env.get_set, Env.get_set, Nat.reduceEqDiff, reduceIte, if_true, if_false, eq_self, f12_14] at f12_18
                           have f13_18 := congrArg (fun q => Env.get q 13) he18
                           simp only [Env.put_some, Env.put_none, Env.get_set, Env.get_set, Nat.reduceEqDiff, reduceIte, if_true, if_false, eq_self, f13_14] at f13_18
                           have f14_18 := congrArg (fun q => Env.get q 14) he18
                           simp only [Env.put_some, Env.put_none, Env.get_set, Env.get_set, Nat.reduceEqDiff, reduceIte, if_true, if_false, eq_self, f14_14] at f14_18
                           clear he18 f0_14 f1_14 f5_14 f6_14 f7_14 f8_14 f12_14 f13_14 f14_14 f44_14
                           refine W.blockN ?_
                           refine W.thenN ?_
                           refine W.region (fun K hK => ?_)
                           simp (config := { maxSteps := 10000000 }) only [go_sem, ↓forkQ_true, ↓forkQ_false, ↓guardQ_some, ↓resQ_val, ↓resQ_unit, ↓resQ_enter, ↓retQ_some, ↓resFQ_val, ↓resFQ_unit, ↓resFQ_enter, ↓retFQ_some, Nat.reduceEqDiff, reduceIte, Nat.reduceAdd, Nat.reduceMul, Nat.reduceSub, reduceCtorEq, Nat.reduceLeDiff, f0_18, f1_18, f5_18, f12_18, f13_18, f14_18, hadd, h2, hap]
                           refine hK _ _ ?_
                           clear hK K
                           refine W.forget (fun e19 he19 => ?_)
                           have f0_19 := congrArg (fun q => Env.get q 0) he19
                           simp only [Env.put_some, Env.put_none, Env.get_set, Env.get_set, Nat.reduceEqDiff, reduceIte, if_true, if_false, eq_self, f0_18] at f0_19
                           have f1_19 := congrArg (fun q => Env.get q 1) he19
                           simp only [Env.put_some, Env.put_none, Env.get_set, Env.get_set, Nat.reduceEqDiff, reduceIte, if_true, if_false, eq_self, f1_18] at f1_19
                           have f5_19 := congrArg (fun q => Env.get q 5) he19
                           simp only [Env.put_some, Env.put_none, Env.get_set, Env.get_set, Nat.reduceEqDiff, reduceIte, if_true, if_false, eq_self, f5_18] at f5_19
                           have f12_19 := congrArg (fun q => Env.get q 12) he19
                           simp only [Env.put_some, Env.put_none, Env.get_set, Env.get_set, Nat.reduceEqDiff, reduceIte, if_true, if_false, eq_self, f12_18] at f12_19
                           have f13_19 := congrArg (fun q => Env.get q 13) he19
                           simp only [Env.put_some, Env.put_none, Env.get_set, Env.get_set, Nat.reduceEqDiff, reduceIte, if_true, if_false, eq_self, f13_18] at f13_19
                           have f14_19 := congrArg (fun q => Env.get q 14) he19
                           simp only [Env.put_some, Env.put_none, Env.get_set, Env.get_set, Nat.reduceEqDiff, reduceIte, if_true, if_false, eq_self, f14_18] at f14_19
                           clear he19 f0_18 f1_18 f5_18 f12_18 f13_18 f14_18
                           refine W.thenN ?_
                           first
                             | (have hst : stack x y (i + 1) = i :: s := by unfold stack; rw [← hj.r, hps]
                                exact ⟨(i + 1, a2, c2), by dsimp only; omega, hx2 h (Nat.le_refl _) (exj.alloc _), f0_19, f1_19, by dsimp only; rw [hst, List.length_cons]; exact f5_19, f12_19, f13_19, f14_19, by dsimp only; omega, by dsimp only; rw [hst, bot_cons, icells_app1, List.length_cons]; exact o2⟩)
                             | (have hst : stack x y (i + 1) = i :: b :: a' :: r := by unfold stack; rw [← hj.r, Go.Plain.pop, if_pos (by omega)]
                                exact ⟨(i + 1, a2, c2), by dsimp only; omega, hx2 h (Nat.le_refl _) (exj.alloc _), f0_19, f1_19, by dsimp only; rw [hst, List.length_cons]; exact f5_19, f12_19, f13_19, f14_19, by dsimp only; omega, by dsimp only; rw [hst, bot_cons, icells_app1, List.length_cons]; exact o2⟩))
                  · skip
                    obtain ⟨b, a', r, rfl⟩ : ∃ b a' r, s = b :: a' :: r := by
                      match s, hs2 with
                      | [], h => exact absurd h (by simp)
                      | [_], h => exact absurd h (by simp)
                      | b :: a' :: r, _ => exact ⟨b, a', r, rfl⟩
                    simp only [List.length_cons] at hsl
                    have h2 : ((2 : Int) ≤ ((r.length + 1 + 1 : Nat) : Int)) = True := eq_true (by omega)
                    have w2 : wrapF .i64 (((r.length + 1 + 1 : Nat) : Int) - 2) = ((r.length : Nat) : Int) := by rw [w64_in _ (by omega)]; omega
                    have w1 : wrapF .i64 (((r.length + 1 + 1 : Nat) : Int) - 1) = ((r.length + 1 : Nat) : Int) := by rw [w64_in _ (by omega)]; omega
                    have i2 := inRange_nat (show r.length < r.length + 1 + 1 by omega)
                    have i1 := inRange_nat (show r.length + 1 < r.length + 1 + 1 by omega)
                    obtain ⟨bo, bko, hae, hgo, hco⟩ := hj.ol.cell (i := r.length) (by simp only [List.length_cons]; omega)
                    obtain ⟨bo', bko', hae', hgo', hco'⟩ := hj.ol.cell (i := r.length + 1) (by simp only [List.length_cons]; omega)
                    obtain rfl : bo = bo' := by rw [hae] at hae'; cases hae'; rfl
                    subst hae
                    rw [hgo] at hgo'
                    obtain rfl := Option.some.inj hgo'
                    rw [bot_next] at hco
                    have hco1 := hco'.trans (bot_top b (a' :: r))
                    have hma := hj.m a' (by simp)
                    have hmb := hj.m b (by simp)
                    have ia := inRange_nat (show a' < l.length by omega)
                    have ib := inRange_nat (show b < l.length by omega)
                    have cuta := gcut (ext := ext) (show a' < l.length by omega)
                    have cutb := gcut (ext := ext) (show b < l.length by omega)
                    have g7 := hj.g7
                    have hb2 := (exj.get b0 hbl).trans hb
                    have hcb' := hcb a' b i (by omega) (by omega) hlt k2
                    obtain ⟨rdp, hsl2, o2⟩ := OL.pop (n := r.length + 1) hj.ol
                    rw [show (r.length + 1) * 1 = (a' :: r).length * 1 from rfl, bot_take] at o2
                    simp only [asSl_sl] at hsl2
                    refine W.drawA dr32_8 (fun A hA K hK => ?_)
                    have gd2 := guardAt hA (j := 2) (d := 23) rfl
                    clear hA
                    simp (config := { maxSteps := 10000000 }) only [go_sem, ↓forkQ_true, ↓forkQ_false, ↓guardQ_some, ↓resQ_val, ↓resQ_unit, ↓resQ_enter, ↓retQ_some, ↓resFQ_val, ↓resFQ_unit, ↓resFQ_enter, ↓retFQ_some, Nat.reduceEqDiff, reduceIte, Nat.reduceAdd, Nat.reduceMul, Nat.reduceSub, reduceCtorEq, Nat.reduceLeDiff, f0_13, f1_13, f5_13, f6_13, f7_13, f8_13, f12_13, f13_13, f14_13, hadd, List.length_cons, hcs, h2, w2, w1, i2, i1, hgo, hco, hco1, ia, ib, cuta, cutb, g7, hb2, hcb', hbf, hsl2, Option.map_none, gd2]
                    repeat' (first | (refine W.forkP (fun hc20 => ?_) (fun hc20 => ?_) <;> simp (config := { maxSteps := 10000000 }) only [go_sem, ↓forkQ_true, ↓forkQ_false, ↓guardQ_some, ↓resQ_val, ↓resQ_unit, ↓resQ_enter, ↓retQ_some, ↓resFQ_val, ↓resFQ_unit, ↓resFQ_enter, ↓retFQ_some, Nat.reduceEqDiff, reduceIte, Nat.reduceAdd, Nat.reduceMul, Nat.reduceSub, reduceCtorEq, Nat.reduceLeDiff, f0_13, f1_13, f5_13, f6_13, f7_13, f8_13, f12_13, f13_13, f14_13, hadd, List.length_cons, hcs, h2, w2, w1, i2, i1, hgo, hco, hco1, ia, ib, cuta, cutb, g7, hb2, hcb', hbf, hsl2, Option.map_none, gd2, hc20]) | (refine W.fork (fun hc20 => ?_) (fun hc20 => ?_) <;> simp (config := { maxSteps := 10000000 }) only [go_sem, ↓forkQ_true, ↓forkQ_false, ↓guardQ_some, ↓resQ_val, ↓resQ_unit, ↓resQ_enter, ↓retQ_some, ↓resFQ_val, ↓resFQ_unit, ↓resFQ_enter, ↓retFQ_some, Nat.reduceEqDiff, reduceIte, Nat.reduceAdd, Nat.reduceMul, Nat.reduceSub, reduceCtorEq, Nat.reduceLeDiff, f0_13, f1_13, f5_13, f6_13, f7_13, f8_13, f12_13, f13_13, f14_13, hadd, List.length_cons, hcs, h2, w2, w1, i2, i1, hgo, hco, hco1, ia, ib, cuta, cutb, g7, hb2, hcb', hbf, hsl2, Option.map_none, gd2, hc20]))
                    all_goals
                      refine hK _ _ ?_
                      clear hK K A gd2
                      refine W.forget (fun e20 he20 => ?_)
                      have f0_20 := congrArg (fun q => Env.get q 0) he20
                      simp only [Env.put_some, Env.put_none, Env.get_set, Env.get_set, Nat.reduceEqDiff, reduceIte, if_true, if_false, eq_self, f0_13] at f0_20
                      have f1_20 := congrArg (fun q => Env.get q 1) he20
                      simp only [Env.put_some, Env.put_none, Env.get_set, Env.get_set, Nat.reduceEqDiff, reduceIte, if_true, if_false, eq_self, f1_13] at f1_20
                      have f5_20 := congrArg (fun q => Env.get q 5) he20
                      simp only [Env.put_some, Env.put_none, Env.get_set, Env.get_set, Nat.reduceEqDiff, reduceIte, if_true, if_false, eq_self, f5_13] at f5_20
                      have f6_20 := congrArg (fun q => Env.get q 6) he20
                      simp only [Env.put_some, Env.put_none, Env.get_set, Env.get_set, Nat.reduceEqDiff, reduceIte, if_true, if_false, eq_self, f6_13] at f6_20
                      have f7_20 := congrArg (fun q => Env.get q 7) he20
                      simp only [Env.put_some, Env.put_none, Env.get_set, Env.get_set, Nat.reduceEqDiff, reduceIte, if_true, if_false, eq_self, f7_13] at f7_20
                      have f8_20 := congrArg (fun q => Env.get q 8) he20
                      simp only [Env.put_some, Env.put_none, Env.get_set, Env.get_set, Nat.reduceEqDiff, reduceIte, if_true, if_false, eq_self, f8_13] at f8_20
                      have f12_20 := congrArg (fun q => Env.get q 12) he20
                      simp only [Env.put_some, Env.put_none, Env.get_set, Env.get_set, Nat.reduceEqDiff, reduceIte, if_true, if_false, eq_self, f12_13] at f12_20
                      have f13_20 := congrArg (fun q => Env.get q 13) he20
                      simp only [Env.put_some, Env.put_none, Env.get_set, Env.get_set, Nat.reduceEqDiff, reduceIte, if_true, if_false, eq_self, f13_13] at f13_20
                      have f14_20 := congrArg (fun q => Env.get q 14) he20
                      simp only [Env.put_some, Env.put_none, Env.get_set, Env.get_set, Nat.reduceEqDiff, reduceIte, if_true, if_false, eq_self, f14_13] at f14_20
                      have f44_20 := congrArg (fun q => Env.get q 44) he20
                      simp only [Env.put_some, Env.put_none, Env.get_set, Env.get_set, Nat.reduceEqDiff, reduceIte, if_true, if_false, eq_self] at f44_20
                      clear he20 f0_13 f1_13 f5_13 f6_13 f7_13 f8_13 f12_13 f13_13 f14_13
                      refine W.thenN ?_
                      refine W.cond f44_20 (fun hc21 => ?_) (fun hc21 => ?_)
                      · first
                        | (cases hc21; done)
                        | (exfalso; simp only [decide_eq_true_eq, decide_eq_false_iff_not, Bool.not_eq_true', Bool.not_eq_false', Bool.not_eq_eq_eq_not, Bool.not_true, Bool.not_false] at hc21; omega)
                        | (skip
                           try simp only [decide_eq_true_eq, decide_eq_false_iff_not, Bool.not_eq_true', Bool.not_eq_false', Bool.not_eq_eq_eq_not, Bool.not_true, Bool.not_false] at hc21
                           refine W.skip ?_
                           refine W.thenN ?_
                           refine W.seq ?_
                           refine W.block ?_
                           refine W.region (fun K hK => ?_)
                           simp (config := { maxSteps := 10000000 }) only [go_sem, ↓forkQ_true, ↓forkQ_false, ↓guardQ_some, ↓resQ_val, ↓resQ_unit, ↓resQ_enter, ↓retQ_some, ↓resFQ_val, ↓resFQ_unit, ↓resFQ_enter, ↓retFQ_some, Nat.reduceEqDiff, reduceIte, Nat.reduceAdd, Nat.reduceMul, Nat.reduceSub, reduceCtorEq, Nat.reduceLeDiff, f0_20, f1_20, f5_20, f6_20, f7_20, f8_20, f12_20, f13_20, f14_20, f44_20, hadd, List.length_cons, hcs, h2, w2, w1, i2, i1, hgo, hco, hco1, ia, ib, cuta, cutb, g7, hb2, hcb', hbf, hsl2, Option.map_none]
                           refine hK _ _ ?_
                           clear hK K
                           refine W.forget (fun e22 he22 => ?_)
                           have f0_22 := congrArg (fun q => Env.get q 0) he22
                           simp only [Env.put_some, Env.put_none, Env.get_set, Env.get_set, Nat.reduceEqDiff, reduceIte, if_true, if_false, eq_self, f0_20] at f0_22
                           have f1_22 := congrArg (fun q => Env.get q 1) he22
                           simp only [Env.put_some, Env.put_none, Env.get_set, Env.get_set, Nat.reduceEqDiff, reduceIte, if_true, if_false, eq_self, f1_20] at f1_22
                           have f5_22 := congrArg (fun q => Env.get q 5) he22
                           simp only [Env.put_some, Env.put_none, Env.get_set, Env.get_set, Nat.reduceEqDiff, reduceIte, if_true, if_false, eq_self, f5_20] at f5_22
                           have f6_22 := congrArg (fun q => Env.get q 6) he22
                           simp only [Env.put_some, Env.put_none, Env.get_set, Env.get_set, Nat.reduceEqDiff, reduceIte, if_true, if_false, eq_self, f6_20] at f6_22
                           have f7_22 := congrArg (fun q => Env.get q 7) he22
                           simp only [Env.put_some, Env.put_none, Env.get_set, Env.get_set, Nat.reduceEqDiff, reduceIte, if_true, if_false, eq_self, f7_20] at f7_22
                           have f8_22 := congrArg (fun q => Env.get q 8) he22
                           simp only [Env.put_some, Env.put_none, Env.get_set, Env.get_set, Nat.reduceEqDiff, reduceIte, if_true, if_false, eq_self, f8_20] at f8_22
                           have f12_22 := congrArg (fun q => Env.get q 12) he22
                           simp only [Env.put_some, Env.put_none, Env.get_set, Env.get_set, Nat.reduceEqDiff, reduceIte, if_true, if_false, eq_self, f12_20] at f12_22
                           have f13_22 := congrArg (fun q => Env.get q 13) he22
                           simp only [Env.put_some, Env.put_none, Env.get_set, Env.get_set, Nat.reduceEqDiff, reduceIte, if_true, if_false, eq_self, f13_20] at f13_22
                           have f14_22 := congrArg (fun q => Env.get q 14) he22
                           simp only [Env.put_some, Env.put_none, Env.get_set, Env.get_set, Nat.reduceEqDiff, reduceIte, if_true, if_false, eq_self, f14_20] at f14_22
                           clear he22 f0_20 f1_20 f5_20 f6_20 f7_20 f8_20 f12_20 f13_20 f14_20 f44_20
                           refine W.blockN ?_
                           refine W.thenN ?_
                           refine W.region (fun K hK => ?_)
                           simp (config := { maxSteps := 10000000 }) only [go_sem, ↓forkQ_true, ↓forkQ_false, ↓guardQ_some, ↓resQ_val, ↓resQ_unit, ↓resQ_enter, ↓retQ_some, ↓resFQ_val, ↓resFQ_unit, ↓resFQ_enter, ↓retFQ_some, Nat.reduceEqDiff, reduceIte, Nat.reduceAdd, Nat.reduceMul, Nat.reduceSub, reduceCtorEq, Nat.reduceLeDiff, f0_22, f1_22, f5_22, f6_22, f7_22, f8_22, f12_22, f13_22, f14_22, hadd, List.length_cons, hcs, h2, w2, w1, i2, i1, hgo, hco, hco1, ia, ib, cuta, cutb, g7, hb2, hcb', hbf, hsl2, Option.map_none]
                           refine hK _ _ ?_
                           clear hK K
                           refine W.forget (fun e23 he23 => ?_)
                           have f0_23 := congrArg (fun q => Env.get q 0) he23
                           simp only [Env.put_some, Env.put_none, Env.get_set, Env.get_set, Nat.reduceEqDiff, reduceIte, if_true, if_false, eq_self, f0_22] at f0_23
                           have f1_23 := congrArg (fun q => Env.get q 1) he23
                           simp only [Env.put_some, Env.put_none, Env.get_set, Env.get_set, Nat.reduceEqDiff, reduceIte, if_true, if_false, eq_self, f1_22] at f1_23
                           have f5_23 := congrArg (fun q => Env.get q 5) he23
                           simp only [Env.put_some, Env.put_none, Env.get_set, Env.get_set, Nat.reduceEqDiff, reduceIte, if_true, if_false, eq_self, f5_22] at f5_23
                           have f6_23 := congrArg (fun q => Env.get q 6) he23
                           simp only [Env.put_some, Env.put_none, Env.get_set, Env.get_set, Nat.reduceEqDiff, reduceIte, if_true, if_false, eq_self, f6_22] at f6_23
                           have f7_23 := congrArg (fun q => Env.get q 7) he23
                           simp only [Env.put_some, Env.put_none, Env.get_set, Env.get_set, Nat.reduceEqDiff, reduceIte, if_true, if_false, eq_self, f7_22] at f7_23
                           have f8_23 := congrArg (fun q => Env.get q 8) he23
                           simp only [Env.put_some, Env.put_none, Env.get_set, Env.get_set, Nat.reduceEqDiff, reduceIte, if_true, if_false, eq_self, f8_22] at f8_23
                           have f12_23 := congrArg (fun q => Env.get q 12) he23
                           simp only [Env.put_some, Env.put_none, Env.get_set, Env.get_set, Nat.reduceEqDiff, reduceIte, if_true, if_false, eq_self, f12_22] at f12_23
                           have f13_23 := congrArg (fun q => Env.get q 13) he23
                           simp only [Env.put_some, Env.put_none, Env.get_set, Env.get_set, Nat.reduceEqDiff, reduceIte, if_true, if_false, eq_self, f13_22] at f13_23
                           have f14_23 := congrArg (fun q => Env.get q 14) he23
                           simp only [Env.put_some, Env.put_none, Env.get_set, Env.get_set, Nat.reduceEqDiff, reduceIte, if_true, if_false, eq_self, f14_22] at f14_23
                           clear he23 f0_22 f1_22 f5_22 f6_22 f7_22 f8_22 f12_22 f13_22 f14_22
                           refine W.thenN ?_
                           exact ⟨a' :: r, by simp, exj, f0_23, f1_23, f5_23, f6_23, f7_23, f8_23, f12_23, f13_23, f14_23, o2, hj.g7, (by rw [← hj.r, Go.Plain.pop, if_neg (by omega)]), fun k hk => hj.m k (List.mem_cons_of_mem _ hk), by simp only [List.length_cons] at hsl ⊢; omega⟩)
                      · first
                        | (cases hc21; done)
                        | (exfalso; simp only [decide_eq_true_eq, decide_eq_false_iff_not, Bool.not_eq_true', Bool.not_eq_false', Bool.not_eq_eq_eq_not, Bool.not_true, Bool.not_false] at hc21; omega)
                        | (skip
                           try simp only [decide_eq_true_eq, decide_eq_false_iff_not, Bool.not_eq_true', Bool.not_eq_false', Bool.not_eq_eq_eq_not, Bool.not_true, Bool.not_false] at hc21
                           refine W.exit ?_
                           refine W.thenE ?_
                           refine W.thenE ?_
                           refine W.blockE ?_
                           refine W.thenN ?_
                           refine W.region (fun K hK => ?_)
                           have o1 := hj.ol.alloc ⟨[.int .i64 (i : Int)], true, false, none⟩
                           obtain ⟨a2, c2, rd, fe, hap, o2, hx2, _⟩ := o1.append (bytes := 8) (Heap.get_alloc_same _ _) rfl (by first | omega | (simp only [List.length_cons] at hsl ⊢; omega)) (Nat.le_succ_of_le exj.next)
                           try simp only [List.length_cons] at hap
                           simp (config := { maxSteps := 10000000 }) only [go_sem, ↓forkQ_true, ↓forkQ_false, ↓guardQ_some, ↓resQ_val, ↓resQ_unit, ↓resQ_enter, ↓retQ_some, ↓resFQ_val, ↓resFQ_unit, ↓resFQ_enter, ↓retFQ_some, Nat.reduceEqDiff, reduceIte, Nat.reduceAdd, Nat.reduceMul, Nat.reduceSub, reduceCtorEq, Nat.reduceLeDiff, f0_20, f1_20, f5_20, f6_20, f7_20, f8_20, f12_20, f13_20, f14_20, f44_20, hadd, List.length_cons, hcs, h2, w2, w1, i2, i1, hgo, hco, hco1, ia, ib, cuta, cutb, g7, hb2, hcb', hbf, hsl2, Option.map_none, hap]
                           refine hK _ _ ?_
                           clear hK K
                           refine W.forget (fun e24 he24 => ?_)
                           have f0_24 := congrArg (fun q => Env.get q 0) he24
                           simp only [Env.put_some, Env.put_none, Env.get_set, Env.get_set, Nat.reduceEqDiff, reduceIte, if_true, if_false, eq_self, f0_20] at f0_24
                           have f1_24 := congrArg (fun q => Env.get q 1) he24
                           simp only [Env.put_some, Env.put_none, Env.get_set, Env.get_set, Nat.reduceEqDiff, reduceIte, if_true, if_false, eq_self, f1_20] at f1_24
                           have f5_24 := congrArg (fun q => Env.get q 5) he24
                           simp only [Env.put_some, Env.put_none, Env.get_set, Env.get_set, Nat.reduceEqDiff, reduceIte, if_true, if_false, eq_self, f5_20] at f5_24
                           have f12_24 := congrArg (fun q => Env.get q 12) he24
                           simp only [Env.put_some, Env.put_none, Env.get_set, Env.get_set, Nat.reduceEqDiff, reduceIte, if_true, if_false, eq_self, f12_20] at f12_24
                           have f13_24 := congrArg (fun q => Env.get q 13) he24
                           simp only [Env.put_some, Env.put_none, Env.get_set, Env.get_set, Nat.reduceEqDiff, reduceIte, if_true, if_false, eq_self, f13_20] at f13_24
                           have f14_24 := congrArg (fun q => Env.get q 14) he24
                           simp only [Env.put_some, Env.put_none, Env.get_set, Env.get_set, Nat.reduceEqDiff, reduceIte, if_true, if_false, eq_self, f14_20] at f14_24
                           clear he24 f0_20 f1_20 f5_20 f6_20 f7_20 f8_20 f12_20 f13_20 f14_20 f44_20
                           refine W.blockN ?_
                           refine W.thenN ?_
                           refine W.region (fun K hK => ?_)
                           simp (config := { maxSteps := 10000000 }) only [go_sem, ↓forkQ_true, ↓forkQ_false, ↓guardQ_some, ↓resQ_val, ↓resQ_unit, ↓resQ_enter, ↓retQ_some, ↓resFQ_val, ↓resFQ_unit, ↓resFQ_enter, ↓retFQ_some, Nat.reduceEqDiff, reduceIte, Nat.reduceAdd, Nat.reduceMul, Nat.reduceSub, reduceCtorEq, Nat.reduceLeDiff, f0_24, f1_24, f5_24, f12_24, f13_24, f14_24, hadd, List.length_cons, hcs, h2, w2, w1, i2, i1, hgo, hco, hco1, ia, ib, cuta, cutb, g7, hb2, hcb', hbf, hsl2, Option.map_none, hap]
                           refine hK _ _ ?_
                           clear hK K
                           refine W.forget (fun e25 he25 => ?_)
                           have f0_25 := congrArg (fun q => Env.get q 0) he25
                           simp only [Env.put_some, Env.put_none, Env.get_set, Env.get_set, Nat.reduceEqDiff, reduceIte, if_true, if_false, eq_self, f0_24] at f0_25
                           have f1_25 := congrArg (fun q => Env.get q 1) he25
                           simp only [Env.put_some, Env.put_none, Env.get_set, Env.get_set, Nat.reduceEqDiff, reduceIte, if_true, if_false, eq_self, f1_24] at f1_25
                           have f5_25 := congrArg (fun q => Env.get q 5) he25
                           simp only [Env.put_some, Env.put_none, Env.get_set, Env.get_set, Nat.reduceEqDiff, reduceIte, if_true, if_false, eq_self, f5_24] at f5_25
                           have f12_25 := congrArg (fun q => Env.get q 12) he25
                           simp only [Env.put_some, Env.put_none, Env.get_set, Env.get_set, Nat.reduceEqDiff, reduceIte, if_true, if_false, eq_self, f12_24] at f12_25
                           have f13_25 := congrArg (fun q => Env.get q 13) he25
                           simp only [Env.put_some, Env.put_none, Env.get_set, Env.get_set, Nat.reduceEqDiff, reduceIte, if_true, if_false, eq_self, f13_24] at f13_25
                           have f14_25 := congrArg (fun q => Env.get q 14) he25
                           simp only [Env.put_some, Env.put_none, Env.get_set, Env.get_set, Nat.reduceEqDiff, reduceIte, if_true, if_false, eq_self, f14_24] at f14_25
                           clear he25 f0_24 f1_24 f5_24 f12_24 f13_24 f14_24
                           refine W.thenN ?_
                           first
                             | (have hst : stack x y (i + 1) = i :: s := by unfold stack; rw [← hj.r, hps]
                                exact ⟨(i + 1, a2, c2), by dsimp only; omega, hx2 h (Nat.le_refl _) (exj.alloc _), f0_25, f1_25, by dsimp only; rw [hst, List.length_cons]; exact f5_25, f12_25, f13_25, f14_25, by dsimp only; omega, by dsimp only; rw [hst, bot_cons, icells_app1, List.length_cons]; exact o2⟩)
                             | (have hst : stack x y (i + 1) = i :: b :: a' :: r := by unfold stack; rw [← hj.r, Go.Plain.pop, if_pos (by omega)]
                                exact ⟨(i + 1, a2, c2), by dsimp only; omega, hx2 h (Nat.le_refl _) (exj.alloc _), f0_25, f1_25, by dsimp only; rw [hst, List.length_cons]; exact f5_25, f12_25, f13_25, f14_25, by dsimp only; omega, by dsimp only; rw [hst, bot_cons, icells_app1, List.length_cons]; exact o2⟩))
                · exact ⟨(ex.alloc _).set ex.next _, f0_12, f1_12, f5_12, f6_12, f7_12, f8_12, f12_12, f13_12, f14_12, hi.ol.ext (Nat.le_succ _) (fun q h1 h2 => (Heap.get_set_ne _ _ (by omega)).trans (Heap.get_alloc_ne _ _ (by omega))), Heap.get_set_same _ _ _, rfl, fun k hk => stack_mem i k hk, stack_len i⟩)
           · first
             | (cases hc10; done)
             | (exfalso; simp only [decide_eq_true_eq, decide_eq_false_iff_not, Bool.not_eq_true', Bool.not_eq_false', Bool.not_eq_eq_eq_not, Bool.not_true, Bool.not_false] at hc10; omega)
             | (skip
                try simp only [decide_eq_true_eq, decide_eq_false_iff_not, Bool.not_eq_true', Bool.not_eq_false', Bool.not_eq_eq_eq_not, Bool.not_true, Bool.not_false] at hc10
                refine W.exit ?_
                refine W.thenE ?_
                refine W.thenE ?_
                refine W.blockE ?_
                refine W.thenN ?_
                refine W.seq ?_
                refine W.region (fun K hK => ?_)
                simp (config := { maxSteps := 10000000 }) only [go_sem, ↓forkQ_true, ↓forkQ_false, ↓guardQ_some, ↓resQ_val, ↓resQ_unit, ↓resQ_enter, ↓retQ_some, ↓resFQ_val, ↓resFQ_unit, ↓resFQ_enter, ↓retFQ_some, Nat.reduceEqDiff, reduceIte, Nat.reduceAdd, Nat.reduceMul, Nat.reduceSub, reduceCtorEq, Nat.reduceLeDiff, f0_9, f1_9, f5_9, f12_9, f13_9, f14_9, f15_9]
                refine hK _ _ ?_
                clear hK K
                refine W.forget (fun e26 he26 => ?_)
                have f4_26 := congrArg (fun q => Env.get q 4) he26
                simp only [Env.put_some, Env.put_none, Env.get_set, Env.get_set, Nat.reduceEqDiff, reduceIte, if_true, if_false, eq_self] at f4_26
                clear he26 f0_9 f1_9 f5_9 f12_9 f13_9 f14_9 f15_9
                refine W.thenN ?_
                refine W.ret ?_
                rw [doneQ_ret]
                obtain rfl : i = l.length := by omega
                exact ⟨[.slice ar (stack x y l.length).length cc], by simp only [go_sem, ↓forkQ_true, ↓forkQ_false, ↓guardQ_some, ↓resQ_val, ↓resQ_unit, ↓resQ_enter, ↓retQ_some, ↓resFQ_val, ↓resFQ_unit, ↓resFQ_enter, ↓retFQ_some, Nat.reduceEqDiff, reduceIte, Nat.reduceAdd, Nat.reduceMul, Nat.reduceSub, reduceCtorEq, Nat.reduceLeDiff, f4_26], ar, cc, rfl, hi.ol, ex.wr⟩)
         · exact ⟨Ext.low h, f0_7, f1_7, f5_7, f12_7, f13_7, f14_7, Nat.zero_le _, OL.nil _ _ _⟩))
  obtain ⟨a1, c1, rfl, o1, w1⟩ := hR9
  obtain ⟨a', h', q1, q2, q3⟩ := o1.leave w1
  exact ⟨a', c1, h', hc9.trans (congrArg some q1), q2, q3⟩
end Go.Proofs.Ytlblocieleildaa
