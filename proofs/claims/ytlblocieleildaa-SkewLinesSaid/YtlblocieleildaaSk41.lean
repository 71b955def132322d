/- The law of lines, walked. -/
import Derived.Test.YtlblocieleildaaSk22
import Derived.Test.YtlblocieleildaaSk37
import Derived.Test.YtlblocieleildaaTp2
import Derived.Test.YtlblocieleildaaSk39
import Derived.Test.YtlblocieleildaaSk40
set_option linter.unusedSimpArgs false
set_option linter.unusedVariables false
set_option maxRecDepth 20000
set_option maxHeartbeats 8000000
namespace Go.Proofs.Ytlblocieleildaa
open Go.Am

open Go.Plain
theorem cut5 (a b c d e : Value) : cut [a, b, c, d, e] 0 5 = some [a, b, c, d, e] := rfl
theorem lines_ok {Y0 B : Int} {xs bs us : List Int} (hd : HeadOk Y0 B xs bs us) (hi : ∀ i, i < xs.length → ItemOk xs bs us i) : Ok (linesL Y0 B xs bs us) ∧ OnLine (linesL Y0 B xs bs us) Y0 B := by
  have hl := linesL_len Y0 B xs bs us
  have key : ∀ i, i < xs.length → -100000000 ≤ B * nat xs i ∧ B * nat xs i ≤ 100000000 := fun i h => by
    have k := hi i h
    have := mul_bd (a := B) (b := nat xs i) (A := 1000) (B := 100000) ⟨by have := hd.b0; omega, hd.b1⟩ ⟨by have := k.x0; omega, k.x1⟩
    omega
  refine ⟨⟨by rw [hl]; have := hd.n0; omega, fun i h => ?_, fun i h => ?_⟩, fun i h => ?_⟩
  · rw [hl] at h
    rw [linesL_at _ _ _ _ _ h]
    have k := hi i h
    have := key i h
    have := hd.a0
    have := hd.a1
    have := k.x0
    have := k.x1
    have := k.b0
    have := k.b1
    have := k.a0
    have := k.a1
    refine ⟨?_, ?_, ?_, ?_, ?_⟩ <;> dsimp only <;> omega
  · rw [hl] at h
    rw [linesL_at _ _ _ _ _ h, linesL_at _ _ _ _ _ (show i < xs.length by omega)]
    have := (hi (i + 1) h).inc (by omega)
    exact this
  · rw [hl] at h
    rw [linesL_at _ _ _ _ _ h]
    have k := hi i h
    have := k.b0
    have := k.a0
    dsimp only
    omega
/-- the value of the line is at least the least value -/
theorem online_lowB {l : List Gt} (o : Ok l) (h2 : 2 ≤ l.length) {A B x : Int} (h : OnLine l A B) (hx : 0 ≤ x ∧ x ≤ 1073741824) (hv : -4611686018427387904 ≤ A + B * x ∧ A + B * x ≤ 4611686018427387904) : -(A + B * x) * (lowBR l x).d ≤ (lowBR l x).n * 1 := by
  rw [lowBR_turn]
  have e : -(A + B * x) = -A + -B * x := by rw [Int.neg_mul]; omega
  rw [e]
  exact online_high o.turned (by rw [turnedL_len]; exact h2) (online_turned h) hx (by rw [← e]; omega)
theorem exact_lowB {l : List Gt} (o : Ok l) (h2 : 2 ≤ l.length) {A B x : Int} (h : OnLine l A B) (hx : 0 ≤ x ∧ x ≤ 1073741824) (hv : -4611686018427387904 ≤ A + B * x ∧ A + B * x ≤ 4611686018427387904) (he : ∀ i, i < l.length → (gt l i).lo = (gt l i).hi) : lowBR l x = ⟨true, -(A + B * x), 1⟩ := by
  rw [lowBR_turn]
  have e : -(A + B * x) = -A + -B * x := by rw [Int.neg_mul]; omega
  rw [e]
  refine exact_high o.turned (by rw [turnedL_len]; exact h2) (online_turned h) hx (by rw [← e]; omega) fun i hi => ?_
  rw [turnedL_len] at hi
  have := he i hi
  rw [turned_fun]
  dsimp only
  omega
structure I6 (L : List Gt) (a : Option Addr) (c : Nat) (p7 p8 p10 p11 p13 p14 : Nat) (k6 : Heap) (i : Nat) (b : Bool) (e : Env) (h1 : Heap) : Prop where
  hh : h1 = k6
  e5 : e.get 5 = .slice a L.length c
  e7 : e.get 7 = .pointer (some ⟨p7, 0, none⟩)
  e8 : e.get 8 = .pointer (some ⟨p8, 0, none⟩)
  e10 : e.get 10 = .pointer (some ⟨p10, 0, none⟩)
  e11 : e.get 11 = .pointer (some ⟨p11, 0, none⟩)
  e13 : e.get 13 = .pointer (some ⟨p13, 0, none⟩)
  e14 : e.get 14 = .pointer (some ⟨p14, 0, none⟩)
  e15 : e.get 15 = .bool b
  e16 : e.get 16 = .int .i64 (i : Int)
  le : i ≤ L.length
  ex : b = true → ∀ j, j < i → (gt L j).lo = (gt L j).hi
theorem w6 (Y0 B : Int) (xs bs us : List Int) (ax ab aa : Option Addr) (cx cb ca : Nat) (x : Int) (h : Heap) (hX : IA h xs ax) (hB : IA h bs ab) (hU : IA h us aa) :
    ∃ code, Try.f6.body = some code ∧ Wp Try.prog cfT (SkH 6) code (doneQ Try.prog Try.f6.results.toList (fun vs _ => vs = [.bool true])) (Env.ofList [.agg #[.int .i64 Y0, .int .i64 B, .slice ax xs.length cx, .slice ab bs.length cb, .slice aa us.length ca], .int .i64 x] 0) (h.low h.next) := by
  refine ⟨_, rfl, ?_⟩
  show Wp Try.prog cfT (SkH 6) _ (doneQ Try.prog [.tmp 4] _) _ _
  have t12 : cfT 12 = callW Try.prog SkH 12 := cfT_ne (by decide)
  have t16 : cfT 16 = callW Try.prog SkH 16 := cfT_ne (by decide)
  have t23 : cfT 23 = callW Try.prog SkH 23 := cfT_ne (by decide)
  have t25 : cfT 25 = callW Try.prog SkH 25 := cfT_ne (by decide)
  have t26 : cfT 26 = callW Try.prog SkH 26 := cfT_ne (by decide)
  have t27 : cfT 27 = callW Try.prog SkH 27 := cfT_ne (by decide)
  refine W.forget (fun e1 he1 => ?_)
  have f0_1 := congrArg (fun q => Env.get q 0) he1
  simp only [ofList_cons, ofList_nil, go_sem, Nat.reduceEqDiff, reduceIte] at f0_1
  have f1_1 := congrArg (fun q => Env.get q 1) he1
  simp only [ofList_cons, ofList_nil, go_sem, Nat.reduceEqDiff, reduceIte] at f1_1
  clear he1
  refine W.seq ?_
  refine W.region (fun K hK => ?_)
  simp (config := { maxSteps := 10000000 }) only [go_sem, ↓forkQ_true, ↓forkQ_false, ↓guardQ_some, ↓resQ_val, ↓resQ_unit, ↓resQ_enter, ↓retQ_some, ↓resFQ_val, ↓resFQ_unit, ↓resFQ_enter, ↓retFQ_some, Nat.reduceEqDiff, reduceIte, Nat.reduceAdd, Nat.reduceMul, Nat.reduceSub, reduceCtorEq, Nat.reduceLeDiff, f0_1, f1_1, cut5, t12, t16, t23, t25, t26, t27, cfT_at]
  refine hK _ _ ?_
  clear hK K
  refine W.forget (fun e2 he2 => ?_)
  refine W.forgetH (fun k0 hk2 => ?_)
  obtain ⟨fl, g0⟩ : ∃ fl, k0.get h.next = some ⟨boxC Y0 B xs bs us ax ab aa cx cb ca, fl, false, none⟩ := ⟨_, by rw [hk2]; exact Heap.get_alloc_same _ _⟩
  have ex0 : Ext h k0 := by rw [hk2]; exact (Ext.low h).alloc _
  have nx0 : h.next < k0.next := by rw [hk2]; exact Nat.lt_succ_self _
  unfold boxC at g0
  clear hk2
  have f1_2 := congrArg (fun q => Env.get q 1) he2
  simp only [go_sem, Nat.reduceEqDiff, reduceIte, f1_1] at f1_2
  have f2_2 := congrArg (fun q => Env.get q 2) he2
  simp only [go_sem, Nat.reduceEqDiff, reduceIte] at f2_2
  have f4_2 := congrArg (fun q => Env.get q 4) he2
  simp only [go_sem, Nat.reduceEqDiff, reduceIte] at f4_2
  clear he2 f0_1 f1_1
  refine W.thenN ?_
  refine W.seq ?_
  refine W.region (fun K hK => ?_)
  obtain ⟨b, L, a, c, k3, q25, g25, ga, hb⟩ := c25 Y0 B xs bs us ax ab aa cx cb ca k0 (hX.ext ex0) (hB.ext ex0) (hU.ext ex0)
  simp (config := { maxSteps := 10000000 }) only [go_sem, ↓forkQ_true, ↓forkQ_false, ↓guardQ_some, ↓resQ_val, ↓resQ_unit, ↓resQ_enter, ↓retQ_some, ↓resFQ_val, ↓resFQ_unit, ↓resFQ_enter, ↓retFQ_some, Nat.reduceEqDiff, reduceIte, Nat.reduceAdd, Nat.reduceMul, Nat.reduceSub, reduceCtorEq, Nat.reduceLeDiff, f1_2, f2_2, f4_2, cut5, t12, t16, t23, t25, t26, t27, cfT_at, g0, q25]
  refine hK _ _ ?_
  clear hK K
  refine W.forget (fun e3 he3 => ?_)
  have f1_3 := congrArg (fun q => Env.get q 1) he3
  simp only [go_sem, Nat.reduceEqDiff, reduceIte, f1_2] at f1_3
  have f2_3 := congrArg (fun q => Env.get q 2) he3
  simp only [go_sem, Nat.reduceEqDiff, reduceIte, f2_2] at f2_3
  have f4_3 := congrArg (fun q => Env.get q 4) he3
  simp only [go_sem, Nat.reduceEqDiff, reduceIte, f4_2] at f4_3
  have f5_3 := congrArg (fun q => Env.get q 5) he3
  simp only [go_sem, Nat.reduceEqDiff, reduceIte] at f5_3
  have f6_3 := congrArg (fun q => Env.get q 6) he3
  simp only [go_sem, Nat.reduceEqDiff, reduceIte] at f6_3
  clear he3 f1_2 f2_2 f4_2
  refine W.thenN ?_
  refine W.seq ?_
  refine W.seq ?_
  rcases (show b = false ∨ (b = true ∧ x < 0) ∨ (b = true ∧ ¬ x < 0 ∧ 100000 < x) ∨ (b = true ∧ ¬ x < 0 ∧ ¬ 100000 < x) by cases b; exact .inl rfl; by_cases q1 : x < 0; exact .inr (.inl ⟨rfl, q1⟩); by_cases q2 : 100000 < x; exact .inr (.inr (.inl ⟨rfl, q1, q2⟩)); exact .inr (.inr (.inr ⟨rfl, q1, q2⟩))) with rfl | ⟨rfl, q1⟩ | ⟨rfl, q1, q2⟩ | ⟨rfl, q1, q2⟩
  · skip
    refine W.regionA (fun A hA K hK => ?_)
    have gd2 := guardAt hA (j := 2) (d := 24) rfl
    have gd6 := guardAt hA (j := 6) (d := 28) rfl
    clear hA
    simp (config := { maxSteps := 10000000 }) only [go_sem, ↓forkQ_true, ↓forkQ_false, ↓guardQ_some, ↓resQ_val, ↓resQ_unit, ↓resQ_enter, ↓retQ_some, ↓resFQ_val, ↓resFQ_unit, ↓resFQ_enter, ↓retFQ_some, Nat.reduceEqDiff, reduceIte, Nat.reduceAdd, Nat.reduceMul, Nat.reduceSub, reduceCtorEq, Nat.reduceLeDiff, f1_3, f2_3, f4_3, f5_3, f6_3, cut5, t12, t16, t23, t25, t26, t27, cfT_at, g0, q25, gd2, gd6]
    repeat' (first | (refine W.forkP (fun hc4 => ?_) (fun hc4 => ?_) <;> simp (config := { maxSteps := 10000000 }) only [go_sem, ↓forkQ_true, ↓forkQ_false, ↓guardQ_some, ↓resQ_val, ↓resQ_unit, ↓resQ_enter, ↓retQ_some, ↓resFQ_val, ↓resFQ_unit, ↓resFQ_enter, ↓retFQ_some, Nat.reduceEqDiff, reduceIte, Nat.reduceAdd, Nat.reduceMul, Nat.reduceSub, reduceCtorEq, Nat.reduceLeDiff, f1_3, f2_3, f4_3, f5_3, f6_3, cut5, t12, t16, t23, t25, t26, t27, cfT_at, g0, q25, gd2, gd6, hc4]) | (refine W.fork (fun hc4 => ?_) (fun hc4 => ?_) <;> simp (config := { maxSteps := 10000000 }) only [go_sem, ↓forkQ_true, ↓forkQ_false, ↓guardQ_some, ↓resQ_val, ↓resQ_unit, ↓resQ_enter, ↓retQ_some, ↓resFQ_val, ↓resFQ_unit, ↓resFQ_enter, ↓retFQ_some, Nat.reduceEqDiff, reduceIte, Nat.reduceAdd, Nat.reduceMul, Nat.reduceSub, reduceCtorEq, Nat.reduceLeDiff, f1_3, f2_3, f4_3, f5_3, f6_3, cut5, t12, t16, t23, t25, t26, t27, cfT_at, g0, q25, gd2, gd6, hc4]))
    all_goals
      refine hK _ _ ?_
      clear hK K A gd2 gd6
      refine W.forget (fun e4 he4 => ?_)
      have f1_4 := congrArg (fun q => Env.get q 1) he4
      simp only [go_sem, Nat.reduceEqDiff, reduceIte, f1_3] at f1_4
      have f2_4 := congrArg (fun q => Env.get q 2) he4
      simp only [go_sem, Nat.reduceEqDiff, reduceIte, f2_3] at f2_4
      have f4_4 := congrArg (fun q => Env.get q 4) he4
      simp only [go_sem, Nat.reduceEqDiff, reduceIte, f4_3] at f4_4
      have f5_4 := congrArg (fun q => Env.get q 5) he4
      simp only [go_sem, Nat.reduceEqDiff, reduceIte, f5_3] at f5_4
      have f31_4 := congrArg (fun q => Env.get q 31) he4
      simp only [go_sem, Nat.reduceEqDiff, reduceIte] at f31_4
      clear he4 f1_3 f2_3 f4_3 f5_3 f6_3
      refine W.thenN ?_
      refine W.cond f31_4 (fun hc5 => ?_) (fun hc5 => ?_)
      · first
        | (cases hc5; done)
        | (exfalso; simp only [decide_eq_true_eq, decide_eq_false_iff_not, Bool.not_eq_true', Bool.not_eq_false', Bool.not_eq_eq_eq_not, Bool.not_true, Bool.not_false] at hc5; omega)
        | (skip
           try simp only [decide_eq_true_eq, decide_eq_false_iff_not, Bool.not_eq_true', Bool.not_eq_false', Bool.not_eq_eq_eq_not, Bool.not_true, Bool.not_false] at hc5
           refine W.seq ?_
           refine W.region (fun K hK => ?_)
           simp (config := { maxSteps := 10000000 }) only [go_sem, ↓forkQ_true, ↓forkQ_false, ↓guardQ_some, ↓resQ_val, ↓resQ_unit, ↓resQ_enter, ↓retQ_some, ↓resFQ_val, ↓resFQ_unit, ↓resFQ_enter, ↓retFQ_some, Nat.reduceEqDiff, reduceIte, Nat.reduceAdd, Nat.reduceMul, Nat.reduceSub, reduceCtorEq, Nat.reduceLeDiff, f1_4, f2_4, f4_4, f5_4, f31_4, cut5, t12, t16, t23, t25, t26, t27, cfT_at, g0, q25]
           refine hK _ _ ?_
           clear hK K
           refine W.forget (fun e6 he6 => ?_)
           have f1_6 := congrArg (fun q => Env.get q 1) he6
           simp only [go_sem, Nat.reduceEqDiff, reduceIte, f1_4] at f1_6
           have f2_6 := congrArg (fun q => Env.get q 2) he6
           simp only [go_sem, Nat.reduceEqDiff, reduceIte, f2_4] at f2_6
           have f4_6 := congrArg (fun q => Env.get q 4) he6
           simp only [go_sem, Nat.reduceEqDiff, reduceIte, f4_4] at f4_6
           have f5_6 := congrArg (fun q => Env.get q 5) he6
           simp only [go_sem, Nat.reduceEqDiff, reduceIte, f5_4] at f5_6
           clear he6 f1_4 f2_4 f4_4 f5_4 f31_4
           refine W.thenN ?_
           refine W.ret ?_
           refine W.thenR ?_
           rw [doneQ_ret]
           exact ⟨[.bool true], by simp only [go_sem, ↓forkQ_true, ↓forkQ_false, ↓guardQ_some, ↓resQ_val, ↓resQ_unit, ↓resQ_enter, ↓retQ_some, ↓resFQ_val, ↓resFQ_unit, ↓resFQ_enter, ↓retFQ_some, Nat.reduceEqDiff, reduceIte, Nat.reduceAdd, Nat.reduceMul, Nat.reduceSub, reduceCtorEq, Nat.reduceLeDiff, f1_6, f2_6, f4_6, f5_6], rfl⟩)
      · cases hc5
  · skip
    refine W.regionA (fun A hA K hK => ?_)
    have gd2 := guardAt hA (j := 2) (d := 24) rfl
    have gd6 := guardAt hA (j := 6) (d := 28) rfl
    clear hA
    simp (config := { maxSteps := 10000000 }) only [go_sem, ↓forkQ_true, ↓forkQ_false, ↓guardQ_some, ↓resQ_val, ↓resQ_unit, ↓resQ_enter, ↓retQ_some, ↓resFQ_val, ↓resFQ_unit, ↓resFQ_enter, ↓retFQ_some, Nat.reduceEqDiff, reduceIte, Nat.reduceAdd, Nat.reduceMul, Nat.reduceSub, reduceCtorEq, Nat.reduceLeDiff, f1_3, f2_3, f4_3, f5_3, f6_3, cut5, t12, t16, t23, t25, t26, t27, cfT_at, g0, q25, q1, gd2, gd6]
    repeat' (first | (refine W.forkP (fun hc7 => ?_) (fun hc7 => ?_) <;> simp (config := { maxSteps := 10000000 }) only [go_sem, ↓forkQ_true, ↓forkQ_false, ↓guardQ_some, ↓resQ_val, ↓resQ_unit, ↓resQ_enter, ↓retQ_some, ↓resFQ_val, ↓resFQ_unit, ↓resFQ_enter, ↓retFQ_some, Nat.reduceEqDiff, reduceIte, Nat.reduceAdd, Nat.reduceMul, Nat.reduceSub, reduceCtorEq, Nat.reduceLeDiff, f1_3, f2_3, f4_3, f5_3, f6_3, cut5, t12, t16, t23, t25, t26, t27, cfT_at, g0, q25, q1, gd2, gd6, hc7]) | (refine W.fork (fun hc7 => ?_) (fun hc7 => ?_) <;> simp (config := { maxSteps := 10000000 }) only [go_sem, ↓forkQ_true, ↓forkQ_false, ↓guardQ_some, ↓resQ_val, ↓resQ_unit, ↓resQ_enter, ↓retQ_some, ↓resFQ_val, ↓resFQ_unit, ↓resFQ_enter, ↓retFQ_some, Nat.reduceEqDiff, reduceIte, Nat.reduceAdd, Nat.reduceMul, Nat.reduceSub, reduceCtorEq, Nat.reduceLeDiff, f1_3, f2_3, f4_3, f5_3, f6_3, cut5, t12, t16, t23, t25, t26, t27, cfT_at, g0, q25, q1, gd2, gd6, hc7]))
    all_goals
      refine hK _ _ ?_
      clear hK K A gd2 gd6
      refine W.forget (fun e7 he7 => ?_)
      have f1_7 := congrArg (fun q => Env.get q 1) he7
      simp only [go_sem, Nat.reduceEqDiff, reduceIte, f1_3] at f1_7
      have f2_7 := congrArg (fun q => Env.get q 2) he7
      simp only [go_sem, Nat.reduceEqDiff, reduceIte, f2_3] at f2_7
      have f4_7 := congrArg (fun q => Env.get q 4) he7
      simp only [go_sem, Nat.reduceEqDiff, reduceIte, f4_3] at f4_7
      have f5_7 := congrArg (fun q => Env.get q 5) he7
      simp only [go_sem, Nat.reduceEqDiff, reduceIte, f5_3] at f5_7
      have f31_7 := congrArg (fun q => Env.get q 31) he7
      simp only [go_sem, Nat.reduceEqDiff, reduceIte] at f31_7
      clear he7 f1_3 f2_3 f4_3 f5_3 f6_3
      refine W.thenN ?_
      refine W.cond f31_7 (fun hc8 => ?_) (fun hc8 => ?_)
      · first
        | (cases hc8; done)
        | (exfalso; simp only [decide_eq_true_eq, decide_eq_false_iff_not, Bool.not_eq_true', Bool.not_eq_false', Bool.not_eq_eq_eq_not, Bool.not_true, Bool.not_false] at hc8; omega)
        | (skip
           try simp only [decide_eq_true_eq, decide_eq_false_iff_not, Bool.not_eq_true', Bool.not_eq_false', Bool.not_eq_eq_eq_not, Bool.not_true, Bool.not_false] at hc8
           refine W.seq ?_
           refine W.region (fun K hK => ?_)
           simp (config := { maxSteps := 10000000 }) only [go_sem, ↓forkQ_true, ↓forkQ_false, ↓guardQ_some, ↓resQ_val, ↓resQ_unit, ↓resQ_enter, ↓retQ_some, ↓resFQ_val, ↓resFQ_unit, ↓resFQ_enter, ↓retFQ_some, Nat.reduceEqDiff, reduceIte, Nat.reduceAdd, Nat.reduceMul, Nat.reduceSub, reduceCtorEq, Nat.reduceLeDiff, f1_7, f2_7, f4_7, f5_7, f31_7, cut5, t12, t16, t23, t25, t26, t27, cfT_at, g0, q25, q1]
           refine hK _ _ ?_
           clear hK K
           refine W.forget (fun e9 he9 => ?_)
           have f1_9 := congrArg (fun q => Env.get q 1) he9
           simp only [go_sem, Nat.reduceEqDiff, reduceIte, f1_7] at f1_9
           have f2_9 := congrArg (fun q => Env.get q 2) he9
           simp only [go_sem, Nat.reduceEqDiff, reduceIte, f2_7] at f2_9
           have f4_9 := congrArg (fun q => Env.get q 4) he9
           simp only [go_sem, Nat.reduceEqDiff, reduceIte, f4_7] at f4_9
           have f5_9 := congrArg (fun q => Env.get q 5) he9
           simp only [go_sem, Nat.reduceEqDiff, reduceIte, f5_7] at f5_9
           clear he9 f1_7 f2_7 f4_7 f5_7 f31_7
           refine W.thenN ?_
           refine W.ret ?_
           refine W.thenR ?_
           rw [doneQ_ret]
           exact ⟨[.bool true], by simp only [go_sem, ↓forkQ_true, ↓forkQ_false, ↓guardQ_some, ↓resQ_val, ↓resQ_unit, ↓resQ_enter, ↓retQ_some, ↓resFQ_val, ↓resFQ_unit, ↓resFQ_enter, ↓retFQ_some, Nat.reduceEqDiff, reduceIte, Nat.reduceAdd, Nat.reduceMul, Nat.reduceSub, reduceCtorEq, Nat.reduceLeDiff, f1_9, f2_9, f4_9, f5_9], rfl⟩)
      · cases hc8
  · skip
    refine W.regionA (fun A hA K hK => ?_)
    have gd2 := guardAt hA (j := 2) (d := 24) rfl
    have gd6 := guardAt hA (j := 6) (d := 28) rfl
    clear hA
    simp (config := { maxSteps := 10000000 }) only [go_sem, ↓forkQ_true, ↓forkQ_false, ↓guardQ_some, ↓resQ_val, ↓resQ_unit, ↓resQ_enter, ↓retQ_some, ↓resFQ_val, ↓resFQ_unit, ↓resFQ_enter, ↓retFQ_some, Nat.reduceEqDiff, reduceIte, Nat.reduceAdd, Nat.reduceMul, Nat.reduceSub, reduceCtorEq, Nat.reduceLeDiff, f1_3, f2_3, f4_3, f5_3, f6_3, cut5, t12, t16, t23, t25, t26, t27, cfT_at, g0, q25, q1, q2, gd2, gd6]
    repeat' (first | (refine W.forkP (fun hc10 => ?_) (fun hc10 => ?_) <;> simp (config := { maxSteps := 10000000 }) only [go_sem, ↓forkQ_true, ↓forkQ_false, ↓guardQ_some, ↓resQ_val, ↓resQ_unit, ↓resQ_enter, ↓retQ_some, ↓resFQ_val, ↓resFQ_unit, ↓resFQ_enter, ↓retFQ_some, Nat.reduceEqDiff, reduceIte, Nat.reduceAdd, Nat.reduceMul, Nat.reduceSub, reduceCtorEq, Nat.reduceLeDiff, f1_3, f2_3, f4_3, f5_3, f6_3, cut5, t12, t16, t23, t25, t26, t27, cfT_at, g0, q25, q1, q2, gd2, gd6, hc10]) | (refine W.fork (fun hc10 => ?_) (fun hc10 => ?_) <;> simp (config := { maxSteps := 10000000 }) only [go_sem, ↓forkQ_true, ↓forkQ_false, ↓guardQ_some, ↓resQ_val, ↓resQ_unit, ↓resQ_enter, ↓retQ_some, ↓resFQ_val, ↓resFQ_unit, ↓resFQ_enter, ↓retFQ_some, Nat.reduceEqDiff, reduceIte, Nat.reduceAdd, Nat.reduceMul, Nat.reduceSub, reduceCtorEq, Nat.reduceLeDiff, f1_3, f2_3, f4_3, f5_3, f6_3, cut5, t12, t16, t23, t25, t26, t27, cfT_at, g0, q25, q1, q2, gd2, gd6, hc10]))
    all_goals
      refine hK _ _ ?_
      clear hK K A gd2 gd6
      refine W.forget (fun e10 he10 => ?_)
      have f1_10 := congrArg (fun q => Env.get q 1) he10
      simp only [go_sem, Nat.reduceEqDiff, reduceIte, f1_3] at f1_10
      have f2_10 := congrArg (fun q => Env.get q 2) he10
      simp only [go_sem, Nat.reduceEqDiff, reduceIte, f2_3] at f2_10
      have f4_10 := congrArg (fun q => Env.get q 4) he10
      simp only [go_sem, Nat.reduceEqDiff, reduceIte, f4_3] at f4_10
      have f5_10 := congrArg (fun q => Env.get q 5) he10
      simp only [go_sem, Nat.reduceEqDiff, reduceIte, f5_3] at f5_10
      have f31_10 := congrArg (fun q => Env.get q 31) he10
      simp only [go_sem, Nat.reduceEqDiff, reduceIte] at f31_10
      clear he10 f1_3 f2_3 f4_3 f5_3 f6_3
      refine W.thenN ?_
      refine W.cond f31_10 (fun hc11 => ?_) (fun hc11 => ?_)
      · first
        | (cases hc11; done)
        | (exfalso; simp only [decide_eq_true_eq, decide_eq_false_iff_not, Bool.not_eq_true', Bool.not_eq_false', Bool.not_eq_eq_eq_not, Bool.not_true, Bool.not_false] at hc11; omega)
        | (skip
           try simp only [decide_eq_true_eq, decide_eq_false_iff_not, Bool.not_eq_true', Bool.not_eq_false', Bool.not_eq_eq_eq_not, Bool.not_true, Bool.not_false] at hc11
           refine W.seq ?_
           refine W.region (fun K hK => ?_)
           simp (config := { maxSteps := 10000000 }) only [go_sem, ↓forkQ_true, ↓forkQ_false, ↓guardQ_some, ↓resQ_val, ↓resQ_unit, ↓resQ_enter, ↓retQ_some, ↓resFQ_val, ↓resFQ_unit, ↓resFQ_enter, ↓retFQ_some, Nat.reduceEqDiff, reduceIte, Nat.reduceAdd, Nat.reduceMul, Nat.reduceSub, reduceCtorEq, Nat.reduceLeDiff, f1_10, f2_10, f4_10, f5_10, f31_10, cut5, t12, t16, t23, t25, t26, t27, cfT_at, g0, q25, q1, q2]
           refine hK _ _ ?_
           clear hK K
           refine W.forget (fun e12 he12 => ?_)
           have f1_12 := congrArg (fun q => Env.get q 1) he12
           simp only [go_sem, Nat.reduceEqDiff, reduceIte, f1_10] at f1_12
           have f2_12 := congrArg (fun q => Env.get q 2) he12
           simp only [go_sem, Nat.reduceEqDiff, reduceIte, f2_10] at f2_12
           have f4_12 := congrArg (fun q => Env.get q 4) he12
           simp only [go_sem, Nat.reduceEqDiff, reduceIte, f4_10] at f4_12
           have f5_12 := congrArg (fun q => Env.get q 5) he12
           simp only [go_sem, Nat.reduceEqDiff, reduceIte, f5_10] at f5_12
           clear he12 f1_10 f2_10 f4_10 f5_10 f31_10
           refine W.thenN ?_
           refine W.ret ?_
           refine W.thenR ?_
           rw [doneQ_ret]
           exact ⟨[.bool true], by simp only [go_sem, ↓forkQ_true, ↓forkQ_false, ↓guardQ_some, ↓resQ_val, ↓resQ_unit, ↓resQ_enter, ↓retQ_some, ↓resFQ_val, ↓resFQ_unit, ↓resFQ_enter, ↓retFQ_some, Nat.reduceEqDiff, reduceIte, Nat.reduceAdd, Nat.reduceMul, Nat.reduceSub, reduceCtorEq, Nat.reduceLeDiff, f1_12, f2_12, f4_12, f5_12], rfl⟩)
      · cases hc11
  · skip
    obtain ⟨rfl, hd, hi⟩ := hb rfl
    have wl3 : k3.wr ≤ k3.next := by rw [g25.wr, ex0.wr]; have := g25.next; omega
    have w0 := Grow.at g25 nx0 g0
    have nb : h.next < k3.next := Nat.lt_of_lt_of_le nx0 g25.next
    obtain ⟨o, on⟩ := lines_ok hd hi
    have hN := linesL_len Y0 B xs bs us
    have hn0 := hd.n0
    have hn1 := hd.n1
    generalize hL : linesL Y0 B xs bs us = L at *
    have h2 : 2 ≤ L.length := by omega
    have hl : L.length ≤ 24 := by omega
    have hB' : -1000 ≤ B ∧ B ≤ 1000 := ⟨hd.b0, hd.b1⟩
    have hx : 0 ≤ x ∧ x ≤ 1073741824 := by omega
    have mb := mul_bd (a := B) (b := x) (A := 1000) (B := 100000) (by omega) (by omega)
    have hY0 := hd.a0
    have hY1 := hd.a1
    have hv : -4611686018427387904 ≤ Y0 + B * x ∧ Y0 + B * x ≤ 4611686018427387904 := by omega
    have sa : wrapF .i64 (B * x) = B * x := w64_in _ (by omega)
    have sb : wrapF .i64 (Y0 + B * x) = Y0 + B * x := w64_in _ (by omega)
    obtain ⟨hp, m1, m2⟩ := online_pass o h2 on hB'
    obtain ⟨sl1, le1⟩ := slP_val o hp h2
    obtain ⟨at1, lw1, hi1⟩ := atP_val o hp h2 hx
    have gr := (greatR_min o h2).low
    have kr := (leastR_max o h2).low
    have ng1 := lw1.neg
    have lB : Low ⟨true, B, 1⟩ := low_int (by omega)
    have lV : Low ⟨true, Y0 + B * x, 1⟩ := low_int hv
    have x1 := online_high o h2 on hx hv
    have x2 := online_lowB o h2 on hx hv
    have r1 := c26 ((leastR L).n) ((leastR L).d) ⟨kr.n0, kr.n1⟩ ⟨kr.d0, kr.d1⟩ kr.g
    have r2 := c26 ((greatR L).n) ((greatR L).d) ⟨gr.n0, gr.n1⟩ ⟨gr.d0, gr.d1⟩ gr.g
    have r3 := c26 (-(lowBR L x).n) ((lowBR L x).d) ⟨ng1.n0, ng1.n1⟩ ⟨ng1.d0, ng1.d1⟩ ng1.g
    have r4 := c26 ((highR L x).n) ((highR L x).d) ⟨hi1.n0, hi1.n1⟩ ⟨hi1.d0, hi1.d1⟩ hi1.g
    have p1 := c27 (B) (1) ((leastR L).n) ((leastR L).d) (Int.ne_of_gt lB.d0) (Int.ne_of_gt kr.d0)
    rw [show lessZ (B) (1) ((leastR L).n) ((leastR L).d) = false from nless lB kr m1] at p1
    have p2 := c27 ((greatR L).n) ((greatR L).d) (B) (1) (Int.ne_of_gt gr.d0) (Int.ne_of_gt lB.d0)
    rw [show lessZ ((greatR L).n) ((greatR L).d) (B) (1) = false from nless gr lB m2] at p2
    have p3 := c27 (Y0 + B * x) (1) (-(lowBR L x).n) ((lowBR L x).d) (Int.ne_of_gt lV.d0) (Int.ne_of_gt ng1.d0)
    rw [show lessZ (Y0 + B * x) (1) (-(lowBR L x).n) ((lowBR L x).d) = false from nless lV ng1 (by dsimp only; rw [Int.neg_mul] at x2 ⊢; omega)] at p3
    have p4 := c27 ((highR L x).n) ((highR L x).d) (Y0 + B * x) (1) (Int.ne_of_gt hi1.d0) (Int.ne_of_gt lV.d0)
    rw [show lessZ ((highR L x).n) ((highR L x).d) (Y0 + B * x) (1) = false from nless hi1 lV x1] at p4
    have qa := c12 L a c k3 ga hl
    rw [sl1] at qa
    dsimp only [srv] at qa
    refine W.regionA (fun A hA K hK => ?_)
    have gd2 := guardAt hA (j := 2) (d := 24) rfl
    have gd6 := guardAt hA (j := 6) (d := 28) rfl
    clear hA
    simp (config := { maxSteps := 10000000 }) only [go_sem, ↓forkQ_true, ↓forkQ_false, ↓guardQ_some, ↓resQ_val, ↓resQ_unit, ↓resQ_enter, ↓retQ_some, ↓resFQ_val, ↓resFQ_unit, ↓resFQ_enter, ↓retFQ_some, Nat.reduceEqDiff, reduceIte, Nat.reduceAdd, Nat.reduceMul, Nat.reduceSub, reduceCtorEq, Nat.reduceLeDiff, f1_3, f2_3, f4_3, f5_3, f6_3, cut5, t12, t16, t23, t25, t26, t27, cfT_at, g0, q25, q1, q2, gd2, gd6]
    repeat' (first | (refine W.forkP (fun hc13 => ?_) (fun hc13 => ?_) <;> simp (config := { maxSteps := 10000000 }) only [go_sem, ↓forkQ_true, ↓forkQ_false, ↓guardQ_some, ↓resQ_val, ↓resQ_unit, ↓resQ_enter, ↓retQ_some, ↓resFQ_val, ↓resFQ_unit, ↓resFQ_enter, ↓retFQ_some, Nat.reduceEqDiff, reduceIte, Nat.reduceAdd, Nat.reduceMul, Nat.reduceSub, reduceCtorEq, Nat.reduceLeDiff, f1_3, f2_3, f4_3, f5_3, f6_3, cut5, t12, t16, t23, t25, t26, t27, cfT_at, g0, q25, q1, q2, gd2, gd6, hc13]) | (refine W.fork (fun hc13 => ?_) (fun hc13 => ?_) <;> simp (config := { maxSteps := 10000000 }) only [go_sem, ↓forkQ_true, ↓forkQ_false, ↓guardQ_some, ↓resQ_val, ↓resQ_unit, ↓resQ_enter, ↓retQ_some, ↓resFQ_val, ↓resFQ_unit, ↓resFQ_enter, ↓retFQ_some, Nat.reduceEqDiff, reduceIte, Nat.reduceAdd, Nat.reduceMul, Nat.reduceSub, reduceCtorEq, Nat.reduceLeDiff, f1_3, f2_3, f4_3, f5_3, f6_3, cut5, t12, t16, t23, t25, t26, t27, cfT_at, g0, q25, q1, q2, gd2, gd6, hc13]))
    all_goals
      refine hK _ _ ?_
      clear hK K A gd2 gd6
      refine W.forget (fun e13 he13 => ?_)
      have f1_13 := congrArg (fun q => Env.get q 1) he13
      simp only [go_sem, Nat.reduceEqDiff, reduceIte, f1_3] at f1_13
      have f2_13 := congrArg (fun q => Env.get q 2) he13
      simp only [go_sem, Nat.reduceEqDiff, reduceIte, f2_3] at f2_13
      have f4_13 := congrArg (fun q => Env.get q 4) he13
      simp only [go_sem, Nat.reduceEqDiff, reduceIte, f4_3] at f4_13
      have f5_13 := congrArg (fun q => Env.get q 5) he13
      simp only [go_sem, Nat.reduceEqDiff, reduceIte, f5_3] at f5_13
      have f31_13 := congrArg (fun q => Env.get q 31) he13
      simp only [go_sem, Nat.reduceEqDiff, reduceIte] at f31_13
      clear he13 f1_3 f2_3 f4_3 f5_3 f6_3
      refine W.thenN ?_
      refine W.cond f31_13 (fun hc14 => ?_) (fun hc14 => ?_)
      · cases hc14
      · first
        | (cases hc14; done)
        | (exfalso; simp only [decide_eq_true_eq, decide_eq_false_iff_not, Bool.not_eq_true', Bool.not_eq_false', Bool.not_eq_eq_eq_not, Bool.not_true, Bool.not_false] at hc14; omega)
        | (skip
           try simp only [decide_eq_true_eq, decide_eq_false_iff_not, Bool.not_eq_true', Bool.not_eq_false', Bool.not_eq_eq_eq_not, Bool.not_true, Bool.not_false] at hc14
           refine W.skip ?_
           refine W.thenN ?_
           refine W.seq ?_
           refine W.region (fun K hK => ?_)
           simp (config := { maxSteps := 10000000 }) only [go_sem, ↓forkQ_true, ↓forkQ_false, ↓guardQ_some, ↓resQ_val, ↓resQ_unit, ↓resQ_enter, ↓retQ_some, ↓resFQ_val, ↓resFQ_unit, ↓resFQ_enter, ↓retFQ_some, Nat.reduceEqDiff, reduceIte, Nat.reduceAdd, Nat.reduceMul, Nat.reduceSub, reduceCtorEq, Nat.reduceLeDiff, f1_13, f2_13, f4_13, f5_13, f31_13, cut5, t12, t16, t23, t25, t26, t27, cfT_at, g0, q25, q1, q2, qa]
           refine hK _ _ ?_
           clear hK K
           refine W.forget (fun e15 he15 => ?_)
           refine W.forgetH (fun k4 hk15 => ?_)
           obtain ⟨g4, u7, u8, nx4, wl4⟩ := two_new hk15 wl3
           clear hk15
           have f1_15 := congrArg (fun q => Env.get q 1) he15
           simp only [go_sem, Nat.reduceEqDiff, reduceIte, f1_13] at f1_15
           have f2_15 := congrArg (fun q => Env.get q 2) he15
           simp only [go_sem, Nat.reduceEqDiff, reduceIte, f2_13] at f2_15
           have f4_15 := congrArg (fun q => Env.get q 4) he15
           simp only [go_sem, Nat.reduceEqDiff, reduceIte, f4_13] at f4_15
           have f5_15 := congrArg (fun q => Env.get q 5) he15
           simp only [go_sem, Nat.reduceEqDiff, reduceIte, f5_13] at f5_15
           have f7_15 := congrArg (fun q => Env.get q 7) he15
           simp only [go_sem, Nat.reduceEqDiff, reduceIte] at f7_15
           have f8_15 := congrArg (fun q => Env.get q 8) he15
           simp only [go_sem, Nat.reduceEqDiff, reduceIte] at f8_15
           have f9_15 := congrArg (fun q => Env.get q 9) he15
           simp only [go_sem, Nat.reduceEqDiff, reduceIte] at f9_15
           clear he15 f1_13 f2_13 f4_13 f5_13 f31_13
           refine W.thenN ?_
           refine W.seq ?_
           refine W.region (fun K hK => ?_)
           have qb := c23 L a c x k4 (ga.grow g4) hl
           rw [at1] at qb
           dsimp only [srv] at qb
           simp (config := { maxSteps := 10000000 }) only [go_sem, ↓forkQ_true, ↓forkQ_false, ↓guardQ_some, ↓resQ_val, ↓resQ_unit, ↓resQ_enter, ↓retQ_some, ↓resFQ_val, ↓resFQ_unit, ↓resFQ_enter, ↓retFQ_some, Nat.reduceEqDiff, reduceIte, Nat.reduceAdd, Nat.reduceMul, Nat.reduceSub, reduceCtorEq, Nat.reduceLeDiff, f1_15, f2_15, f4_15, f5_15, f7_15, f8_15, f9_15, cut5, t12, t16, t23, t25, t26, t27, cfT_at, g0, q25, q1, q2, qa, qb]
           refine hK _ _ ?_
           clear hK K
           refine W.forget (fun e16 he16 => ?_)
           refine W.forgetH (fun k5 hk16 => ?_)
           obtain ⟨g5, u10, u11, nx5, wl5⟩ := two_new hk16 wl4
           clear hk16
           have f1_16 := congrArg (fun q => Env.get q 1) he16
           simp only [go_sem, Nat.reduceEqDiff, reduceIte, f1_15] at f1_16
           have f2_16 := congrArg (fun q => Env.get q 2) he16
           simp only [go_sem, Nat.reduceEqDiff, reduceIte, f2_15] at f2_16
           have f4_16 := congrArg (fun q => Env.get q 4) he16
           simp only [go_sem, Nat.reduceEqDiff, reduceIte, f4_15] at f4_16
           have f5_16 := congrArg (fun q => Env.get q 5) he16
           simp only [go_sem, Nat.reduceEqDiff, reduceIte, f5_15] at f5_16
           have f7_16 := congrArg (fun q => Env.get q 7) he16
           simp only [go_sem, Nat.reduceEqDiff, reduceIte, f7_15] at f7_16
           have f8_16 := congrArg (fun q => Env.get q 8) he16
           simp only [go_sem, Nat.reduceEqDiff, reduceIte, f8_15] at f8_16
           have f9_16 := congrArg (fun q => Env.get q 9) he16
           simp only [go_sem, Nat.reduceEqDiff, reduceIte, f9_15] at f9_16
           have f10_16 := congrArg (fun q => Env.get q 10) he16
           simp only [go_sem, Nat.reduceEqDiff, reduceIte] at f10_16
           have f11_16 := congrArg (fun q => Env.get q 11) he16
           simp only [go_sem, Nat.reduceEqDiff, reduceIte] at f11_16
           have f12_16 := congrArg (fun q => Env.get q 12) he16
           simp only [go_sem, Nat.reduceEqDiff, reduceIte] at f12_16
           clear he16 f1_15 f2_15 f4_15 f5_15 f7_15 f8_15 f9_15
           refine W.thenN ?_
           refine W.seq ?_
           refine W.drawP _ dr6_6 (fun K hK => ?_)
           have w5 := Grow.at (g4.trans g5) nb w0
           have n1 : (h.next = k5.next) = False := eq_false (by omega)
           have n2 : (k5.next = h.next) = False := eq_false (by omega)
           have b1 : (h.next < k5.next) = True := eq_true (by omega)
           have b2 : (h.next < k5.next + 1) = True := eq_true (by omega)
           have b3 : (h.next < k5.next + 1 + 1) = True := eq_true (by omega)
           have n3 : (h.next = k5.next + 1) = False := eq_false (by omega)
           simp (config := { maxSteps := 10000000 }) only [go_sem, ↓forkQ_true, ↓forkQ_false, ↓guardQ_some, ↓resQ_val, ↓resQ_unit, ↓resQ_enter, ↓retQ_some, ↓resFQ_val, ↓resFQ_unit, ↓resFQ_enter, ↓retFQ_some, Nat.reduceEqDiff, reduceIte, Nat.reduceAdd, Nat.reduceMul, Nat.reduceSub, reduceCtorEq, Nat.reduceLeDiff, f1_16, f2_16, f4_16, f5_16, f7_16, f8_16, f9_16, f10_16, f11_16, f12_16, cut5, t12, t16, t23, t25, t26, t27, cfT_at, g0, q25, q1, q2, qa, qb, w5, sa, sb, n1, n2, n3, b1, b2, b3]
           refine hK _ _ _ (by simp only [go_sem, ↓forkQ_true, ↓forkQ_false, ↓guardQ_some, ↓resQ_val, ↓resQ_unit, ↓resQ_enter, ↓retQ_some, ↓resFQ_val, ↓resFQ_unit, ↓resFQ_enter, ↓retFQ_some, Nat.reduceEqDiff, reduceIte, Nat.reduceAdd, Nat.reduceMul, Nat.reduceSub, reduceCtorEq, Nat.reduceLeDiff, n1, n2, n3, b1, b2, b3]) ?_
           clear hK K
           refine W.forget (fun e17 he17 => ?_)
           refine W.forgetH (fun k6 hk17 => ?_)
           obtain ⟨g6, u13, u14, nx6, wl6⟩ := two_new hk17 wl5
           clear hk17
           have f4_17 := congrArg (fun q => Env.get q 4) he17
           simp only [go_sem, Nat.reduceEqDiff, reduceIte, f4_16] at f4_17
           have f5_17 := congrArg (fun q => Env.get q 5) he17
           simp only [go_sem, Nat.reduceEqDiff, reduceIte, f5_16] at f5_17
           have f7_17 := congrArg (fun q => Env.get q 7) he17
           simp only [go_sem, Nat.reduceEqDiff, reduceIte, f7_16] at f7_17
           have f8_17 := congrArg (fun q => Env.get q 8) he17
           simp only [go_sem, Nat.reduceEqDiff, reduceIte, f8_16] at f8_17
           have f9_17 := congrArg (fun q => Env.get q 9) he17
           simp only [go_sem, Nat.reduceEqDiff, reduceIte, f9_16] at f9_17
           have f10_17 := congrArg (fun q => Env.get q 10) he17
           simp only [go_sem, Nat.reduceEqDiff, reduceIte, f10_16] at f10_17
           have f11_17 := congrArg (fun q => Env.get q 11) he17
           simp only [go_sem, Nat.reduceEqDiff, reduceIte, f11_16] at f11_17
           have f12_17 := congrArg (fun q => Env.get q 12) he17
           simp only [go_sem, Nat.reduceEqDiff, reduceIte, f12_16] at f12_17
           have f13_17 := congrArg (fun q => Env.get q 13) he17
           simp only [go_sem, Nat.reduceEqDiff, reduceIte] at f13_17
           have f14_17 := congrArg (fun q => Env.get q 14) he17
           simp only [go_sem, Nat.reduceEqDiff, reduceIte] at f14_17
           clear he17 f1_16 f2_16 f4_16 f5_16 f7_16 f8_16 f9_16 f10_16 f11_16 f12_16
           refine W.thenN ?_
           refine W.seq ?_
           refine W.seq ?_
           refine W.regionA (fun A hA K hK => ?_)
           have gd3 := guardAt hA (j := 3) (d := 60) rfl
           have gd7 := guardAt hA (j := 7) (d := 64) rfl
           have gd11 := guardAt hA (j := 11) (d := 68) rfl
           have gd16 := guardAt hA (j := 16) (d := 73) rfl
           have gd21 := guardAt hA (j := 21) (d := 78) rfl
           have gd26 := guardAt hA (j := 26) (d := 83) rfl
           have gd31 := guardAt hA (j := 31) (d := 88) rfl
           have gd36 := guardAt hA (j := 36) (d := 93) rfl
           have gd41 := guardAt hA (j := 41) (d := 98) rfl
           have gd46 := guardAt hA (j := 46) (d := 103) rfl
           clear hA
           have ga6 := ((ga.grow g4).grow g5).grow g6
           have v7 := Grow.at (g5.trans g6) (by omega) u7
           have v8 := Grow.at (g5.trans g6) (by omega) u8
           have v10 := Grow.at g6 (by omega) u10
           have v11 := Grow.at g6 (by omega) u11
           have qc := c16 L a c k6 ga6 hl
           rw [hp] at qc
           simp (config := { maxSteps := 10000000 }) only [go_sem, ↓forkQ_true, ↓forkQ_false, ↓guardQ_some, ↓resQ_val, ↓resQ_unit, ↓resQ_enter, ↓retQ_some, ↓resFQ_val, ↓resFQ_unit, ↓resFQ_enter, ↓retFQ_some, Nat.reduceEqDiff, reduceIte, Nat.reduceAdd, Nat.reduceMul, Nat.reduceSub, reduceCtorEq, Nat.reduceLeDiff, f4_17, f5_17, f7_17, f8_17, f9_17, f10_17, f11_17, f12_17, f13_17, f14_17, cut5, t12, t16, t23, t25, t26, t27, cfT_at, g0, q25, q1, q2, qa, qb, w5, sa, sb, n1, n2, n3, b1, b2, b3, v7, v8, v10, v11, u13, u14, qc, r1, r2, r3, r4, p1, p2, p3, p4, gd3, gd7, gd11, gd16, gd21, gd26, gd31, gd36, gd41, gd46]
           repeat' (first | (refine W.forkP (fun hc18 => ?_) (fun hc18 => ?_) <;> simp (config := { maxSteps := 10000000 }) only [go_sem, ↓forkQ_true, ↓forkQ_false, ↓guardQ_some, ↓resQ_val, ↓resQ_unit, ↓resQ_enter, ↓retQ_some, ↓resFQ_val, ↓resFQ_unit, ↓resFQ_enter, ↓retFQ_some, Nat.reduceEqDiff, reduceIte, Nat.reduceAdd, Nat.reduceMul, Nat.reduceSub, reduceCtorEq, Nat.reduceLeDiff, f4_17, f5_17, f7_17, f8_17, f9_17, f10_17, f11_17, f12_17, f13_17, f14_17, cut5, t12, t16, t23, t25, t26, t27, cfT_at, g0, q25, q1, q2, qa, qb, w5, sa, sb, n1, n2, n3, b1, b2, b3, v7, v8, v10, v11, u13, u14, qc, r1, r2, r3, r4, p1, p2, p3, p4, gd3, gd7, gd11, gd16, gd21, gd26, gd31, gd36, gd41, gd46, hc18]) | (refine W.fork (fun hc18 => ?_) (fun hc18 => ?_) <;> simp (config := { maxSteps := 10000000 }) only [go_sem, ↓forkQ_true, ↓forkQ_false, ↓guardQ_some, ↓resQ_val, ↓resQ_unit, ↓resQ_enter, ↓retQ_some, ↓resFQ_val, ↓resFQ_unit, ↓resFQ_enter, ↓retFQ_some, Nat.reduceEqDiff, reduceIte, Nat.reduceAdd, Nat.reduceMul, Nat.reduceSub, reduceCtorEq, Nat.reduceLeDiff, f4_17, f5_17, f7_17, f8_17, f9_17, f10_17, f11_17, f12_17, f13_17, f14_17, cut5, t12, t16, t23, t25, t26, t27, cfT_at, g0, q25, q1, q2, qa, qb, w5, sa, sb, n1, n2, n3, b1, b2, b3, v7, v8, v10, v11, u13, u14, qc, r1, r2, r3, r4, p1, p2, p3, p4, gd3, gd7, gd11, gd16, gd21, gd26, gd31, gd36, gd41, gd46, hc18]))
           all_goals
             refine hK _ _ ?_
             clear hK K A gd3 gd7 gd11 gd16 gd21 gd26 gd31 gd36 gd41 gd46
             refine W.forget (fun e18 he18 => ?_)
             have f4_18 := congrArg (fun q => Env.get q 4) he18
             simp only [go_sem, Nat.reduceEqDiff, reduceIte, f4_17] at f4_18
             have f5_18 := congrArg (fun q => Env.get q 5) he18
             simp only [go_sem, Nat.reduceEqDiff, reduceIte, f5_17] at f5_18
             have f7_18 := congrArg (fun q => Env.get q 7) he18
             simp only [go_sem, Nat.reduceEqDiff, reduceIte, f7_17] at f7_18
             have f8_18 := congrArg (fun q => Env.get q 8) he18
             simp only [go_sem, Nat.reduceEqDiff, reduceIte, f8_17] at f8_18
             have f10_18 := congrArg (fun q => Env.get q 10) he18
             simp only [go_sem, Nat.reduceEqDiff, reduceIte, f10_17] at f10_18
             have f11_18 := congrArg (fun q => Env.get q 11) he18
             simp only [go_sem, Nat.reduceEqDiff, reduceIte, f11_17] at f11_18
             have f13_18 := congrArg (fun q => Env.get q 13) he18
             simp only [go_sem, Nat.reduceEqDiff, reduceIte, f13_17] at f13_18
             have f14_18 := congrArg (fun q => Env.get q 14) he18
             simp only [go_sem, Nat.reduceEqDiff, reduceIte, f14_17] at f14_18
             have f107_18 := congrArg (fun q => Env.get q 107) he18
             simp only [go_sem, Nat.reduceEqDiff, reduceIte] at f107_18
             clear he18 f4_17 f5_17 f7_17 f8_17 f9_17 f10_17 f11_17 f12_17 f13_17 f14_17
             refine W.thenN ?_
             refine W.cond f107_18 (fun hc19 => ?_) (fun hc19 => ?_)
             · cases hc19
             · first
               | (cases hc19; done)
               | (exfalso; simp only [decide_eq_true_eq, decide_eq_false_iff_not, Bool.not_eq_true', Bool.not_eq_false', Bool.not_eq_eq_eq_not, Bool.not_true, Bool.not_false] at hc19; omega)
               | (skip
                  try simp only [decide_eq_true_eq, decide_eq_false_iff_not, Bool.not_eq_true', Bool.not_eq_false', Bool.not_eq_eq_eq_not, Bool.not_true, Bool.not_false] at hc19
                  refine W.skip ?_
                  refine W.thenN ?_
                  refine W.seq ?_
                  refine W.region (fun K hK => ?_)
                  simp (config := { maxSteps := 10000000 }) only [go_sem, ↓forkQ_true, ↓forkQ_false, ↓guardQ_some, ↓resQ_val, ↓resQ_unit, ↓resQ_enter, ↓retQ_some, ↓resFQ_val, ↓resFQ_unit, ↓resFQ_enter, ↓retFQ_some, Nat.reduceEqDiff, reduceIte, Nat.reduceAdd, Nat.reduceMul, Nat.reduceSub, reduceCtorEq, Nat.reduceLeDiff, f4_18, f5_18, f7_18, f8_18, f10_18, f11_18, f13_18, f14_18, f107_18, cut5, t12, t16, t23, t25, t26, t27, cfT_at, g0, q25, q1, q2, qa, qb, w5, sa, sb, n1, n2, n3, b1, b2, b3, v7, v8, v10, v11, u13, u14, qc, r1, r2, r3, r4, p1, p2, p3, p4]
                  refine hK _ _ ?_
                  clear hK K
                  refine W.forget (fun e20 he20 => ?_)
                  have f4_20 := congrArg (fun q => Env.get q 4) he20
                  simp only [go_sem, Nat.reduceEqDiff, reduceIte, f4_18] at f4_20
                  have f5_20 := congrArg (fun q => Env.get q 5) he20
                  simp only [go_sem, Nat.reduceEqDiff, reduceIte, f5_18] at f5_20
                  have f7_20 := congrArg (fun q => Env.get q 7) he20
                  simp only [go_sem, Nat.reduceEqDiff, reduceIte, f7_18] at f7_20
                  have f8_20 := congrArg (fun q => Env.get q 8) he20
                  simp only [go_sem, Nat.reduceEqDiff, reduceIte, f8_18] at f8_20
                  have f10_20 := congrArg (fun q => Env.get q 10) he20
                  simp only [go_sem, Nat.reduceEqDiff, reduceIte, f10_18] at f10_20
                  have f11_20 := congrArg (fun q => Env.get q 11) he20
                  simp only [go_sem, Nat.reduceEqDiff, reduceIte, f11_18] at f11_20
                  have f13_20 := congrArg (fun q => Env.get q 13) he20
                  simp only [go_sem, Nat.reduceEqDiff, reduceIte, f13_18] at f13_20
                  have f14_20 := congrArg (fun q => Env.get q 14) he20
                  simp only [go_sem, Nat.reduceEqDiff, reduceIte, f14_18] at f14_20
                  have f15_20 := congrArg (fun q => Env.get q 15) he20
                  simp only [go_sem, Nat.reduceEqDiff, reduceIte] at f15_20
                  clear he20 f4_18 f5_18 f7_18 f8_18 f10_18 f11_18 f13_18 f14_18 f107_18
                  refine W.thenN ?_
                  refine W.seq ?_
                  refine W.seq ?_
                  refine W.region (fun K hK => ?_)
                  simp (config := { maxSteps := 10000000 }) only [go_sem, ↓forkQ_true, ↓forkQ_false, ↓guardQ_some, ↓resQ_val, ↓resQ_unit, ↓resQ_enter, ↓retQ_some, ↓resFQ_val, ↓resFQ_unit, ↓resFQ_enter, ↓retFQ_some, Nat.reduceEqDiff, reduceIte, Nat.reduceAdd, Nat.reduceMul, Nat.reduceSub, reduceCtorEq, Nat.reduceLeDiff, f4_20, f5_20, f7_20, f8_20, f10_20, f11_20, f13_20, f14_20, f15_20, cut5, t12, t16, t23, t25, t26, t27, cfT_at, g0, q25, q1, q2, qa, qb, w5, sa, sb, n1, n2, n3, b1, b2, b3, v7, v8, v10, v11, u13, u14, qc, r1, r2, r3, r4, p1, p2, p3, p4]
                  refine hK _ _ ?_
                  clear hK K
                  refine W.forget (fun e21 he21 => ?_)
                  have f4_21 := congrArg (fun q => Env.get q 4) he21
                  simp only [go_sem, Nat.reduceEqDiff, reduceIte, f4_20] at f4_21
                  have f5_21 := congrArg (fun q => Env.get q 5) he21
                  simp only [go_sem, Nat.reduceEqDiff, reduceIte, f5_20] at f5_21
                  have f7_21 := congrArg (fun q => Env.get q 7) he21
                  simp only [go_sem, Nat.reduceEqDiff, reduceIte, f7_20] at f7_21
                  have f8_21 := congrArg (fun q => Env.get q 8) he21
                  simp only [go_sem, Nat.reduceEqDiff, reduceIte, f8_20] at f8_21
                  have f10_21 := congrArg (fun q => Env.get q 10) he21
                  simp only [go_sem, Nat.reduceEqDiff, reduceIte, f10_20] at f10_21
                  have f11_21 := congrArg (fun q => Env.get q 11) he21
                  simp only [go_sem, Nat.reduceEqDiff, reduceIte, f11_20] at f11_21
                  have f13_21 := congrArg (fun q => Env.get q 13) he21
                  simp only [go_sem, Nat.reduceEqDiff, reduceIte, f13_20] at f13_21
                  have f14_21 := congrArg (fun q => Env.get q 14) he21
                  simp only [go_sem, Nat.reduceEqDiff, reduceIte, f14_20] at f14_21
                  have f15_21 := congrArg (fun q => Env.get q 15) he21
                  simp only [go_sem, Nat.reduceEqDiff, reduceIte, f15_20] at f15_21
                  have f16_21 := congrArg (fun q => Env.get q 16) he21
                  simp only [go_sem, Nat.reduceEqDiff, reduceIte] at f16_21
                  clear he21 f4_20 f5_20 f7_20 f8_20 f10_20 f11_20 f13_20 f14_20 f15_20
                  refine W.thenN ?_
                  refine W.block ?_
                  refine wq_rounds (fun s : Nat × Bool => L.length - s.1) (fun s => I6 L a c k3.next (k3.next + 1) k4.next (k4.next + 1) k5.next (k5.next + 1) k6 s.1 s.2) ?_ (0, true) _ _ ?_
                  · intro ⟨i, b⟩ e22 k7 hi7
                    replace hi7 : I6 L a c k3.next (k3.next + 1) k4.next (k4.next + 1) k5.next (k5.next + 1) k6 i b _ k7 := hi7
                    have hh7 := hi7.hh.symm
                    subst hh7
                    have f5_22 := hi7.e5
                    have f7_22 := hi7.e7
                    have f8_22 := hi7.e8
                    have f10_22 := hi7.e10
                    have f11_22 := hi7.e11
                    have f13_22 := hi7.e13
                    have f14_22 := hi7.e14
                    have f15_22 := hi7.e15
                    have f16_22 := hi7.e16
                    have hle := hi7.le
                    have hadd : wrapF .i64 ((i : Int) + 1) = ((i + 1 : Nat) : Int) := by rw [w64_in _ (by omega)]; omega
                    refine W.seq ?_
                    refine W.seq ?_
                    refine W.region (fun K hK => ?_)
                    simp (config := { maxSteps := 10000000 }) only [go_sem, ↓forkQ_true, ↓forkQ_false, ↓guardQ_some, ↓resQ_val, ↓resQ_unit, ↓resQ_enter, ↓retQ_some, ↓resFQ_val, ↓resFQ_unit, ↓resFQ_enter, ↓retFQ_some, Nat.reduceEqDiff, reduceIte, Nat.reduceAdd, Nat.reduceMul, Nat.reduceSub, reduceCtorEq, Nat.reduceLeDiff, f5_22, f7_22, f8_22, f10_22, f11_22, f13_22, f14_22, f15_22, f16_22, cut5, t12, t16, t23, t25, t26, t27, cfT_at, hadd]
                    refine hK _ _ ?_
                    clear hK K
                    refine W.forget (fun e23 he23 => ?_)
                    have f5_23 := congrArg (fun q => Env.get q 5) he23
                    simp only [go_sem, Nat.reduceEqDiff, reduceIte, f5_22] at f5_23
                    have f7_23 := congrArg (fun q => Env.get q 7) he23
                    simp only [go_sem, Nat.reduceEqDiff, reduceIte, f7_22] at f7_23
                    have f8_23 := congrArg (fun q => Env.get q 8) he23
                    simp only [go_sem, Nat.reduceEqDiff, reduceIte, f8_22] at f8_23
                    have f10_23 := congrArg (fun q => Env.get q 10) he23
                    simp only [go_sem, Nat.reduceEqDiff, reduceIte, f10_22] at f10_23
                    have f11_23 := congrArg (fun q => Env.get q 11) he23
                    simp only [go_sem, Nat.reduceEqDiff, reduceIte, f11_22] at f11_23
                    have f13_23 := congrArg (fun q => Env.get q 13) he23
                    simp only [go_sem, Nat.reduceEqDiff, reduceIte, f13_22] at f13_23
                    have f14_23 := congrArg (fun q => Env.get q 14) he23
                    simp only [go_sem, Nat.reduceEqDiff, reduceIte, f14_22] at f14_23
                    have f15_23 := congrArg (fun q => Env.get q 15) he23
                    simp only [go_sem, Nat.reduceEqDiff, reduceIte, f15_22] at f15_23
                    have f16_23 := congrArg (fun q => Env.get q 16) he23
                    simp only [go_sem, Nat.reduceEqDiff, reduceIte, f16_22] at f16_23
                    have f111_23 := congrArg (fun q => Env.get q 111) he23
                    simp only [go_sem, Nat.reduceEqDiff, reduceIte] at f111_23
                    clear he23 f5_22 f7_22 f8_22 f10_22 f11_22 f13_22 f14_22 f15_22 f16_22
                    refine W.thenN ?_
                    refine W.cond f111_23 (fun hc24 => ?_) (fun hc24 => ?_)
                    · first
                      | (cases hc24; done)
                      | (exfalso; simp only [decide_eq_true_eq, decide_eq_false_iff_not, Bool.not_eq_true', Bool.not_eq_false', Bool.not_eq_eq_eq_not, Bool.not_true, Bool.not_false] at hc24; omega)
                      | (skip
                         try simp only [decide_eq_true_eq, decide_eq_false_iff_not, Bool.not_eq_true', Bool.not_eq_false', Bool.not_eq_eq_eq_not, Bool.not_true, Bool.not_false] at hc24
                         refine W.skip ?_
                         refine W.thenN ?_
                         refine W.seq ?_
                         refine W.block ?_
                         cases b
                         · skip
                           have hlt : i < L.length := by omega
                           refine W.drawA dr6_13 (fun A hA K hK => ?_)
                           have gd1 := guardAt hA (j := 1) (d := 115) rfl
                           clear hA
                           simp (config := { maxSteps := 10000000 }) only [go_sem, ↓forkQ_true, ↓forkQ_false, ↓guardQ_some, ↓resQ_val, ↓resQ_unit, ↓resQ_enter, ↓retQ_some, ↓resFQ_val, ↓resFQ_unit, ↓resFQ_enter, ↓retFQ_some, Nat.reduceEqDiff, reduceIte, Nat.reduceAdd, Nat.reduceMul, Nat.reduceSub, reduceCtorEq, Nat.reduceLeDiff, f5_23, f7_23, f8_23, f10_23, f11_23, f13_23, f14_23, f15_23, f16_23, f111_23, cut5, t12, t16, t23, t25, t26, t27, cfT_at, hadd, gd1]
                           repeat' (first | (refine W.forkP (fun hc25 => ?_) (fun hc25 => ?_) <;> simp (config := { maxSteps := 10000000 }) only [go_sem, ↓forkQ_true, ↓forkQ_false, ↓guardQ_some, ↓resQ_val, ↓resQ_unit, ↓resQ_enter, ↓retQ_some, ↓resFQ_val, ↓resFQ_unit, ↓resFQ_enter, ↓retFQ_some, Nat.reduceEqDiff, reduceIte, Nat.reduceAdd, Nat.reduceMul, Nat.reduceSub, reduceCtorEq, Nat.reduceLeDiff, f5_23, f7_23, f8_23, f10_23, f11_23, f13_23, f14_23, f15_23, f16_23, f111_23, cut5, t12, t16, t23, t25, t26, t27, cfT_at, hadd, gd1, hc25]) | (refine W.fork (fun hc25 => ?_) (fun hc25 => ?_) <;> simp (config := { maxSteps := 10000000 }) only [go_sem, ↓forkQ_true, ↓forkQ_false, ↓guardQ_some, ↓resQ_val, ↓resQ_unit, ↓resQ_enter, ↓retQ_some, ↓resFQ_val, ↓resFQ_unit, ↓resFQ_enter, ↓retFQ_some, Nat.reduceEqDiff, reduceIte, Nat.reduceAdd, Nat.reduceMul, Nat.reduceSub, reduceCtorEq, Nat.reduceLeDiff, f5_23, f7_23, f8_23, f10_23, f11_23, f13_23, f14_23, f15_23, f16_23, f111_23, cut5, t12, t16, t23, t25, t26, t27, cfT_at, hadd, gd1, hc25]))
                           all_goals
                             refine hK _ _ ?_
                             clear hK K A gd1
                             refine W.forget (fun e25 he25 => ?_)
                             have f5_25 := congrArg (fun q => Env.get q 5) he25
                             simp only [go_sem, Nat.reduceEqDiff, reduceIte, f5_23] at f5_25
                             have f7_25 := congrArg (fun q => Env.get q 7) he25
                             simp only [go_sem, Nat.reduceEqDiff, reduceIte, f7_23] at f7_25
                             have f8_25 := congrArg (fun q => Env.get q 8) he25
                             simp only [go_sem, Nat.reduceEqDiff, reduceIte, f8_23] at f8_25
                             have f10_25 := congrArg (fun q => Env.get q 10) he25
                             simp only [go_sem, Nat.reduceEqDiff, reduceIte, f10_23] at f10_25
                             have f11_25 := congrArg (fun q => Env.get q 11) he25
                             simp only [go_sem, Nat.reduceEqDiff, reduceIte, f11_23] at f11_25
                             have f13_25 := congrArg (fun q => Env.get q 13) he25
                             simp only [go_sem, Nat.reduceEqDiff, reduceIte, f13_23] at f13_25
                             have f14_25 := congrArg (fun q => Env.get q 14) he25
                             simp only [go_sem, Nat.reduceEqDiff, reduceIte, f14_23] at f14_25
                             have f15_25 := congrArg (fun q => Env.get q 15) he25
                             simp only [go_sem, Nat.reduceEqDiff, reduceIte, f15_23] at f15_25
                             have f16_25 := congrArg (fun q => Env.get q 16) he25
                             simp only [go_sem, Nat.reduceEqDiff, reduceIte, f16_23] at f16_25
                             clear he25 f5_23 f7_23 f8_23 f10_23 f11_23 f13_23 f14_23 f15_23 f16_23 f111_23
                             refine W.blockN ?_
                             refine W.thenN ?_
                             refine W.region (fun K hK => ?_)
                             simp (config := { maxSteps := 10000000 }) only [go_sem, ↓forkQ_true, ↓forkQ_false, ↓guardQ_some, ↓resQ_val, ↓resQ_unit, ↓resQ_enter, ↓retQ_some, ↓resFQ_val, ↓resFQ_unit, ↓resFQ_enter, ↓retFQ_some, Nat.reduceEqDiff, reduceIte, Nat.reduceAdd, Nat.reduceMul, Nat.reduceSub, reduceCtorEq, Nat.reduceLeDiff, f5_25, f7_25, f8_25, f10_25, f11_25, f13_25, f14_25, f15_25, f16_25, cut5, t12, t16, t23, t25, t26, t27, cfT_at, hadd]
                             refine hK _ _ ?_
                             clear hK K
                             refine W.forget (fun e26 he26 => ?_)
                             have f5_26 := congrArg (fun q => Env.get q 5) he26
                             simp only [go_sem, Nat.reduceEqDiff, reduceIte, f5_25] at f5_26
                             have f7_26 := congrArg (fun q => Env.get q 7) he26
                             simp only [go_sem, Nat.reduceEqDiff, reduceIte, f7_25] at f7_26
                             have f8_26 := congrArg (fun q => Env.get q 8) he26
                             simp only [go_sem, Nat.reduceEqDiff, reduceIte, f8_25] at f8_26
                             have f10_26 := congrArg (fun q => Env.get q 10) he26
                             simp only [go_sem, Nat.reduceEqDiff, reduceIte, f10_25] at f10_26
                             have f11_26 := congrArg (fun q => Env.get q 11) he26
                             simp only [go_sem, Nat.reduceEqDiff, reduceIte, f11_25] at f11_26
                             have f13_26 := congrArg (fun q => Env.get q 13) he26
                             simp only [go_sem, Nat.reduceEqDiff, reduceIte, f13_25] at f13_26
                             have f14_26 := congrArg (fun q => Env.get q 14) he26
                             simp only [go_sem, Nat.reduceEqDiff, reduceIte, f14_25] at f14_26
                             have f15_26 := congrArg (fun q => Env.get q 15) he26
                             simp only [go_sem, Nat.reduceEqDiff, reduceIte, f15_25] at f15_26
                             have f16_26 := congrArg (fun q => Env.get q 16) he26
                             simp only [go_sem, Nat.reduceEqDiff, reduceIte, f16_25] at f16_26
                             clear he26 f5_25 f7_25 f8_25 f10_25 f11_25 f13_25 f14_25 f15_25 f16_25
                             refine W.thenN ?_
                             first
                               | exact ⟨(i + 1, false), by dsimp only; omega, ⟨rfl, f5_26, f7_26, f8_26, f10_26, f11_26, f13_26, f14_26, f15_26, f16_26, by dsimp only; omega, fun h => by cases h⟩⟩
                               | exact ⟨(i + 1, decide ((gt L i).lo = (gt L i).hi)), by dsimp only; omega, ⟨rfl, f5_26, f7_26, f8_26, f10_26, f11_26, f13_26, f14_26, f15_26, f16_26, by dsimp only; omega, fun h j hj => by
      have hj2 : j < i + 1 := hj
      have h3 := of_decide_eq_true h
      by_cases hji : j < i
      · exact hi7.ex rfl j hji
      · obtain rfl : j = i := by omega
        exact h3⟩⟩
                         · skip
                           have hlt : i < L.length := by omega
                           obtain ⟨b0, blk, ext, rfl, hb0, hcs, hbl⟩ := ga6 (ne_of_lt hlt)
                           have irk := inRange_nat hlt
                           have cl := gcell1 (ext := ext) hlt
                           have ch := gcell2 (ext := ext) hlt
                           refine W.drawA dr6_13 (fun A hA K hK => ?_)
                           have gd1 := guardAt hA (j := 1) (d := 115) rfl
                           clear hA
                           simp (config := { maxSteps := 10000000 }) only [go_sem, ↓forkQ_true, ↓forkQ_false, ↓guardQ_some, ↓resQ_val, ↓resQ_unit, ↓resQ_enter, ↓retQ_some, ↓resFQ_val, ↓resFQ_unit, ↓resFQ_enter, ↓retFQ_some, Nat.reduceEqDiff, reduceIte, Nat.reduceAdd, Nat.reduceMul, Nat.reduceSub, reduceCtorEq, Nat.reduceLeDiff, f5_23, f7_23, f8_23, f10_23, f11_23, f13_23, f14_23, f15_23, f16_23, f111_23, cut5, t12, t16, t23, t25, t26, t27, cfT_at, hadd, hb0, hcs, irk, cl, ch, gd1]
                           repeat' (first | (refine W.forkP (fun hc27 => ?_) (fun hc27 => ?_) <;> simp (config := { maxSteps := 10000000 }) only [go_sem, ↓forkQ_true, ↓forkQ_false, ↓guardQ_some, ↓resQ_val, ↓resQ_unit, ↓resQ_enter, ↓retQ_some, ↓resFQ_val, ↓resFQ_unit, ↓resFQ_enter, ↓retFQ_some, Nat.reduceEqDiff, reduceIte, Nat.reduceAdd, Nat.reduceMul, Nat.reduceSub, reduceCtorEq, Nat.reduceLeDiff, f5_23, f7_23, f8_23, f10_23, f11_23, f13_23, f14_23, f15_23, f16_23, f111_23, cut5, t12, t16, t23, t25, t26, t27, cfT_at, hadd, hb0, hcs, irk, cl, ch, gd1, hc27]) | (refine W.fork (fun hc27 => ?_) (fun hc27 => ?_) <;> simp (config := { maxSteps := 10000000 }) only [go_sem, ↓forkQ_true, ↓forkQ_false, ↓guardQ_some, ↓resQ_val, ↓resQ_unit, ↓resQ_enter, ↓retQ_some, ↓resFQ_val, ↓resFQ_unit, ↓resFQ_enter, ↓retFQ_some, Nat.reduceEqDiff, reduceIte, Nat.reduceAdd, Nat.reduceMul, Nat.reduceSub, reduceCtorEq, Nat.reduceLeDiff, f5_23, f7_23, f8_23, f10_23, f11_23, f13_23, f14_23, f15_23, f16_23, f111_23, cut5, t12, t16, t23, t25, t26, t27, cfT_at, hadd, hb0, hcs, irk, cl, ch, gd1, hc27]))
                           all_goals
                             refine hK _ _ ?_
                             clear hK K A gd1
                             refine W.forget (fun e27 he27 => ?_)
                             have f5_27 := congrArg (fun q => Env.get q 5) he27
                             simp only [go_sem, Nat.reduceEqDiff, reduceIte, f5_23] at f5_27
                             have f7_27 := congrArg (fun q => Env.get q 7) he27
                             simp only [go_sem, Nat.reduceEqDiff, reduceIte, f7_23] at f7_27
                             have f8_27 := congrArg (fun q => Env.get q 8) he27
                             simp only [go_sem, Nat.reduceEqDiff, reduceIte, f8_23] at f8_27
                             have f10_27 := congrArg (fun q => Env.get q 10) he27
                             simp only [go_sem, Nat.reduceEqDiff, reduceIte, f10_23] at f10_27
                             have f11_27 := congrArg (fun q => Env.get q 11) he27
                             simp only [go_sem, Nat.reduceEqDiff, reduceIte, f11_23] at f11_27
                             have f13_27 := congrArg (fun q => Env.get q 13) he27
                             simp only [go_sem, Nat.reduceEqDiff, reduceIte, f13_23] at f13_27
                             have f14_27 := congrArg (fun q => Env.get q 14) he27
                             simp only [go_sem, Nat.reduceEqDiff, reduceIte, f14_23] at f14_27
                             have f15_27 := congrArg (fun q => Env.get q 15) he27
                             simp only [go_sem, Nat.reduceEqDiff, reduceIte, f15_23] at f15_27
                             have f16_27 := congrArg (fun q => Env.get q 16) he27
                             simp only [go_sem, Nat.reduceEqDiff, reduceIte, f16_23] at f16_27
                             clear he27 f5_23 f7_23 f8_23 f10_23 f11_23 f13_23 f14_23 f15_23 f16_23 f111_23
                             refine W.blockN ?_
                             refine W.thenN ?_
                             refine W.region (fun K hK => ?_)
                             simp (config := { maxSteps := 10000000 }) only [go_sem, ↓forkQ_true, ↓forkQ_false, ↓guardQ_some, ↓resQ_val, ↓resQ_unit, ↓resQ_enter, ↓retQ_some, ↓resFQ_val, ↓resFQ_unit, ↓resFQ_enter, ↓retFQ_some, Nat.reduceEqDiff, reduceIte, Nat.reduceAdd, Nat.reduceMul, Nat.reduceSub, reduceCtorEq, Nat.reduceLeDiff, f5_27, f7_27, f8_27, f10_27, f11_27, f13_27, f14_27, f15_27, f16_27, cut5, t12, t16, t23, t25, t26, t27, cfT_at, hadd, hb0, hcs, irk, cl, ch]
                             refine hK _ _ ?_
                             clear hK K
                             refine W.forget (fun e28 he28 => ?_)
                             have f5_28 := congrArg (fun q => Env.get q 5) he28
                             simp only [go_sem, Nat.reduceEqDiff, reduceIte, f5_27] at f5_28
                             have f7_28 := congrArg (fun q => Env.get q 7) he28
                             simp only [go_sem, Nat.reduceEqDiff, reduceIte, f7_27] at f7_28
                             have f8_28 := congrArg (fun q => Env.get q 8) he28
                             simp only [go_sem, Nat.reduceEqDiff, reduceIte, f8_27] at f8_28
                             have f10_28 := congrArg (fun q => Env.get q 10) he28
                             simp only [go_sem, Nat.reduceEqDiff, reduceIte, f10_27] at f10_28
                             have f11_28 := congrArg (fun q => Env.get q 11) he28
                             simp only [go_sem, Nat.reduceEqDiff, reduceIte, f11_27] at f11_28
                             have f13_28 := congrArg (fun q => Env.get q 13) he28
                             simp only [go_sem, Nat.reduceEqDiff, reduceIte, f13_27] at f13_28
                             have f14_28 := congrArg (fun q => Env.get q 14) he28
                             simp only [go_sem, Nat.reduceEqDiff, reduceIte, f14_27] at f14_28
                             have f15_28 := congrArg (fun q => Env.get q 15) he28
                             simp only [go_sem, Nat.reduceEqDiff, reduceIte, f15_27] at f15_28
                             have f16_28 := congrArg (fun q => Env.get q 16) he28
                             simp only [go_sem, Nat.reduceEqDiff, reduceIte, f16_27] at f16_28
                             clear he28 f5_27 f7_27 f8_27 f10_27 f11_27 f13_27 f14_27 f15_27 f16_27
                             refine W.thenN ?_
                             first
                               | exact ⟨(i + 1, false), by dsimp only; omega, ⟨rfl, f5_28, f7_28, f8_28, f10_28, f11_28, f13_28, f14_28, f15_28, f16_28, by dsimp only; omega, fun h => by cases h⟩⟩
                               | exact ⟨(i + 1, decide ((gt L i).lo = (gt L i).hi)), by dsimp only; omega, ⟨rfl, f5_28, f7_28, f8_28, f10_28, f11_28, f13_28, f14_28, f15_28, f16_28, by dsimp only; omega, fun h j hj => by
      have hj2 : j < i + 1 := hj
      have h3 := of_decide_eq_true h
      by_cases hji : j < i
      · exact hi7.ex rfl j hji
      · obtain rfl : j = i := by omega
        exact h3⟩⟩)
                    · first
                      | (cases hc24; done)
                      | (exfalso; simp only [decide_eq_true_eq, decide_eq_false_iff_not, Bool.not_eq_true', Bool.not_eq_false', Bool.not_eq_eq_eq_not, Bool.not_true, Bool.not_false] at hc24; omega)
                      | (skip
                         try simp only [decide_eq_true_eq, decide_eq_false_iff_not, Bool.not_eq_true', Bool.not_eq_false', Bool.not_eq_eq_eq_not, Bool.not_true, Bool.not_false] at hc24
                         refine W.exit ?_
                         refine W.thenE ?_
                         refine W.thenE ?_
                         refine W.blockE ?_
                         refine W.thenN ?_
                         refine W.seq ?_
                         cases b
                         · skip
                           refine W.regionA (fun A hA K hK => ?_)
                           have gd2 := guardAt hA (j := 2) (d := 130) rfl
                           have gd6 := guardAt hA (j := 6) (d := 134) rfl
                           have gd11 := guardAt hA (j := 11) (d := 139) rfl
                           have gd16 := guardAt hA (j := 16) (d := 144) rfl
                           have gd22 := guardAt hA (j := 22) (d := 150) rfl
                           clear hA
                           simp (config := { maxSteps := 10000000 }) only [go_sem, ↓forkQ_true, ↓forkQ_false, ↓guardQ_some, ↓resQ_val, ↓resQ_unit, ↓resQ_enter, ↓retQ_some, ↓resFQ_val, ↓resFQ_unit, ↓resFQ_enter, ↓retFQ_some, Nat.reduceEqDiff, reduceIte, Nat.reduceAdd, Nat.reduceMul, Nat.reduceSub, reduceCtorEq, Nat.reduceLeDiff, f5_23, f7_23, f8_23, f10_23, f11_23, f13_23, f14_23, f15_23, f16_23, f111_23, cut5, t12, t16, t23, t25, t26, t27, cfT_at, gd2, gd6, gd11, gd16, gd22]
                           repeat' (first | (refine W.forkP (fun hc29 => ?_) (fun hc29 => ?_) <;> simp (config := { maxSteps := 10000000 }) only [go_sem, ↓forkQ_true, ↓forkQ_false, ↓guardQ_some, ↓resQ_val, ↓resQ_unit, ↓resQ_enter, ↓retQ_some, ↓resFQ_val, ↓resFQ_unit, ↓resFQ_enter, ↓retFQ_some, Nat.reduceEqDiff, reduceIte, Nat.reduceAdd, Nat.reduceMul, Nat.reduceSub, reduceCtorEq, Nat.reduceLeDiff, f5_23, f7_23, f8_23, f10_23, f11_23, f13_23, f14_23, f15_23, f16_23, f111_23, cut5, t12, t16, t23, t25, t26, t27, cfT_at, gd2, gd6, gd11, gd16, gd22, hc29]) | (refine W.fork (fun hc29 => ?_) (fun hc29 => ?_) <;> simp (config := { maxSteps := 10000000 }) only [go_sem, ↓forkQ_true, ↓forkQ_false, ↓guardQ_some, ↓resQ_val, ↓resQ_unit, ↓resQ_enter, ↓retQ_some, ↓resFQ_val, ↓resFQ_unit, ↓resFQ_enter, ↓retFQ_some, Nat.reduceEqDiff, reduceIte, Nat.reduceAdd, Nat.reduceMul, Nat.reduceSub, reduceCtorEq, Nat.reduceLeDiff, f5_23, f7_23, f8_23, f10_23, f11_23, f13_23, f14_23, f15_23, f16_23, f111_23, cut5, t12, t16, t23, t25, t26, t27, cfT_at, gd2, gd6, gd11, gd16, gd22, hc29]))
                           all_goals
                             refine hK _ _ ?_
                             clear hK K A gd2 gd6 gd11 gd16 gd22
                             refine W.forget (fun e29 he29 => ?_)
                             have f4_29 := congrArg (fun q => Env.get q 4) he29
                             simp only [go_sem, Nat.reduceEqDiff, reduceIte] at f4_29
                             clear he29 f5_23 f7_23 f8_23 f10_23 f11_23 f13_23 f14_23 f15_23 f16_23 f111_23
                             refine W.thenN ?_
                             refine W.ret ?_
                             rw [doneQ_ret]
                             exact ⟨[.bool true], by simp only [go_sem, ↓forkQ_true, ↓forkQ_false, ↓guardQ_some, ↓resQ_val, ↓resQ_unit, ↓resQ_enter, ↓retQ_some, ↓resFQ_val, ↓resFQ_unit, ↓resFQ_enter, ↓retFQ_some, Nat.reduceEqDiff, reduceIte, Nat.reduceAdd, Nat.reduceMul, Nat.reduceSub, reduceCtorEq, Nat.reduceLeDiff, f4_29], rfl⟩
                         · skip
                           obtain rfl : i = L.length := by omega
                           have hex := hi7.ex rfl
                           obtain ⟨eg1, eg2⟩ := exact_great o h2 on hB' hex
                           have eh := exact_high o h2 on hx hv hex
                           have el := exact_lowB o h2 on hx hv hex
                           rw [eg2] at v7
                           rw [eg1] at v8
                           rw [el] at v10
                           rw [eh] at v11
                           dsimp only at v7 v8 v10 v11
                           rw [Int.neg_neg] at v10
                           refine W.regionA (fun A hA K hK => ?_)
                           have gd2 := guardAt hA (j := 2) (d := 130) rfl
                           have gd6 := guardAt hA (j := 6) (d := 134) rfl
                           have gd11 := guardAt hA (j := 11) (d := 139) rfl
                           have gd16 := guardAt hA (j := 16) (d := 144) rfl
                           have gd22 := guardAt hA (j := 22) (d := 150) rfl
                           clear hA
                           simp (config := { maxSteps := 10000000 }) only [go_sem, ↓forkQ_true, ↓forkQ_false, ↓guardQ_some, ↓resQ_val, ↓resQ_unit, ↓resQ_enter, ↓retQ_some, ↓resFQ_val, ↓resFQ_unit, ↓resFQ_enter, ↓retFQ_some, Nat.reduceEqDiff, reduceIte, Nat.reduceAdd, Nat.reduceMul, Nat.reduceSub, reduceCtorEq, Nat.reduceLeDiff, f5_23, f7_23, f8_23, f10_23, f11_23, f13_23, f14_23, f15_23, f16_23, f111_23, cut5, t12, t16, t23, t25, t26, t27, cfT_at, v7, v8, v10, v11, u13, u14, gd2, gd6, gd11, gd16, gd22]
                           repeat' (first | (refine W.forkP (fun hc30 => ?_) (fun hc30 => ?_) <;> simp (config := { maxSteps := 10000000 }) only [go_sem, ↓forkQ_true, ↓forkQ_false, ↓guardQ_some, ↓resQ_val, ↓resQ_unit, ↓resQ_enter, ↓retQ_some, ↓resFQ_val, ↓resFQ_unit, ↓resFQ_enter, ↓retFQ_some, Nat.reduceEqDiff, reduceIte, Nat.reduceAdd, Nat.reduceMul, Nat.reduceSub, reduceCtorEq, Nat.reduceLeDiff, f5_23, f7_23, f8_23, f10_23, f11_23, f13_23, f14_23, f15_23, f16_23, f111_23, cut5, t12, t16, t23, t25, t26, t27, cfT_at, v7, v8, v10, v11, u13, u14, gd2, gd6, gd11, gd16, gd22, hc30]) | (refine W.fork (fun hc30 => ?_) (fun hc30 => ?_) <;> simp (config := { maxSteps := 10000000 }) only [go_sem, ↓forkQ_true, ↓forkQ_false, ↓guardQ_some, ↓resQ_val, ↓resQ_unit, ↓resQ_enter, ↓retQ_some, ↓resFQ_val, ↓resFQ_unit, ↓resFQ_enter, ↓retFQ_some, Nat.reduceEqDiff, reduceIte, Nat.reduceAdd, Nat.reduceMul, Nat.reduceSub, reduceCtorEq, Nat.reduceLeDiff, f5_23, f7_23, f8_23, f10_23, f11_23, f13_23, f14_23, f15_23, f16_23, f111_23, cut5, t12, t16, t23, t25, t26, t27, cfT_at, v7, v8, v10, v11, u13, u14, gd2, gd6, gd11, gd16, gd22, hc30]))
                           all_goals
                             refine hK _ _ ?_
                             clear hK K A gd2 gd6 gd11 gd16 gd22
                             refine W.forget (fun e30 he30 => ?_)
                             have f4_30 := congrArg (fun q => Env.get q 4) he30
                             simp only [go_sem, Nat.reduceEqDiff, reduceIte] at f4_30
                             clear he30 f5_23 f7_23 f8_23 f10_23 f11_23 f13_23 f14_23 f15_23 f16_23 f111_23
                             refine W.thenN ?_
                             refine W.ret ?_
                             rw [doneQ_ret]
                             exact ⟨[.bool true], by simp only [go_sem, ↓forkQ_true, ↓forkQ_false, ↓guardQ_some, ↓resQ_val, ↓resQ_unit, ↓resQ_enter, ↓retQ_some, ↓resFQ_val, ↓resFQ_unit, ↓resFQ_enter, ↓retFQ_some, Nat.reduceEqDiff, reduceIte, Nat.reduceAdd, Nat.reduceMul, Nat.reduceSub, reduceCtorEq, Nat.reduceLeDiff, f4_30], rfl⟩)
                  · exact ⟨rfl, f5_21, f7_21, f8_21, f10_21, f11_21, f13_21, f14_21, f15_21, f16_21, Nat.zero_le _, fun _ j hj => by omega⟩))
end Go.Proofs.Ytlblocieleildaa
