/- What gates of a line gives. -/
import Derived.Test.YtlblocieleildaaSk9
import Derived.Test.YtlblocieleildaaAm33
set_option linter.unusedSimpArgs false
set_option linter.unusedVariables false
set_option maxRecDepth 20000
set_option maxHeartbeats 8000000
namespace Go.Proofs.Ytlblocieleildaa
open Go.Am

def linesL (Y0 B : Int) (xs bs us : List Int) : List Gt := (List.range xs.length).map fun i => ⟨nat xs i, Y0 + B * nat xs i - nat bs i, Y0 + B * nat xs i + nat us i⟩
theorem linesL_len (Y0 B : Int) (xs bs us : List Int) : (linesL Y0 B xs bs us).length = xs.length := by unfold linesL; rw [List.length_map, List.length_range]
theorem linesL_at (Y0 B : Int) (xs bs us : List Int) {i : Nat} (hi : i < xs.length) : gt (linesL Y0 B xs bs us) i = ⟨nat xs i, Y0 + B * nat xs i - nat bs i, Y0 + B * nat xs i + nat us i⟩ := by
  unfold gt linesL
  rw [List.getD_eq_getElem?_getD, List.getElem?_map, List.getElem?_range hi]
  rfl
/-- what is asked of the i-th gate of a line -/
structure ItemOk (xs bs us : List Int) (i : Nat) : Prop where
  x0 : 0 ≤ nat xs i
  x1 : nat xs i ≤ 100000
  inc : 0 < i → nat xs (i - 1) < nat xs i
  b0 : 0 ≤ nat bs i
  b1 : nat bs i ≤ 100000
  a0 : 0 ≤ nat us i
  a1 : nat us i ≤ 100000
structure HeadOk (Y0 B : Int) (xs bs us : List Int) : Prop where
  n0 : 2 ≤ xs.length
  n1 : xs.length ≤ 20
  nb : bs.length = xs.length
  na : us.length = xs.length
  a0 : -100000 ≤ Y0
  a1 : Y0 ≤ 100000
  b0 : -1000 ≤ B
  b1 : B ≤ 1000
def boxC (Y0 B : Int) (xs bs us : List Int) (ax ab aa : Option Addr) (cx cb ca : Nat) : List Value := [.int .i64 Y0, .int .i64 B, .slice ax xs.length cx, .slice ab bs.length cb, .slice aa us.length ca]
structure I25 (Y0 B : Int) (xs bs us : List Int) (ax ab aa : Option Addr) (cx cb ca : Nat) (h : Heap) (fl : Bool) (i : Nat) (ar : Option Addr) (e : Env) (h1 : Heap) : Prop where
  ex : Ext h h1
  nx : h.next + 1 ≤ h1.next
  g1 : h1.get h.next = some ⟨boxC Y0 B xs bs us ax ab aa cx cb ca, fl, false, none⟩
  e1 : e.get 1 = .pointer (some ⟨h.next, 0, none⟩)
  e4 : e.get 4 = .slice ar i i
  e5 : e.get 5 = .int .i64 (i : Int)
  le : i ≤ xs.length
  ol : OL h1 ar i 3 (gcells ((linesL Y0 B xs bs us).take i)) i (h.next + 1)
  ok : ∀ j, j < i → ItemOk xs bs us j
theorem item_split (xs bs us : List Int) (i : Nat) : (nat xs i < 0) ∨ (¬ nat xs i < 0 ∧ 100000 < nat xs i) ∨ (¬ nat xs i < 0 ∧ ¬ 100000 < nat xs i ∧ ¬ (0 : Int) < (i : Int) ∧ nat bs i < 0) ∨ (¬ nat xs i < 0 ∧ ¬ 100000 < nat xs i ∧ ¬ (0 : Int) < (i : Int) ∧ ¬ nat bs i < 0 ∧ 100000 < nat bs i) ∨ (¬ nat xs i < 0 ∧ ¬ 100000 < nat xs i ∧ ¬ (0 : Int) < (i : Int) ∧ ¬ nat bs i < 0 ∧ ¬ 100000 < nat bs i ∧ nat us i < 0) ∨ (¬ nat xs i < 0 ∧ ¬ 100000 < nat xs i ∧ ¬ (0 : Int) < (i : Int) ∧ ¬ nat bs i < 0 ∧ ¬ 100000 < nat bs i ∧ ¬ nat us i < 0 ∧ 100000 < nat us i) ∨ (¬ nat xs i < 0 ∧ ¬ 100000 < nat xs i ∧ ¬ (0 : Int) < (i : Int) ∧ ¬ nat bs i < 0 ∧ ¬ 100000 < nat bs i ∧ ¬ nat us i < 0 ∧ ¬ 100000 < nat us i) ∨ (¬ nat xs i < 0 ∧ ¬ 100000 < nat xs i ∧ (0 : Int) < (i : Int) ∧ nat xs i ≤ nat xs (i - 1)) ∨ (¬ nat xs i < 0 ∧ ¬ 100000 < nat xs i ∧ (0 : Int) < (i : Int) ∧ ¬ nat xs i ≤ nat xs (i - 1) ∧ nat bs i < 0) ∨ (¬ nat xs i < 0 ∧ ¬ 100000 < nat xs i ∧ (0 : Int) < (i : Int) ∧ ¬ nat xs i ≤ nat xs (i - 1) ∧ ¬ nat bs i < 0 ∧ 100000 < nat bs i) ∨ (¬ nat xs i < 0 ∧ ¬ 100000 < nat xs i ∧ (0 : Int) < (i : Int) ∧ ¬ nat xs i ≤ nat xs (i - 1) ∧ ¬ nat bs i < 0 ∧ ¬ 100000 < nat bs i ∧ nat us i < 0) ∨ (¬ nat xs i < 0 ∧ ¬ 100000 < nat xs i ∧ (0 : Int) < (i : Int) ∧ ¬ nat xs i ≤ nat xs (i - 1) ∧ ¬ nat bs i < 0 ∧ ¬ 100000 < nat bs i ∧ ¬ nat us i < 0 ∧ 100000 < nat us i) ∨ (¬ nat xs i < 0 ∧ ¬ 100000 < nat xs i ∧ (0 : Int) < (i : Int) ∧ ¬ nat xs i ≤ nat xs (i - 1) ∧ ¬ nat bs i < 0 ∧ ¬ 100000 < nat bs i ∧ ¬ nat us i < 0 ∧ ¬ 100000 < nat us i) := by
  by_cases h1 : nat xs i < 0
  · exact (Or.inl h1)
  by_cases h2 : 100000 < nat xs i
  · exact (Or.inr (Or.inl ⟨h1, h2⟩))
  by_cases h3 : (0 : Int) < (i : Int)
  rotate_left
  · skip
    by_cases h4 : nat bs i < 0
    · exact (Or.inr (Or.inr (Or.inl ⟨h1, h2, h3, h4⟩)))
    by_cases h5 : 100000 < nat bs i
    · exact (Or.inr (Or.inr (Or.inr (Or.inl ⟨h1, h2, h3, h4, h5⟩))))
    by_cases h6 : nat us i < 0
    · exact (Or.inr (Or.inr (Or.inr (Or.inr (Or.inl ⟨h1, h2, h3, h4, h5, h6⟩)))))
    by_cases h7 : 100000 < nat us i
    · exact (Or.inr (Or.inr (Or.inr (Or.inr (Or.inr (Or.inl ⟨h1, h2, h3, h4, h5, h6, h7⟩))))))
    exact (Or.inr (Or.inr (Or.inr (Or.inr (Or.inr (Or.inr (Or.inl ⟨h1, h2, h3, h4, h5, h6, h7⟩)))))))
  · skip
    by_cases h4 : nat xs i ≤ nat xs (i - 1)
    · exact (Or.inr (Or.inr (Or.inr (Or.inr (Or.inr (Or.inr (Or.inr (Or.inl ⟨h1, h2, h3, h4⟩))))))))
    by_cases h5 : nat bs i < 0
    · exact (Or.inr (Or.inr (Or.inr (Or.inr (Or.inr (Or.inr (Or.inr (Or.inr (Or.inl ⟨h1, h2, h3, h4, h5⟩)))))))))
    by_cases h6 : 100000 < nat bs i
    · exact (Or.inr (Or.inr (Or.inr (Or.inr (Or.inr (Or.inr (Or.inr (Or.inr (Or.inr (Or.inl ⟨h1, h2, h3, h4, h5, h6⟩))))))))))
    by_cases h7 : nat us i < 0
    · exact (Or.inr (Or.inr (Or.inr (Or.inr (Or.inr (Or.inr (Or.inr (Or.inr (Or.inr (Or.inr (Or.inl ⟨h1, h2, h3, h4, h5, h6, h7⟩)))))))))))
    by_cases h8 : 100000 < nat us i
    · exact (Or.inr (Or.inr (Or.inr (Or.inr (Or.inr (Or.inr (Or.inr (Or.inr (Or.inr (Or.inr (Or.inr (Or.inl ⟨h1, h2, h3, h4, h5, h6, h7, h8⟩))))))))))))
    exact (Or.inr (Or.inr (Or.inr (Or.inr (Or.inr (Or.inr (Or.inr (Or.inr (Or.inr (Or.inr (Or.inr (Or.inr ⟨h1, h2, h3, h4, h5, h6, h7, h8⟩))))))))))))
theorem c25 (Y0 B : Int) (xs bs us : List Int) (ax ab aa : Option Addr) (cx cb ca : Nat) (h : Heap) (hX : IA h xs ax) (hB : IA h bs ab) (hU : IA h us aa) :
    ∃ (b : Bool) (L : List Gt) (a' : Option Addr) (c' : Nat) (h' : Heap), callW Try.prog SkH 25 [.agg #[.int .i64 Y0, .int .i64 B, .slice ax xs.length cx, .slice ab bs.length cb, .slice aa us.length ca]] h = some (.tuple #[.slice a' L.length c', .bool b], h', true) ∧ Grow h h' ∧ GA h' L a' ∧
      (b = true → L = linesL Y0 B xs bs us ∧ HeadOk Y0 B xs bs us ∧ ∀ i, i < xs.length → ItemOk xs bs us i) := by
  obtain ⟨vs, h9, hR9, hc9⟩ := call_done (H := SkH) (rs := [.tmp 2, .tmp 3]) (R := fun vs h9 => h9.wr = h.next ∧ (vs = [.slice none 0 0, .bool false] ∨ (∃ a1, vs = [.slice a1 xs.length xs.length, .bool true] ∧ OL h9 a1 xs.length 3 (gcells (linesL Y0 B xs bs us)) xs.length h.next ∧ HeadOk Y0 B xs bs us ∧ ∀ i, i < xs.length → ItemOk xs bs us i))) (args := [.agg #[.int .i64 Y0, .int .i64 B, .slice ax xs.length cx, .slice ab bs.length cb, .slice aa us.length ca]]) (h := h) Try.func25 rfl rfl (by
    skip
    refine W.forget (fun e1 he1 => ?_)
    have f0_1 := congrArg (fun q => Env.get q 0) he1
    simp only [ofList_cons, ofList_nil, go_sem, Nat.reduceEqDiff, reduceIte] at f0_1
    clear he1
    refine W.seq ?_
    refine W.region (fun K hK => ?_)
    simp (config := { maxSteps := 10000000 }) only [go_sem, ↓forkQ_true, ↓forkQ_false, ↓guardQ_some, ↓resQ_val, ↓resQ_unit, ↓resQ_enter, ↓retQ_some, ↓resFQ_val, ↓resFQ_unit, ↓resFQ_enter, ↓retFQ_some, Nat.reduceEqDiff, reduceIte, Nat.reduceAdd, Nat.reduceMul, Nat.reduceSub, reduceCtorEq, Nat.reduceLeDiff, f0_1]
    refine hK _ _ ?_
    clear hK K
    refine W.forget (fun e2 he2 => ?_)
    refine W.forgetH (fun k0 hk2 => ?_)
    obtain ⟨fl, g0⟩ : ∃ fl, k0.get h.next = some ⟨boxC Y0 B xs bs us ax ab aa cx cb ca, fl, false, none⟩ := ⟨_, by rw [hk2]; exact Heap.get_alloc_same _ _⟩
    have ex0 : Ext h k0 := by rw [hk2]; exact (Ext.low h).alloc _
    have nx0 : h.next + 1 ≤ k0.next := by rw [hk2]; exact Nat.le_refl _
    have g0' := g0
    unfold boxC at g0'
    clear hk2
    have f1_2 := congrArg (fun q => Env.get q 1) he2
    simp only [go_sem, Nat.reduceEqDiff, reduceIte] at f1_2
    have f2_2 := congrArg (fun q => Env.get q 2) he2
    simp only [go_sem, Nat.reduceEqDiff, reduceIte] at f2_2
    have f3_2 := congrArg (fun q => Env.get q 3) he2
    simp only [go_sem, Nat.reduceEqDiff, reduceIte] at f3_2
    clear he2 f0_1
    refine W.thenN ?_
    refine W.seq ?_
    refine W.seq ?_
    refine W.regionA (fun A hA K hK => ?_)
    have gd4 := guardAt hA (j := 4) (d := 11) rfl
    have gd10 := guardAt hA (j := 10) (d := 17) rfl
    have gd19 := guardAt hA (j := 19) (d := 26) rfl
    have gd28 := guardAt hA (j := 28) (d := 35) rfl
    have gd33 := guardAt hA (j := 33) (d := 40) rfl
    have gd38 := guardAt hA (j := 38) (d := 45) rfl
    have gd43 := guardAt hA (j := 43) (d := 50) rfl
    clear hA
    simp (config := { maxSteps := 10000000 }) only [go_sem, ↓forkQ_true, ↓forkQ_false, ↓guardQ_some, ↓resQ_val, ↓resQ_unit, ↓resQ_enter, ↓retQ_some, ↓resFQ_val, ↓resFQ_unit, ↓resFQ_enter, ↓retFQ_some, Nat.reduceEqDiff, reduceIte, Nat.reduceAdd, Nat.reduceMul, Nat.reduceSub, reduceCtorEq, Nat.reduceLeDiff, f1_2, f2_2, f3_2, g0', gd4, gd10, gd19, gd28, gd33, gd38, gd43]
    repeat' (first | (refine W.forkP (fun hc3 => ?_) (fun hc3 => ?_) <;> simp (config := { maxSteps := 10000000 }) only [go_sem, ↓forkQ_true, ↓forkQ_false, ↓guardQ_some, ↓resQ_val, ↓resQ_unit, ↓resQ_enter, ↓retQ_some, ↓resFQ_val, ↓resFQ_unit, ↓resFQ_enter, ↓retFQ_some, Nat.reduceEqDiff, reduceIte, Nat.reduceAdd, Nat.reduceMul, Nat.reduceSub, reduceCtorEq, Nat.reduceLeDiff, f1_2, f2_2, f3_2, g0', gd4, gd10, gd19, gd28, gd33, gd38, gd43, hc3]) | (refine W.fork (fun hc3 => ?_) (fun hc3 => ?_) <;> simp (config := { maxSteps := 10000000 }) only [go_sem, ↓forkQ_true, ↓forkQ_false, ↓guardQ_some, ↓resQ_val, ↓resQ_unit, ↓resQ_enter, ↓retQ_some, ↓resFQ_val, ↓resFQ_unit, ↓resFQ_enter, ↓retFQ_some, Nat.reduceEqDiff, reduceIte, Nat.reduceAdd, Nat.reduceMul, Nat.reduceSub, reduceCtorEq, Nat.reduceLeDiff, f1_2, f2_2, f3_2, g0', gd4, gd10, gd19, gd28, gd33, gd38, gd43, hc3]))
    all_goals
      refine hK _ _ ?_
      clear hK K A gd4 gd10 gd19 gd28 gd33 gd38 gd43
      refine W.forget (fun e3 he3 => ?_)
      have f1_3 := congrArg (fun q => Env.get q 1) he3
      simp only [go_sem, Nat.reduceEqDiff, reduceIte, f1_2] at f1_3
      have f2_3 := congrArg (fun q => Env.get q 2) he3
      simp only [go_sem, Nat.reduceEqDiff, reduceIte, f2_2] at f2_3
      have f3_3 := congrArg (fun q => Env.get q 3) he3
      simp only [go_sem, Nat.reduceEqDiff, reduceIte, f3_2] at f3_3
      have f54_3 := congrArg (fun q => Env.get q 54) he3
      simp only [go_sem, Nat.reduceEqDiff, reduceIte] at f54_3
      clear he3 f1_2 f2_2 f3_2
      refine W.thenN ?_
      refine W.cond f54_3 (fun hc4 => ?_) (fun hc4 => ?_)
      · first
        | (cases hc4; done)
        | (exfalso; simp only [decide_eq_true_eq, decide_eq_false_iff_not, Bool.not_eq_true', Bool.not_eq_false', Bool.not_eq_eq_eq_not, Bool.not_true, Bool.not_false] at hc4; omega)
        | (skip
           try simp only [decide_eq_true_eq, decide_eq_false_iff_not, Bool.not_eq_true', Bool.not_eq_false', Bool.not_eq_eq_eq_not, Bool.not_true, Bool.not_false] at hc4
           refine W.seq ?_
           refine W.region (fun K hK => ?_)
           simp (config := { maxSteps := 10000000 }) only [go_sem, ↓forkQ_true, ↓forkQ_false, ↓guardQ_some, ↓resQ_val, ↓resQ_unit, ↓resQ_enter, ↓retQ_some, ↓resFQ_val, ↓resFQ_unit, ↓resFQ_enter, ↓retFQ_some, Nat.reduceEqDiff, reduceIte, Nat.reduceAdd, Nat.reduceMul, Nat.reduceSub, reduceCtorEq, Nat.reduceLeDiff, f1_3, f2_3, f3_3, f54_3, g0']
           refine hK _ _ ?_
           clear hK K
           refine W.forget (fun e5 he5 => ?_)
           have f1_5 := congrArg (fun q => Env.get q 1) he5
           simp only [go_sem, Nat.reduceEqDiff, reduceIte, f1_3] at f1_5
           have f2_5 := congrArg (fun q => Env.get q 2) he5
           simp only [go_sem, Nat.reduceEqDiff, reduceIte, f2_3] at f2_5
           have f3_5 := congrArg (fun q => Env.get q 3) he5
           simp only [go_sem, Nat.reduceEqDiff, reduceIte, f3_3] at f3_5
           clear he5 f1_3 f2_3 f3_3 f54_3
           refine W.thenN ?_
           refine W.ret ?_
           refine W.thenR ?_
           rw [doneQ_ret]
           first
             | (refine ⟨[.slice none 0 0, .bool false], ?_, ex0.wr, .inl rfl⟩; simp only [go_sem, ↓forkQ_true, ↓forkQ_false, ↓guardQ_some, ↓resQ_val, ↓resQ_unit, ↓resQ_enter, ↓retQ_some, ↓resFQ_val, ↓resFQ_unit, ↓resFQ_enter, ↓retFQ_some, Nat.reduceEqDiff, reduceIte, Nat.reduceAdd, Nat.reduceMul, Nat.reduceSub, reduceCtorEq, Nat.reduceLeDiff, f1_5, f2_5, f3_5]; done)
             | (refine ⟨[.slice none 0 0, .bool false], ?_, ex.wr, .inl rfl⟩; simp only [go_sem, ↓forkQ_true, ↓forkQ_false, ↓guardQ_some, ↓resQ_val, ↓resQ_unit, ↓resQ_enter, ↓retQ_some, ↓resFQ_val, ↓resFQ_unit, ↓resFQ_enter, ↓retFQ_some, Nat.reduceEqDiff, reduceIte, Nat.reduceAdd, Nat.reduceMul, Nat.reduceSub, reduceCtorEq, Nat.reduceLeDiff, f1_5, f2_5, f3_5]; done)
             | (obtain rfl : i = xs.length := by omega
                refine ⟨[.slice ar xs.length xs.length, .bool true], by simp only [go_sem, ↓forkQ_true, ↓forkQ_false, ↓guardQ_some, ↓resQ_val, ↓resQ_unit, ↓resQ_enter, ↓retQ_some, ↓resFQ_val, ↓resFQ_unit, ↓resFQ_enter, ↓retFQ_some, Nat.reduceEqDiff, reduceIte, Nat.reduceAdd, Nat.reduceMul, Nat.reduceSub, reduceCtorEq, Nat.reduceLeDiff, f1_5, f2_5, f3_5], ex.wr, .inr ⟨ar, rfl, ?_, hd, hi.ok⟩⟩
                have o9 := hi.ol.base (Nat.le_succ h.next)
                rw [List.take_of_length_le (by rw [linesL_len]; exact Nat.le_refl _)] at o9
                exact o9))
      · first
        | (cases hc4; done)
        | (exfalso; simp only [decide_eq_true_eq, decide_eq_false_iff_not, Bool.not_eq_true', Bool.not_eq_false', Bool.not_eq_eq_eq_not, Bool.not_true, Bool.not_false] at hc4; omega)
        | (skip
           try simp only [decide_eq_true_eq, decide_eq_false_iff_not, Bool.not_eq_true', Bool.not_eq_false', Bool.not_eq_eq_eq_not, Bool.not_true, Bool.not_false] at hc4
           refine W.skip ?_
           refine W.thenN ?_
           refine W.seq ?_
           refine W.region (fun K hK => ?_)
           have hd : HeadOk Y0 B xs bs us := ⟨by omega, by omega, by omega, by omega, by omega, by omega, by omega, by omega⟩
           simp (config := { maxSteps := 10000000 }) only [go_sem, ↓forkQ_true, ↓forkQ_false, ↓guardQ_some, ↓resQ_val, ↓resQ_unit, ↓resQ_enter, ↓retQ_some, ↓resFQ_val, ↓resFQ_unit, ↓resFQ_enter, ↓retFQ_some, Nat.reduceEqDiff, reduceIte, Nat.reduceAdd, Nat.reduceMul, Nat.reduceSub, reduceCtorEq, Nat.reduceLeDiff, f1_3, f2_3, f3_3, f54_3, g0']
           refine hK _ _ ?_
           clear hK K
           refine W.forget (fun e6 he6 => ?_)
           have f1_6 := congrArg (fun q => Env.get q 1) he6
           simp only [go_sem, Nat.reduceEqDiff, reduceIte, f1_3] at f1_6
           have f2_6 := congrArg (fun q => Env.get q 2) he6
           simp only [go_sem, Nat.reduceEqDiff, reduceIte, f2_3] at f2_6
           have f3_6 := congrArg (fun q => Env.get q 3) he6
           simp only [go_sem, Nat.reduceEqDiff, reduceIte, f3_3] at f3_6
           have f4_6 := congrArg (fun q => Env.get q 4) he6
           simp only [go_sem, Nat.reduceEqDiff, reduceIte] at f4_6
           clear he6 f1_3 f2_3 f3_3 f54_3
           refine W.thenN ?_
           refine W.seq ?_
           refine W.seq ?_
           refine W.region (fun K hK => ?_)
           simp (config := { maxSteps := 10000000 }) only [go_sem, ↓forkQ_true, ↓forkQ_false, ↓guardQ_some, ↓resQ_val, ↓resQ_unit, ↓resQ_enter, ↓retQ_some, ↓resFQ_val, ↓resFQ_unit, ↓resFQ_enter, ↓retFQ_some, Nat.reduceEqDiff, reduceIte, Nat.reduceAdd, Nat.reduceMul, Nat.reduceSub, reduceCtorEq, Nat.reduceLeDiff, f1_6, f2_6, f3_6, f4_6, g0']
           refine hK _ _ ?_
           clear hK K
           refine W.forget (fun e7 he7 => ?_)
           have f1_7 := congrArg (fun q => Env.get q 1) he7
           simp only [go_sem, Nat.reduceEqDiff, reduceIte, f1_6] at f1_7
           have f2_7 := congrArg (fun q => Env.get q 2) he7
           simp only [go_sem, Nat.reduceEqDiff, reduceIte, f2_6] at f2_7
           have f3_7 := congrArg (fun q => Env.get q 3) he7
           simp only [go_sem, Nat.reduceEqDiff, reduceIte, f3_6] at f3_7
           have f4_7 := congrArg (fun q => Env.get q 4) he7
           simp only [go_sem, Nat.reduceEqDiff, reduceIte, f4_6] at f4_7
           have f5_7 := congrArg (fun q => Env.get q 5) he7
           simp only [go_sem, Nat.reduceEqDiff, reduceIte] at f5_7
           clear he7 f1_6 f2_6 f3_6 f4_6
           refine W.thenN ?_
           refine W.block ?_
           refine wq_rounds (fun s : Nat × Option Addr => xs.length - s.1) (fun s => I25 Y0 B xs bs us ax ab aa cx cb ca h fl s.1 s.2) ?_ (0, none) _ _ ?_
           · intro ⟨i, ar⟩ e8 k1 hi
             replace hi : I25 Y0 B xs bs us ax ab aa cx cb ca h fl i ar _ k1 := hi
             have f1_8 := hi.e1
             have f4_8 := hi.e4
             have f5_8 := hi.e5
             have ex := hi.ex
             have hle := hi.le
             have nx := hi.nx
             have g1 := hi.g1
             have hN := hd.n1
             have hadd : wrapF .i64 ((i : Int) + 1) = ((i + 1 : Nat) : Int) := by rw [w64_in _ (by omega)]; omega
             unfold boxC at g1
             refine W.seq ?_
             refine W.seq ?_
             refine W.region (fun K hK => ?_)
             simp (config := { maxSteps := 10000000 }) only [go_sem, ↓forkQ_true, ↓forkQ_false, ↓guardQ_some, ↓resQ_val, ↓resQ_unit, ↓resQ_enter, ↓retQ_some, ↓resFQ_val, ↓resFQ_unit, ↓resFQ_enter, ↓retFQ_some, Nat.reduceEqDiff, reduceIte, Nat.reduceAdd, Nat.reduceMul, Nat.reduceSub, reduceCtorEq, Nat.reduceLeDiff, f1_8, f4_8, f5_8, hadd, g1]
             refine hK _ _ ?_
             clear hK K
             refine W.forget (fun e9 he9 => ?_)
             have f1_9 := congrArg (fun q => Env.get q 1) he9
             simp only [go_sem, Nat.reduceEqDiff, reduceIte, f1_8] at f1_9
             have f4_9 := congrArg (fun q => Env.get q 4) he9
             simp only [go_sem, Nat.reduceEqDiff, reduceIte, f4_8] at f4_9
             have f5_9 := congrArg (fun q => Env.get q 5) he9
             simp only [go_sem, Nat.reduceEqDiff, reduceIte, f5_8] at f5_9
             have f59_9 := congrArg (fun q => Env.get q 59) he9
             simp only [go_sem, Nat.reduceEqDiff, reduceIte] at f59_9
             clear he9 f1_8 f4_8 f5_8
             refine W.thenN ?_
             refine W.cond f59_9 (fun hc10 => ?_) (fun hc10 => ?_)
             · first
               | (cases hc10; done)
               | (exfalso; simp only [decide_eq_true_eq, decide_eq_false_iff_not, Bool.not_eq_true', Bool.not_eq_false', Bool.not_eq_eq_eq_not, Bool.not_true, Bool.not_false] at hc10; omega)
               | (skip
                  try simp only [decide_eq_true_eq, decide_eq_false_iff_not, Bool.not_eq_true', Bool.not_eq_false', Bool.not_eq_eq_eq_not, Bool.not_true, Bool.not_false] at hc10
                  refine W.skip ?_
                  refine W.thenN ?_
                  refine W.seq ?_
                  refine W.block ?_
                  refine W.seq ?_
                  refine W.seq ?_
                  rcases item_split xs bs us i with q1 | ⟨q1, q2⟩ | ⟨q1, q2, q3, q4⟩ | ⟨q1, q2, q3, q4, q5⟩ | ⟨q1, q2, q3, q4, q5, q6⟩ | ⟨q1, q2, q3, q4, q5, q6, q7⟩ | ⟨q1, q2, q3, q4, q5, q6, q7⟩ | ⟨q1, q2, q3, q4⟩ | ⟨q1, q2, q3, q4, q5⟩ | ⟨q1, q2, q3, q4, q5, q6⟩ | ⟨q1, q2, q3, q4, q5, q6, q7⟩ | ⟨q1, q2, q3, q4, q5, q6, q7, q8⟩ | ⟨q1, q2, q3, q4, q5, q6, q7, q8⟩
                  · skip
                    have hlt : i < xs.length := by omega
                    have nb := hd.nb
                    have na := hd.na
                    have irx := inRange_nat hlt
                    have irb := inRange_nat (show i < bs.length by omega)
                    have iru := inRange_nat (show i < us.length by omega)
                    obtain ⟨d1, k1x, hax, hd1, hcx, hlx⟩ := hX.at hlt
                    obtain ⟨d2, k2x, hab, hd2, hcb, hlb⟩ := hB.at (show i < bs.length by omega)
                    obtain ⟨d3, k3x, hau, hd3, hcu, hlu⟩ := hU.at (show i < us.length by omega)
                    have hgx := (ex.get d1 hlx).trans hd1
                    have hgb := (ex.get d2 hlb).trans hd2
                    have hgu := (ex.get d3 hlu).trans hd3
                    refine W.drawA dr25_7 (fun A hA K hK => ?_)
                    have gd6 := guardAt hA (j := 6) (d := 68) rfl
                    have gd14 := guardAt hA (j := 14) (d := 76) rfl
                    have gd17 := guardAt hA (j := 17) (d := 79) rfl
                    have gd32 := guardAt hA (j := 32) (d := 94) rfl
                    have gd40 := guardAt hA (j := 40) (d := 102) rfl
                    have gd48 := guardAt hA (j := 48) (d := 110) rfl
                    have gd56 := guardAt hA (j := 56) (d := 118) rfl
                    clear hA
                    simp (config := { maxSteps := 10000000 }) only [go_sem, ↓forkQ_true, ↓forkQ_false, ↓guardQ_some, ↓resQ_val, ↓resQ_unit, ↓resQ_enter, ↓retQ_some, ↓resFQ_val, ↓resFQ_unit, ↓resFQ_enter, ↓retFQ_some, Nat.reduceEqDiff, reduceIte, Nat.reduceAdd, Nat.reduceMul, Nat.reduceSub, reduceCtorEq, Nat.reduceLeDiff, f1_9, f4_9, f5_9, f59_9, hadd, g1, irx, irb, iru, hax, hab, hau, hgx, hgb, hgu, hcx, hcb, hcu, q1, gd6, gd14, gd17, gd32, gd40, gd48, gd56]
                    repeat' (first | (refine W.forkP (fun hc11 => ?_) (fun hc11 => ?_) <;> simp (config := { maxSteps := 10000000 }) only [go_sem, ↓forkQ_true, ↓forkQ_false, ↓guardQ_some, ↓resQ_val, ↓resQ_unit, ↓resQ_enter, ↓retQ_some, ↓resFQ_val, ↓resFQ_unit, ↓resFQ_enter, ↓retFQ_some, Nat.reduceEqDiff, reduceIte, Nat.reduceAdd, Nat.reduceMul, Nat.reduceSub, reduceCtorEq, Nat.reduceLeDiff, f1_9, f4_9, f5_9, f59_9, hadd, g1, irx, irb, iru, hax, hab, hau, hgx, hgb, hgu, hcx, hcb, hcu, q1, gd6, gd14, gd17, gd32, gd40, gd48, gd56, hc11]) | (refine W.fork (fun hc11 => ?_) (fun hc11 => ?_) <;> simp (config := { maxSteps := 10000000 }) only [go_sem, ↓forkQ_true, ↓forkQ_false, ↓guardQ_some, ↓resQ_val, ↓resQ_unit, ↓resQ_enter, ↓retQ_some, ↓resFQ_val, ↓resFQ_unit, ↓resFQ_enter, ↓retFQ_some, Nat.reduceEqDiff, reduceIte, Nat.reduceAdd, Nat.reduceMul, Nat.reduceSub, reduceCtorEq, Nat.reduceLeDiff, f1_9, f4_9, f5_9, f59_9, hadd, g1, irx, irb, iru, hax, hab, hau, hgx, hgb, hgu, hcx, hcb, hcu, q1, gd6, gd14, gd17, gd32, gd40, gd48, gd56, hc11]))
                    all_goals
                      refine hK _ _ ?_
                      clear hK K A gd6 gd14 gd17 gd32 gd40 gd48 gd56
                      refine W.forget (fun e11 he11 => ?_)
                      have f1_11 := congrArg (fun q => Env.get q 1) he11
                      simp only [go_sem, Nat.reduceEqDiff, reduceIte, f1_9] at f1_11
                      have f4_11 := congrArg (fun q => Env.get q 4) he11
                      simp only [go_sem, Nat.reduceEqDiff, reduceIte, f4_9] at f4_11
                      have f5_11 := congrArg (fun q => Env.get q 5) he11
                      simp only [go_sem, Nat.reduceEqDiff, reduceIte, f5_9] at f5_11
                      have f125_11 := congrArg (fun q => Env.get q 125) he11
                      simp only [go_sem, Nat.reduceEqDiff, reduceIte] at f125_11
                      clear he11 f1_9 f4_9 f5_9 f59_9
                      refine W.thenN ?_
                      refine W.cond f125_11 (fun hc12 => ?_) (fun hc12 => ?_)
                      · first
                        | (cases hc12; done)
                        | (exfalso; simp only [decide_eq_true_eq, decide_eq_false_iff_not, Bool.not_eq_true', Bool.not_eq_false', Bool.not_eq_eq_eq_not, Bool.not_true, Bool.not_false] at hc12; omega)
                        | (skip
                           try simp only [decide_eq_true_eq, decide_eq_false_iff_not, Bool.not_eq_true', Bool.not_eq_false', Bool.not_eq_eq_eq_not, Bool.not_true, Bool.not_false] at hc12
                           refine W.seq ?_
                           refine W.region (fun K hK => ?_)
                           simp (config := { maxSteps := 10000000 }) only [go_sem, ↓forkQ_true, ↓forkQ_false, ↓guardQ_some, ↓resQ_val, ↓resQ_unit, ↓resQ_enter, ↓retQ_some, ↓resFQ_val, ↓resFQ_unit, ↓resFQ_enter, ↓retFQ_some, Nat.reduceEqDiff, reduceIte, Nat.reduceAdd, Nat.reduceMul, Nat.reduceSub, reduceCtorEq, Nat.reduceLeDiff, f1_11, f4_11, f5_11, f125_11, hadd, g1, irx, irb, iru, hax, hab, hau, hgx, hgb, hgu, hcx, hcb, hcu, q1]
                           refine hK _ _ ?_
                           clear hK K
                           refine W.forget (fun e13 he13 => ?_)
                           have f1_13 := congrArg (fun q => Env.get q 1) he13
                           simp only [go_sem, Nat.reduceEqDiff, reduceIte, f1_11] at f1_13
                           have f2_13 := congrArg (fun q => Env.get q 2) he13
                           simp only [go_sem, Nat.reduceEqDiff, reduceIte] at f2_13
                           have f3_13 := congrArg (fun q => Env.get q 3) he13
                           simp only [go_sem, Nat.reduceEqDiff, reduceIte] at f3_13
                           have f4_13 := congrArg (fun q => Env.get q 4) he13
                           simp only [go_sem, Nat.reduceEqDiff, reduceIte, f4_11] at f4_13
                           have f5_13 := congrArg (fun q => Env.get q 5) he13
                           simp only [go_sem, Nat.reduceEqDiff, reduceIte, f5_11] at f5_13
                           clear he13 f1_11 f4_11 f5_11 f125_11
                           refine W.thenN ?_
                           refine W.ret ?_
                           refine W.thenR ?_
                           refine W.blockR ?_
                           refine W.thenR ?_
                           refine W.thenR ?_
                           refine W.blockR ?_
                           refine W.thenR ?_
                           rw [doneQ_ret]
                           first
                             | (refine ⟨[.slice none 0 0, .bool false], ?_, ex0.wr, .inl rfl⟩; simp only [go_sem, ↓forkQ_true, ↓forkQ_false, ↓guardQ_some, ↓resQ_val, ↓resQ_unit, ↓resQ_enter, ↓retQ_some, ↓resFQ_val, ↓resFQ_unit, ↓resFQ_enter, ↓retFQ_some, Nat.reduceEqDiff, reduceIte, Nat.reduceAdd, Nat.reduceMul, Nat.reduceSub, reduceCtorEq, Nat.reduceLeDiff, f1_13, f2_13, f3_13, f4_13, f5_13]; done)
                             | (refine ⟨[.slice none 0 0, .bool false], ?_, ex.wr, .inl rfl⟩; simp only [go_sem, ↓forkQ_true, ↓forkQ_false, ↓guardQ_some, ↓resQ_val, ↓resQ_unit, ↓resQ_enter, ↓retQ_some, ↓resFQ_val, ↓resFQ_unit, ↓resFQ_enter, ↓retFQ_some, Nat.reduceEqDiff, reduceIte, Nat.reduceAdd, Nat.reduceMul, Nat.reduceSub, reduceCtorEq, Nat.reduceLeDiff, f1_13, f2_13, f3_13, f4_13, f5_13]; done)
                             | (obtain rfl : i = xs.length := by omega
                                refine ⟨[.slice ar xs.length xs.length, .bool true], by simp only [go_sem, ↓forkQ_true, ↓forkQ_false, ↓guardQ_some, ↓resQ_val, ↓resQ_unit, ↓resQ_enter, ↓retQ_some, ↓resFQ_val, ↓resFQ_unit, ↓resFQ_enter, ↓retFQ_some, Nat.reduceEqDiff, reduceIte, Nat.reduceAdd, Nat.reduceMul, Nat.reduceSub, reduceCtorEq, Nat.reduceLeDiff, f1_13, f2_13, f3_13, f4_13, f5_13], ex.wr, .inr ⟨ar, rfl, ?_, hd, hi.ok⟩⟩
                                have o9 := hi.ol.base (Nat.le_succ h.next)
                                rw [List.take_of_length_le (by rw [linesL_len]; exact Nat.le_refl _)] at o9
                                exact o9))
                      · cases hc12
                  · skip
                    have hlt : i < xs.length := by omega
                    have nb := hd.nb
                    have na := hd.na
                    have irx := inRange_nat hlt
                    have irb := inRange_nat (show i < bs.length by omega)
                    have iru := inRange_nat (show i < us.length by omega)
                    obtain ⟨d1, k1x, hax, hd1, hcx, hlx⟩ := hX.at hlt
                    obtain ⟨d2, k2x, hab, hd2, hcb, hlb⟩ := hB.at (show i < bs.length by omega)
                    obtain ⟨d3, k3x, hau, hd3, hcu, hlu⟩ := hU.at (show i < us.length by omega)
                    have hgx := (ex.get d1 hlx).trans hd1
                    have hgb := (ex.get d2 hlb).trans hd2
                    have hgu := (ex.get d3 hlu).trans hd3
                    refine W.drawA dr25_7 (fun A hA K hK => ?_)
                    have gd6 := guardAt hA (j := 6) (d := 68) rfl
                    have gd14 := guardAt hA (j := 14) (d := 76) rfl
                    have gd17 := guardAt hA (j := 17) (d := 79) rfl
                    have gd32 := guardAt hA (j := 32) (d := 94) rfl
                    have gd40 := guardAt hA (j := 40) (d := 102) rfl
                    have gd48 := guardAt hA (j := 48) (d := 110) rfl
                    have gd56 := guardAt hA (j := 56) (d := 118) rfl
                    clear hA
                    simp (config := { maxSteps := 10000000 }) only [go_sem, ↓forkQ_true, ↓forkQ_false, ↓guardQ_some, ↓resQ_val, ↓resQ_unit, ↓resQ_enter, ↓retQ_some, ↓resFQ_val, ↓resFQ_unit, ↓resFQ_enter, ↓retFQ_some, Nat.reduceEqDiff, reduceIte, Nat.reduceAdd, Nat.reduceMul, Nat.reduceSub, reduceCtorEq, Nat.reduceLeDiff, f1_9, f4_9, f5_9, f59_9, hadd, g1, irx, irb, iru, hax, hab, hau, hgx, hgb, hgu, hcx, hcb, hcu, q1, q2, gd6, gd14, gd17, gd32, gd40, gd48, gd56]
                    repeat' (first | (refine W.forkP (fun hc14 => ?_) (fun hc14 => ?_) <;> simp (config := { maxSteps := 10000000 }) only [go_sem, ↓forkQ_true, ↓forkQ_false, ↓guardQ_some, ↓resQ_val, ↓resQ_unit, ↓resQ_enter, ↓retQ_some, ↓resFQ_val, ↓resFQ_unit, ↓resFQ_enter, ↓retFQ_some, Nat.reduceEqDiff, reduceIte, Nat.reduceAdd, Nat.reduceMul, Nat.reduceSub, reduceCtorEq, Nat.reduceLeDiff, f1_9, f4_9, f5_9, f59_9, hadd, g1, irx, irb, iru, hax, hab, hau, hgx, hgb, hgu, hcx, hcb, hcu, q1, q2, gd6, gd14, gd17, gd32, gd40, gd48, gd56, hc14]) | (refine W.fork (fun hc14 => ?_) (fun hc14 => ?_) <;> simp (config := { maxSteps := 10000000 }) only [go_sem, ↓forkQ_true, ↓forkQ_false, ↓guardQ_some, ↓resQ_val, ↓resQ_unit, ↓resQ_enter, ↓retQ_some, ↓resFQ_val, ↓resFQ_unit, ↓resFQ_enter, ↓retFQ_some, Nat.reduceEqDiff, reduceIte, Nat.reduceAdd, Nat.reduceMul, Nat.reduceSub, reduceCtorEq, Nat.reduceLeDiff, f1_9, f4_9, f5_9, f59_9, hadd, g1, irx, irb, iru, hax, hab, hau, hgx, hgb, hgu, hcx, hcb, hcu, q1, q2, gd6, gd14, gd17, gd32, gd40, gd48, gd56, hc14]))
                    all_goals
                      refine hK _ _ ?_
                      clear hK K A gd6 gd14 gd17 gd32 gd40 gd48 gd56
                      refine W.forget (fun e14 he14 => ?_)
                      have f1_14 := congrArg (fun q => Env.get q 1) he14
                      simp only [go_sem, Nat.reduceEqDiff, reduceIte, f1_9] at f1_14
                      have f4_14 := congrArg (fun q => Env.get q 4) he14
                      simp only [go_sem, Nat.reduceEqDiff, reduceIte, f4_9] at f4_14
                      have f5_14 := congrArg (fun q => Env.get q 5) he14
                      simp only [go_sem, Nat.reduceEqDiff, reduceIte, f5_9] at f5_14
                      have f125_14 := congrArg (fun q => Env.get q 125) he14
                      simp only [go_sem, Nat.reduceEqDiff, reduceIte] at f125_14
                      clear he14 f1_9 f4_9 f5_9 f59_9
                      refine W.thenN ?_
                      refine W.cond f125_14 (fun hc15 => ?_) (fun hc15 => ?_)
                      · first
                        | (cases hc15; done)
                        | (exfalso; simp only [decide_eq_true_eq, decide_eq_false_iff_not, Bool.not_eq_true', Bool.not_eq_false', Bool.not_eq_eq_eq_not, Bool.not_true, Bool.not_false] at hc15; omega)
                        | (skip
                           try simp only [decide_eq_true_eq, decide_eq_false_iff_not, Bool.not_eq_true', Bool.not_eq_false', Bool.not_eq_eq_eq_not, Bool.not_true, Bool.not_false] at hc15
                           refine W.seq ?_
                           refine W.region (fun K hK => ?_)
                           simp (config := { maxSteps := 10000000 }) only [go_sem, ↓forkQ_true, ↓forkQ_false, ↓guardQ_some, ↓resQ_val, ↓resQ_unit, ↓resQ_enter, ↓retQ_some, ↓resFQ_val, ↓resFQ_unit, ↓resFQ_enter, ↓retFQ_some, Nat.reduceEqDiff, reduceIte, Nat.reduceAdd, Nat.reduceMul, Nat.reduceSub, reduceCtorEq, Nat.reduceLeDiff, f1_14, f4_14, f5_14, f125_14, hadd, g1, irx, irb, iru, hax, hab, hau, hgx, hgb, hgu, hcx, hcb, hcu, q1, q2]
                           refine hK _ _ ?_
                           clear hK K
                           refine W.forget (fun e16 he16 => ?_)
                           have f1_16 := congrArg (fun q => Env.get q 1) he16
                           simp only [go_sem, Nat.reduceEqDiff, reduceIte, f1_14] at f1_16
                           have f2_16 := congrArg (fun q => Env.get q 2) he16
                           simp only [go_sem, Nat.reduceEqDiff, reduceIte] at f2_16
                           have f3_16 := congrArg (fun q => Env.get q 3) he16
                           simp only [go_sem, Nat.reduceEqDiff, reduceIte] at f3_16
                           have f4_16 := congrArg (fun q => Env.get q 4) he16
                           simp only [go_sem, Nat.reduceEqDiff, reduceIte, f4_14] at f4_16
                           have f5_16 := congrArg (fun q => Env.get q 5) he16
                           simp only [go_sem, Nat.reduceEqDiff, reduceIte, f5_14] at f5_16
                           clear he16 f1_14 f4_14 f5_14 f125_14
                           refine W.thenN ?_
                           refine W.ret ?_
                           refine W.thenR ?_
                           refine W.blockR ?_
                           refine W.thenR ?_
                           refine W.thenR ?_
                           refine W.blockR ?_
                           refine W.thenR ?_
                           rw [doneQ_ret]
                           first
                             | (refine ⟨[.slice none 0 0, .bool false], ?_, ex0.wr, .inl rfl⟩; simp only [go_sem, ↓forkQ_true, ↓forkQ_false, ↓guardQ_some, ↓resQ_val, ↓resQ_unit, ↓resQ_enter, ↓retQ_some, ↓resFQ_val, ↓resFQ_unit, ↓resFQ_enter, ↓retFQ_some, Nat.reduceEqDiff, reduceIte, Nat.reduceAdd, Nat.reduceMul, Nat.reduceSub, reduceCtorEq, Nat.reduceLeDiff, f1_16, f2_16, f3_16, f4_16, f5_16]; done)
                             | (refine ⟨[.slice none 0 0, .bool false], ?_, ex.wr, .inl rfl⟩; simp only [go_sem, ↓forkQ_true, ↓forkQ_false, ↓guardQ_some, ↓resQ_val, ↓resQ_unit, ↓resQ_enter, ↓retQ_some, ↓resFQ_val, ↓resFQ_unit, ↓resFQ_enter, ↓retFQ_some, Nat.reduceEqDiff, reduceIte, Nat.reduceAdd, Nat.reduceMul, Nat.reduceSub, reduceCtorEq, Nat.reduceLeDiff, f1_16, f2_16, f3_16, f4_16, f5_16]; done)
                             | (obtain rfl : i = xs.length := by omega
                                refine ⟨[.slice ar xs.length xs.length, .bool true], by simp only [go_sem, ↓forkQ_true, ↓forkQ_false, ↓guardQ_some, ↓resQ_val, ↓resQ_unit, ↓resQ_enter, ↓retQ_some, ↓resFQ_val, ↓resFQ_unit, ↓resFQ_enter, ↓retFQ_some, Nat.reduceEqDiff, reduceIte, Nat.reduceAdd, Nat.reduceMul, Nat.reduceSub, reduceCtorEq, Nat.reduceLeDiff, f1_16, f2_16, f3_16, f4_16, f5_16], ex.wr, .inr ⟨ar, rfl, ?_, hd, hi.ok⟩⟩
                                have o9 := hi.ol.base (Nat.le_succ h.next)
                                rw [List.take_of_length_le (by rw [linesL_len]; exact Nat.le_refl _)] at o9
                                exact o9))
                      · cases hc15
                  · skip
                    have hlt : i < xs.length := by omega
                    have nb := hd.nb
                    have na := hd.na
                    have irx := inRange_nat hlt
                    have irb := inRange_nat (show i < bs.length by omega)
                    have iru := inRange_nat (show i < us.length by omega)
                    obtain ⟨d1, k1x, hax, hd1, hcx, hlx⟩ := hX.at hlt
                    obtain ⟨d2, k2x, hab, hd2, hcb, hlb⟩ := hB.at (show i < bs.length by omega)
                    obtain ⟨d3, k3x, hau, hd3, hcu, hlu⟩ := hU.at (show i < us.length by omega)
                    have hgx := (ex.get d1 hlx).trans hd1
                    have hgb := (ex.get d2 hlb).trans hd2
                    have hgu := (ex.get d3 hlu).trans hd3
                    refine W.drawA dr25_7 (fun A hA K hK => ?_)
                    have gd6 := guardAt hA (j := 6) (d := 68) rfl
                    have gd14 := guardAt hA (j := 14) (d := 76) rfl
                    have gd17 := guardAt hA (j := 17) (d := 79) rfl
                    have gd32 := guardAt hA (j := 32) (d := 94) rfl
                    have gd40 := guardAt hA (j := 40) (d := 102) rfl
                    have gd48 := guardAt hA (j := 48) (d := 110) rfl
                    have gd56 := guardAt hA (j := 56) (d := 118) rfl
                    clear hA
                    simp (config := { maxSteps := 10000000 }) only [go_sem, ↓forkQ_true, ↓forkQ_false, ↓guardQ_some, ↓resQ_val, ↓resQ_unit, ↓resQ_enter, ↓retQ_some, ↓resFQ_val, ↓resFQ_unit, ↓resFQ_enter, ↓retFQ_some, Nat.reduceEqDiff, reduceIte, Nat.reduceAdd, Nat.reduceMul, Nat.reduceSub, reduceCtorEq, Nat.reduceLeDiff, f1_9, f4_9, f5_9, f59_9, hadd, g1, irx, irb, iru, hax, hab, hau, hgx, hgb, hgu, hcx, hcb, hcu, q1, q2, q3, q4, gd6, gd14, gd17, gd32, gd40, gd48, gd56]
                    repeat' (first | (refine W.forkP (fun hc17 => ?_) (fun hc17 => ?_) <;> simp (config := { maxSteps := 10000000 }) only [go_sem, ↓forkQ_true, ↓forkQ_false, ↓guardQ_some, ↓resQ_val, ↓resQ_unit, ↓resQ_enter, ↓retQ_some, ↓resFQ_val, ↓resFQ_unit, ↓resFQ_enter, ↓retFQ_some, Nat.reduceEqDiff, reduceIte, Nat.reduceAdd, Nat.reduceMul, Nat.reduceSub, reduceCtorEq, Nat.reduceLeDiff, f1_9, f4_9, f5_9, f59_9, hadd, g1, irx, irb, iru, hax, hab, hau, hgx, hgb, hgu, hcx, hcb, hcu, q1, q2, q3, q4, gd6, gd14, gd17, gd32, gd40, gd48, gd56, hc17]) | (refine W.fork (fun hc17 => ?_) (fun hc17 => ?_) <;> simp (config := { maxSteps := 10000000 }) only [go_sem, ↓forkQ_true, ↓forkQ_false, ↓guardQ_some, ↓resQ_val, ↓resQ_unit, ↓resQ_enter, ↓retQ_some, ↓resFQ_val, ↓resFQ_unit, ↓resFQ_enter, ↓retFQ_some, Nat.reduceEqDiff, reduceIte, Nat.reduceAdd, Nat.reduceMul, Nat.reduceSub, reduceCtorEq, Nat.reduceLeDiff, f1_9, f4_9, f5_9, f59_9, hadd, g1, irx, irb, iru, hax, hab, hau, hgx, hgb, hgu, hcx, hcb, hcu, q1, q2, q3, q4, gd6, gd14, gd17, gd32, gd40, gd48, gd56, hc17]))
                    all_goals
                      refine hK _ _ ?_
                      clear hK K A gd6 gd14 gd17 gd32 gd40 gd48 gd56
                      refine W.forget (fun e17 he17 => ?_)
                      have f1_17 := congrArg (fun q => Env.get q 1) he17
                      simp only [go_sem, Nat.reduceEqDiff, reduceIte, f1_9] at f1_17
                      have f4_17 := congrArg (fun q => Env.get q 4) he17
                      simp only [go_sem, Nat.reduceEqDiff, reduceIte, f4_9] at f4_17
                      have f5_17 := congrArg (fun q => Env.get q 5) he17
                      simp only [go_sem, Nat.reduceEqDiff, reduceIte, f5_9] at f5_17
                      have f125_17 := congrArg (fun q => Env.get q 125) he17
                      simp only [go_sem, Nat.reduceEqDiff, reduceIte] at f125_17
                      clear he17 f1_9 f4_9 f5_9 f59_9
                      refine W.thenN ?_
                      refine W.cond f125_17 (fun hc18 => ?_) (fun hc18 => ?_)
                      · first
                        | (cases hc18; done)
                        | (exfalso; simp only [decide_eq_true_eq, decide_eq_false_iff_not, Bool.not_eq_true', Bool.not_eq_false', Bool.not_eq_eq_eq_not, Bool.not_true, Bool.not_false] at hc18; omega)
                        | (skip
                           try simp only [decide_eq_true_eq, decide_eq_false_iff_not, Bool.not_eq_true', Bool.not_eq_false', Bool.not_eq_eq_eq_not, Bool.not_true, Bool.not_false] at hc18
                           refine W.seq ?_
                           refine W.region (fun K hK => ?_)
                           simp (config := { maxSteps := 10000000 }) only [go_sem, ↓forkQ_true, ↓forkQ_false, ↓guardQ_some, ↓resQ_val, ↓resQ_unit, ↓resQ_enter, ↓retQ_some, ↓resFQ_val, ↓resFQ_unit, ↓resFQ_enter, ↓retFQ_some, Nat.reduceEqDiff, reduceIte, Nat.reduceAdd, Nat.reduceMul, Nat.reduceSub, reduceCtorEq, Nat.reduceLeDiff, f1_17, f4_17, f5_17, f125_17, hadd, g1, irx, irb, iru, hax, hab, hau, hgx, hgb, hgu, hcx, hcb, hcu, q1, q2, q3, q4]
                           refine hK _ _ ?_
                           clear hK K
                           refine W.forget (fun e19 he19 => ?_)
                           have f1_19 := congrArg (fun q => Env.get q 1) he19
                           simp only [go_sem, Nat.reduceEqDiff, reduceIte, f1_17] at f1_19
                           have f2_19 := congrArg (fun q => Env.get q 2) he19
                           simp only [go_sem, Nat.reduceEqDiff, reduceIte] at f2_19
                           have f3_19 := congrArg (fun q => Env.get q 3) he19
                           simp only [go_sem, Nat.reduceEqDiff, reduceIte] at f3_19
                           have f4_19 := congrArg (fun q => Env.get q 4) he19
                           simp only [go_sem, Nat.reduceEqDiff, reduceIte, f4_17] at f4_19
                           have f5_19 := congrArg (fun q => Env.get q 5) he19
                           simp only [go_sem, Nat.reduceEqDiff, reduceIte, f5_17] at f5_19
                           clear he19 f1_17 f4_17 f5_17 f125_17
                           refine W.thenN ?_
                           refine W.ret ?_
                           refine W.thenR ?_
                           refine W.blockR ?_
                           refine W.thenR ?_
                           refine W.thenR ?_
                           refine W.blockR ?_
                           refine W.thenR ?_
                           rw [doneQ_ret]
                           first
                             | (refine ⟨[.slice none 0 0, .bool false], ?_, ex0.wr, .inl rfl⟩; simp only [go_sem, ↓forkQ_true, ↓forkQ_false, ↓guardQ_some, ↓resQ_val, ↓resQ_unit, ↓resQ_enter, ↓retQ_some, ↓resFQ_val, ↓resFQ_unit, ↓resFQ_enter, ↓retFQ_some, Nat.reduceEqDiff, reduceIte, Nat.reduceAdd, Nat.reduceMul, Nat.reduceSub, reduceCtorEq, Nat.reduceLeDiff, f1_19, f2_19, f3_19, f4_19, f5_19]; done)
                             | (refine ⟨[.slice none 0 0, .bool false], ?_, ex.wr, .inl rfl⟩; simp only [go_sem, ↓forkQ_true, ↓forkQ_false, ↓guardQ_some, ↓resQ_val, ↓resQ_unit, ↓resQ_enter, ↓retQ_some, ↓resFQ_val, ↓resFQ_unit, ↓resFQ_enter, ↓retFQ_some, Nat.reduceEqDiff, reduceIte, Nat.reduceAdd, Nat.reduceMul, Nat.reduceSub, reduceCtorEq, Nat.reduceLeDiff, f1_19, f2_19, f3_19, f4_19, f5_19]; done)
                             | (obtain rfl : i = xs.length := by omega
                                refine ⟨[.slice ar xs.length xs.length, .bool true], by simp only [go_sem, ↓forkQ_true, ↓forkQ_false, ↓guardQ_some, ↓resQ_val, ↓resQ_unit, ↓resQ_enter, ↓retQ_some, ↓resFQ_val, ↓resFQ_unit, ↓resFQ_enter, ↓retFQ_some, Nat.reduceEqDiff, reduceIte, Nat.reduceAdd, Nat.reduceMul, Nat.reduceSub, reduceCtorEq, Nat.reduceLeDiff, f1_19, f2_19, f3_19, f4_19, f5_19], ex.wr, .inr ⟨ar, rfl, ?_, hd, hi.ok⟩⟩
                                have o9 := hi.ol.base (Nat.le_succ h.next)
                                rw [List.take_of_length_le (by rw [linesL_len]; exact Nat.le_refl _)] at o9
                                exact o9))
                      · cases hc18
                  · skip
                    have hlt : i < xs.length := by omega
                    have nb := hd.nb
                    have na := hd.na
                    have irx := inRange_nat hlt
                    have irb := inRange_nat (show i < bs.length by omega)
                    have iru := inRange_nat (show i < us.length by omega)
                    obtain ⟨d1, k1x, hax, hd1, hcx, hlx⟩ := hX.at hlt
                    obtain ⟨d2, k2x, hab, hd2, hcb, hlb⟩ := hB.at (show i < bs.length by omega)
                    obtain ⟨d3, k3x, hau, hd3, hcu, hlu⟩ := hU.at (show i < us.length by omega)
                    have hgx := (ex.get d1 hlx).trans hd1
                    have hgb := (ex.get d2 hlb).trans hd2
                    have hgu := (ex.get d3 hlu).trans hd3
                    refine W.drawA dr25_7 (fun A hA K hK => ?_)
                    have gd6 := guardAt hA (j := 6) (d := 68) rfl
                    have gd14 := guardAt hA (j := 14) (d := 76) rfl
                    have gd17 := guardAt hA (j := 17) (d := 79) rfl
                    have gd32 := guardAt hA (j := 32) (d := 94) rfl
                    have gd40 := guardAt hA (j := 40) (d := 102) rfl
                    have gd48 := guardAt hA (j := 48) (d := 110) rfl
                    have gd56 := guardAt hA (j := 56) (d := 118) rfl
                    clear hA
                    simp (config := { maxSteps := 10000000 }) only [go_sem, ↓forkQ_true, ↓forkQ_false, ↓guardQ_some, ↓resQ_val, ↓resQ_unit, ↓resQ_enter, ↓retQ_some, ↓resFQ_val, ↓resFQ_unit, ↓resFQ_enter, ↓retFQ_some, Nat.reduceEqDiff, reduceIte, Nat.reduceAdd, Nat.reduceMul, Nat.reduceSub, reduceCtorEq, Nat.reduceLeDiff, f1_9, f4_9, f5_9, f59_9, hadd, g1, irx, irb, iru, hax, hab, hau, hgx, hgb, hgu, hcx, hcb, hcu, q1, q2, q3, q4, q5, gd6, gd14, gd17, gd32, gd40, gd48, gd56]
                    repeat' (first | (refine W.forkP (fun hc20 => ?_) (fun hc20 => ?_) <;> simp (config := { maxSteps := 10000000 }) only [go_sem, ↓forkQ_true, ↓forkQ_false, ↓guardQ_some, ↓resQ_val, ↓resQ_unit, ↓resQ_enter, ↓retQ_some, ↓resFQ_val, ↓resFQ_unit, ↓resFQ_enter, ↓retFQ_some, Nat.reduceEqDiff, reduceIte, Nat.reduceAdd, Nat.reduceMul, Nat.reduceSub, reduceCtorEq, Nat.reduceLeDiff, f1_9, f4_9, f5_9, f59_9, hadd, g1, irx, irb, iru, hax, hab, hau, hgx, hgb, hgu, hcx, hcb, hcu, q1, q2, q3, q4, q5, gd6, gd14, gd17, gd32, gd40, gd48, gd56, hc20]) | (refine W.fork (fun hc20 => ?_) (fun hc20 => ?_) <;> simp (config := { maxSteps := 10000000 }) only [go_sem, ↓forkQ_true, ↓forkQ_false, ↓guardQ_some, ↓resQ_val, ↓resQ_unit, ↓resQ_enter, ↓retQ_some, ↓resFQ_val, ↓resFQ_unit, ↓resFQ_enter, ↓retFQ_some, Nat.reduceEqDiff, reduceIte, Nat.reduceAdd, Nat.reduceMul, Nat.reduceSub, reduceCtorEq, Nat.reduceLeDiff, f1_9, f4_9, f5_9, f59_9, hadd, g1, irx, irb, iru, hax, hab, hau, hgx, hgb, hgu, hcx, hcb, hcu, q1, q2, q3, q4, q5, gd6, gd14, gd17, gd32, gd40, gd48, gd56, hc20]))
                    all_goals
                      refine hK _ _ ?_
                      clear hK K A gd6 gd14 gd17 gd32 gd40 gd48 gd56
                      refine W.forget (fun e20 he20 => ?_)
                      have f1_20 := congrArg (fun q => Env.get q 1) he20
                      simp only [go_sem, Nat.reduceEqDiff, reduceIte, f1_9] at f1_20
                      have f4_20 := congrArg (fun q => Env.get q 4) he20
                      simp only [go_sem, Nat.reduceEqDiff, reduceIte, f4_9] at f4_20
                      have f5_20 := congrArg (fun q => Env.get q 5) he20
                      simp only [go_sem, Nat.reduceEqDiff, reduceIte, f5_9] at f5_20
                      have f125_20 := congrArg (fun q => Env.get q 125) he20
                      simp only [go_sem, Nat.reduceEqDiff, reduceIte] at f125_20
                      clear he20 f1_9 f4_9 f5_9 f59_9
                      refine W.thenN ?_
                      refine W.cond f125_20 (fun hc21 => ?_) (fun hc21 => ?_)
                      · first
                        | (cases hc21; done)
                        | (exfalso; simp only [decide_eq_true_eq, decide_eq_false_iff_not, Bool.not_eq_true', Bool.not_eq_false', Bool.not_eq_eq_eq_not, Bool.not_true, Bool.not_false] at hc21; omega)
                        | (skip
                           try simp only [decide_eq_true_eq, decide_eq_false_iff_not, Bool.not_eq_true', Bool.not_eq_false', Bool.not_eq_eq_eq_not, Bool.not_true, Bool.not_false] at hc21
                           refine W.seq ?_
                           refine W.region (fun K hK => ?_)
                           simp (config := { maxSteps := 10000000 }) only [go_sem, ↓forkQ_true, ↓forkQ_false, ↓guardQ_some, ↓resQ_val, ↓resQ_unit, ↓resQ_enter, ↓retQ_some, ↓resFQ_val, ↓resFQ_unit, ↓resFQ_enter, ↓retFQ_some, Nat.reduceEqDiff, reduceIte, Nat.reduceAdd, Nat.reduceMul, Nat.reduceSub, reduceCtorEq, Nat.reduceLeDiff, f1_20, f4_20, f5_20, f125_20, hadd, g1, irx, irb, iru, hax, hab, hau, hgx, hgb, hgu, hcx, hcb, hcu, q1, q2, q3, q4, q5]
                           refine hK _ _ ?_
                           clear hK K
                           refine W.forget (fun e22 he22 => ?_)
                           have f1_22 := congrArg (fun q => Env.get q 1) he22
                           simp only [go_sem, Nat.reduceEqDiff, reduceIte, f1_20] at f1_22
                           have f2_22 := congrArg (fun q => Env.get q 2) he22
                           simp only [go_sem, Nat.reduceEqDiff, reduceIte] at f2_22
                           have f3_22 := congrArg (fun q => Env.get q 3) he22
                           simp only [go_sem, Nat.reduceEqDiff, reduceIte] at f3_22
                           have f4_22 := congrArg (fun q => Env.get q 4) he22
                           simp only [go_sem, Nat.reduceEqDiff, reduceIte, f4_20] at f4_22
                           have f5_22 := congrArg (fun q => Env.get q 5) he22
                           simp only [go_sem, Nat.reduceEqDiff, reduceIte, f5_20] at f5_22
                           clear he22 f1_20 f4_20 f5_20 f125_20
                           refine W.thenN ?_
                           refine W.ret ?_
                           refine W.thenR ?_
                           refine W.blockR ?_
                           refine W.thenR ?_
                           refine W.thenR ?_
                           refine W.blockR ?_
                           refine W.thenR ?_
                           rw [doneQ_ret]
                           first
                             | (refine ⟨[.slice none 0 0, .bool false], ?_, ex0.wr, .inl rfl⟩; simp only [go_sem, ↓forkQ_true, ↓forkQ_false, ↓guardQ_some, ↓resQ_val, ↓resQ_unit, ↓resQ_enter, ↓retQ_some, ↓resFQ_val, ↓resFQ_unit, ↓resFQ_enter, ↓retFQ_some, Nat.reduceEqDiff, reduceIte, Nat.reduceAdd, Nat.reduceMul, Nat.reduceSub, reduceCtorEq, Nat.reduceLeDiff, f1_22, f2_22, f3_22, f4_22, f5_22]; done)
                             | (refine ⟨[.slice none 0 0, .bool false], ?_, ex.wr, .inl rfl⟩; simp only [go_sem, ↓forkQ_true, ↓forkQ_false, ↓guardQ_some, ↓resQ_val, ↓resQ_unit, ↓resQ_enter, ↓retQ_some, ↓resFQ_val, ↓resFQ_unit, ↓resFQ_enter, ↓retFQ_some, Nat.reduceEqDiff, reduceIte, Nat.reduceAdd, Nat.reduceMul, Nat.reduceSub, reduceCtorEq, Nat.reduceLeDiff, f1_22, f2_22, f3_22, f4_22, f5_22]; done)
                             | (obtain rfl : i = xs.length := by omega
                                refine ⟨[.slice ar xs.length xs.length, .bool true], by simp only [go_sem, ↓forkQ_true, ↓forkQ_false, ↓guardQ_some, ↓resQ_val, ↓resQ_unit, ↓resQ_enter, ↓retQ_some, ↓resFQ_val, ↓resFQ_unit, ↓resFQ_enter, ↓retFQ_some, Nat.reduceEqDiff, reduceIte, Nat.reduceAdd, Nat.reduceMul, Nat.reduceSub, reduceCtorEq, Nat.reduceLeDiff, f1_22, f2_22, f3_22, f4_22, f5_22], ex.wr, .inr ⟨ar, rfl, ?_, hd, hi.ok⟩⟩
                                have o9 := hi.ol.base (Nat.le_succ h.next)
                                rw [List.take_of_length_le (by rw [linesL_len]; exact Nat.le_refl _)] at o9
                                exact o9))
                      · cases hc21
                  · skip
                    have hlt : i < xs.length := by omega
                    have nb := hd.nb
                    have na := hd.na
                    have irx := inRange_nat hlt
                    have irb := inRange_nat (show i < bs.length by omega)
                    have iru := inRange_nat (show i < us.length by omega)
                    obtain ⟨d1, k1x, hax, hd1, hcx, hlx⟩ := hX.at hlt
                    obtain ⟨d2, k2x, hab, hd2, hcb, hlb⟩ := hB.at (show i < bs.length by omega)
                    obtain ⟨d3, k3x, hau, hd3, hcu, hlu⟩ := hU.at (show i < us.length by omega)
                    have hgx := (ex.get d1 hlx).trans hd1
                    have hgb := (ex.get d2 hlb).trans hd2
                    have hgu := (ex.get d3 hlu).trans hd3
                    refine W.drawA dr25_7 (fun A hA K hK => ?_)
                    have gd6 := guardAt hA (j := 6) (d := 68) rfl
                    have gd14 := guardAt hA (j := 14) (d := 76) rfl
                    have gd17 := guardAt hA (j := 17) (d := 79) rfl
                    have gd32 := guardAt hA (j := 32) (d := 94) rfl
                    have gd40 := guardAt hA (j := 40) (d := 102) rfl
                    have gd48 := guardAt hA (j := 48) (d := 110) rfl
                    have gd56 := guardAt hA (j := 56) (d := 118) rfl
                    clear hA
                    simp (config := { maxSteps := 10000000 }) only [go_sem, ↓forkQ_true, ↓forkQ_false, ↓guardQ_some, ↓resQ_val, ↓resQ_unit, ↓resQ_enter, ↓retQ_some, ↓resFQ_val, ↓resFQ_unit, ↓resFQ_enter, ↓retFQ_some, Nat.reduceEqDiff, reduceIte, Nat.reduceAdd, Nat.reduceMul, Nat.reduceSub, reduceCtorEq, Nat.reduceLeDiff, f1_9, f4_9, f5_9, f59_9, hadd, g1, irx, irb, iru, hax, hab, hau, hgx, hgb, hgu, hcx, hcb, hcu, q1, q2, q3, q4, q5, q6, gd6, gd14, gd17, gd32, gd40, gd48, gd56]
                    repeat' (first | (refine W.forkP (fun hc23 => ?_) (fun hc23 => ?_) <;> simp (config := { maxSteps := 10000000 }) only [go_sem, ↓forkQ_true, ↓forkQ_false, ↓guardQ_some, ↓resQ_val, ↓resQ_unit, ↓resQ_enter, ↓retQ_some, ↓resFQ_val, ↓resFQ_unit, ↓resFQ_enter, ↓retFQ_some, Nat.reduceEqDiff, reduceIte, Nat.reduceAdd, Nat.reduceMul, Nat.reduceSub, reduceCtorEq, Nat.reduceLeDiff, f1_9, f4_9, f5_9, f59_9, hadd, g1, irx, irb, iru, hax, hab, hau, hgx, hgb, hgu, hcx, hcb, hcu, q1, q2, q3, q4, q5, q6, gd6, gd14, gd17, gd32, gd40, gd48, gd56, hc23]) | (refine W.fork (fun hc23 => ?_) (fun hc23 => ?_) <;> simp (config := { maxSteps := 10000000 }) only [go_sem, ↓forkQ_true, ↓forkQ_false, ↓guardQ_some, ↓resQ_val, ↓resQ_unit, ↓resQ_enter, ↓retQ_some, ↓resFQ_val, ↓resFQ_unit, ↓resFQ_enter, ↓retFQ_some, Nat.reduceEqDiff, reduceIte, Nat.reduceAdd, Nat.reduceMul, Nat.reduceSub, reduceCtorEq, Nat.reduceLeDiff, f1_9, f4_9, f5_9, f59_9, hadd, g1, irx, irb, iru, hax, hab, hau, hgx, hgb, hgu, hcx, hcb, hcu, q1, q2, q3, q4, q5, q6, gd6, gd14, gd17, gd32, gd40, gd48, gd56, hc23]))
                    all_goals
                      refine hK _ _ ?_
                      clear hK K A gd6 gd14 gd17 gd32 gd40 gd48 gd56
                      refine W.forget (fun e23 he23 => ?_)
                      have f1_23 := congrArg (fun q => Env.get q 1) he23
                      simp only [go_sem, Nat.reduceEqDiff, reduceIte, f1_9] at f1_23
                      have f4_23 := congrArg (fun q => Env.get q 4) he23
                      simp only [go_sem, Nat.reduceEqDiff, reduceIte, f4_9] at f4_23
                      have f5_23 := congrArg (fun q => Env.get q 5) he23
                      simp only [go_sem, Nat.reduceEqDiff, reduceIte, f5_9] at f5_23
                      have f125_23 := congrArg (fun q => Env.get q 125) he23
                      simp only [go_sem, Nat.reduceEqDiff, reduceIte] at f125_23
                      clear he23 f1_9 f4_9 f5_9 f59_9
                      refine W.thenN ?_
                      refine W.cond f125_23 (fun hc24 => ?_) (fun hc24 => ?_)
                      · first
                        | (cases hc24; done)
                        | (exfalso; simp only [decide_eq_true_eq, decide_eq_false_iff_not, Bool.not_eq_true', Bool.not_eq_false', Bool.not_eq_eq_eq_not, Bool.not_true, Bool.not_false] at hc24; omega)
                        | (skip
                           try simp only [decide_eq_true_eq, decide_eq_false_iff_not, Bool.not_eq_true', Bool.not_eq_false', Bool.not_eq_eq_eq_not, Bool.not_true, Bool.not_false] at hc24
                           refine W.seq ?_
                           refine W.region (fun K hK => ?_)
                           simp (config := { maxSteps := 10000000 }) only [go_sem, ↓forkQ_true, ↓forkQ_false, ↓guardQ_some, ↓resQ_val, ↓resQ_unit, ↓resQ_enter, ↓retQ_some, ↓resFQ_val, ↓resFQ_unit, ↓resFQ_enter, ↓retFQ_some, Nat.reduceEqDiff, reduceIte, Nat.reduceAdd, Nat.reduceMul, Nat.reduceSub, reduceCtorEq, Nat.reduceLeDiff, f1_23, f4_23, f5_23, f125_23, hadd, g1, irx, irb, iru, hax, hab, hau, hgx, hgb, hgu, hcx, hcb, hcu, q1, q2, q3, q4, q5, q6]
                           refine hK _ _ ?_
                           clear hK K
                           refine W.forget (fun e25 he25 => ?_)
                           have f1_25 := congrArg (fun q => Env.get q 1) he25
                           simp only [go_sem, Nat.reduceEqDiff, reduceIte, f1_23] at f1_25
                           have f2_25 := congrArg (fun q => Env.get q 2) he25
                           simp only [go_sem, Nat.reduceEqDiff, reduceIte] at f2_25
                           have f3_25 := congrArg (fun q => Env.get q 3) he25
                           simp only [go_sem, Nat.reduceEqDiff, reduceIte] at f3_25
                           have f4_25 := congrArg (fun q => Env.get q 4) he25
                           simp only [go_sem, Nat.reduceEqDiff, reduceIte, f4_23] at f4_25
                           have f5_25 := congrArg (fun q => Env.get q 5) he25
                           simp only [go_sem, Nat.reduceEqDiff, reduceIte, f5_23] at f5_25
                           clear he25 f1_23 f4_23 f5_23 f125_23
                           refine W.thenN ?_
                           refine W.ret ?_
                           refine W.thenR ?_
                           refine W.blockR ?_
                           refine W.thenR ?_
                           refine W.thenR ?_
                           refine W.blockR ?_
                           refine W.thenR ?_
                           rw [doneQ_ret]
                           first
                             | (refine ⟨[.slice none 0 0, .bool false], ?_, ex0.wr, .inl rfl⟩; simp only [go_sem, ↓forkQ_true, ↓forkQ_false, ↓guardQ_some, ↓resQ_val, ↓resQ_unit, ↓resQ_enter, ↓retQ_some, ↓resFQ_val, ↓resFQ_unit, ↓resFQ_enter, ↓retFQ_some, Nat.reduceEqDiff, reduceIte, Nat.reduceAdd, Nat.reduceMul, Nat.reduceSub, reduceCtorEq, Nat.reduceLeDiff, f1_25, f2_25, f3_25, f4_25, f5_25]; done)
                             | (refine ⟨[.slice none 0 0, .bool false], ?_, ex.wr, .inl rfl⟩; simp only [go_sem, ↓forkQ_true, ↓forkQ_false, ↓guardQ_some, ↓resQ_val, ↓resQ_unit, ↓resQ_enter, ↓retQ_some, ↓resFQ_val, ↓resFQ_unit, ↓resFQ_enter, ↓retFQ_some, Nat.reduceEqDiff, reduceIte, Nat.reduceAdd, Nat.reduceMul, Nat.reduceSub, reduceCtorEq, Nat.reduceLeDiff, f1_25, f2_25, f3_25, f4_25, f5_25]; done)
                             | (obtain rfl : i = xs.length := by omega
                                refine ⟨[.slice ar xs.length xs.length, .bool true], by simp only [go_sem, ↓forkQ_true, ↓forkQ_false, ↓guardQ_some, ↓resQ_val, ↓resQ_unit, ↓resQ_enter, ↓retQ_some, ↓resFQ_val, ↓resFQ_unit, ↓resFQ_enter, ↓retFQ_some, Nat.reduceEqDiff, reduceIte, Nat.reduceAdd, Nat.reduceMul, Nat.reduceSub, reduceCtorEq, Nat.reduceLeDiff, f1_25, f2_25, f3_25, f4_25, f5_25], ex.wr, .inr ⟨ar, rfl, ?_, hd, hi.ok⟩⟩
                                have o9 := hi.ol.base (Nat.le_succ h.next)
                                rw [List.take_of_length_le (by rw [linesL_len]; exact Nat.le_refl _)] at o9
                                exact o9))
                      · cases hc24
                  · skip
                    have hlt : i < xs.length := by omega
                    have nb := hd.nb
                    have na := hd.na
                    have irx := inRange_nat hlt
                    have irb := inRange_nat (show i < bs.length by omega)
                    have iru := inRange_nat (show i < us.length by omega)
                    obtain ⟨d1, k1x, hax, hd1, hcx, hlx⟩ := hX.at hlt
                    obtain ⟨d2, k2x, hab, hd2, hcb, hlb⟩ := hB.at (show i < bs.length by omega)
                    obtain ⟨d3, k3x, hau, hd3, hcu, hlu⟩ := hU.at (show i < us.length by omega)
                    have hgx := (ex.get d1 hlx).trans hd1
                    have hgb := (ex.get d2 hlb).trans hd2
                    have hgu := (ex.get d3 hlu).trans hd3
                    refine W.drawA dr25_7 (fun A hA K hK => ?_)
                    have gd6 := guardAt hA (j := 6) (d := 68) rfl
                    have gd14 := guardAt hA (j := 14) (d := 76) rfl
                    have gd17 := guardAt hA (j := 17) (d := 79) rfl
                    have gd32 := guardAt hA (j := 32) (d := 94) rfl
                    have gd40 := guardAt hA (j := 40) (d := 102) rfl
                    have gd48 := guardAt hA (j := 48) (d := 110) rfl
                    have gd56 := guardAt hA (j := 56) (d := 118) rfl
                    clear hA
                    simp (config := { maxSteps := 10000000 }) only [go_sem, ↓forkQ_true, ↓forkQ_false, ↓guardQ_some, ↓resQ_val, ↓resQ_unit, ↓resQ_enter, ↓retQ_some, ↓resFQ_val, ↓resFQ_unit, ↓resFQ_enter, ↓retFQ_some, Nat.reduceEqDiff, reduceIte, Nat.reduceAdd, Nat.reduceMul, Nat.reduceSub, reduceCtorEq, Nat.reduceLeDiff, f1_9, f4_9, f5_9, f59_9, hadd, g1, irx, irb, iru, hax, hab, hau, hgx, hgb, hgu, hcx, hcb, hcu, q1, q2, q3, q4, q5, q6, q7, gd6, gd14, gd17, gd32, gd40, gd48, gd56]
                    repeat' (first | (refine W.forkP (fun hc26 => ?_) (fun hc26 => ?_) <;> simp (config := { maxSteps := 10000000 }) only [go_sem, ↓forkQ_true, ↓forkQ_false, ↓guardQ_some, ↓resQ_val, ↓resQ_unit, ↓resQ_enter, ↓retQ_some, ↓resFQ_val, ↓resFQ_unit, ↓resFQ_enter, ↓retFQ_some, Nat.reduceEqDiff, reduceIte, Nat.reduceAdd, Nat.reduceMul, Nat.reduceSub, reduceCtorEq, Nat.reduceLeDiff, f1_9, f4_9, f5_9, f59_9, hadd, g1, irx, irb, iru, hax, hab, hau, hgx, hgb, hgu, hcx, hcb, hcu, q1, q2, q3, q4, q5, q6, q7, gd6, gd14, gd17, gd32, gd40, gd48, gd56, hc26]) | (refine W.fork (fun hc26 => ?_) (fun hc26 => ?_) <;> simp (config := { maxSteps := 10000000 }) only [go_sem, ↓forkQ_true, ↓forkQ_false, ↓guardQ_some, ↓resQ_val, ↓resQ_unit, ↓resQ_enter, ↓retQ_some, ↓resFQ_val, ↓resFQ_unit, ↓resFQ_enter, ↓retFQ_some, Nat.reduceEqDiff, reduceIte, Nat.reduceAdd, Nat.reduceMul, Nat.reduceSub, reduceCtorEq, Nat.reduceLeDiff, f1_9, f4_9, f5_9, f59_9, hadd, g1, irx, irb, iru, hax, hab, hau, hgx, hgb, hgu, hcx, hcb, hcu, q1, q2, q3, q4, q5, q6, q7, gd6, gd14, gd17, gd32, gd40, gd48, gd56, hc26]))
                    all_goals
                      refine hK _ _ ?_
                      clear hK K A gd6 gd14 gd17 gd32 gd40 gd48 gd56
                      refine W.forget (fun e26 he26 => ?_)
                      have f1_26 := congrArg (fun q => Env.get q 1) he26
                      simp only [go_sem, Nat.reduceEqDiff, reduceIte, f1_9] at f1_26
                      have f4_26 := congrArg (fun q => Env.get q 4) he26
                      simp only [go_sem, Nat.reduceEqDiff, reduceIte, f4_9] at f4_26
                      have f5_26 := congrArg (fun q => Env.get q 5) he26
                      simp only [go_sem, Nat.reduceEqDiff, reduceIte, f5_9] at f5_26
                      have f125_26 := congrArg (fun q => Env.get q 125) he26
                      simp only [go_sem, Nat.reduceEqDiff, reduceIte] at f125_26
                      clear he26 f1_9 f4_9 f5_9 f59_9
                      refine W.thenN ?_
                      refine W.cond f125_26 (fun hc27 => ?_) (fun hc27 => ?_)
                      · first
                        | (cases hc27; done)
                        | (exfalso; simp only [decide_eq_true_eq, decide_eq_false_iff_not, Bool.not_eq_true', Bool.not_eq_false', Bool.not_eq_eq_eq_not, Bool.not_true, Bool.not_false] at hc27; omega)
                        | (skip
                           try simp only [decide_eq_true_eq, decide_eq_false_iff_not, Bool.not_eq_true', Bool.not_eq_false', Bool.not_eq_eq_eq_not, Bool.not_true, Bool.not_false] at hc27
                           refine W.seq ?_
                           refine W.region (fun K hK => ?_)
                           simp (config := { maxSteps := 10000000 }) only [go_sem, ↓forkQ_true, ↓forkQ_false, ↓guardQ_some, ↓resQ_val, ↓resQ_unit, ↓resQ_enter, ↓retQ_some, ↓resFQ_val, ↓resFQ_unit, ↓resFQ_enter, ↓retFQ_some, Nat.reduceEqDiff, reduceIte, Nat.reduceAdd, Nat.reduceMul, Nat.reduceSub, reduceCtorEq, Nat.reduceLeDiff, f1_26, f4_26, f5_26, f125_26, hadd, g1, irx, irb, iru, hax, hab, hau, hgx, hgb, hgu, hcx, hcb, hcu, q1, q2, q3, q4, q5, q6, q7]
                           refine hK _ _ ?_
                           clear hK K
                           refine W.forget (fun e28 he28 => ?_)
                           have f1_28 := congrArg (fun q => Env.get q 1) he28
                           simp only [go_sem, Nat.reduceEqDiff, reduceIte, f1_26] at f1_28
                           have f2_28 := congrArg (fun q => Env.get q 2) he28
                           simp only [go_sem, Nat.reduceEqDiff, reduceIte] at f2_28
                           have f3_28 := congrArg (fun q => Env.get q 3) he28
                           simp only [go_sem, Nat.reduceEqDiff, reduceIte] at f3_28
                           have f4_28 := congrArg (fun q => Env.get q 4) he28
                           simp only [go_sem, Nat.reduceEqDiff, reduceIte, f4_26] at f4_28
                           have f5_28 := congrArg (fun q => Env.get q 5) he28
                           simp only [go_sem, Nat.reduceEqDiff, reduceIte, f5_26] at f5_28
                           clear he28 f1_26 f4_26 f5_26 f125_26
                           refine W.thenN ?_
                           refine W.ret ?_
                           refine W.thenR ?_
                           refine W.blockR ?_
                           refine W.thenR ?_
                           refine W.thenR ?_
                           refine W.blockR ?_
                           refine W.thenR ?_
                           rw [doneQ_ret]
                           first
                             | (refine ⟨[.slice none 0 0, .bool false], ?_, ex0.wr, .inl rfl⟩; simp only [go_sem, ↓forkQ_true, ↓forkQ_false, ↓guardQ_some, ↓resQ_val, ↓resQ_unit, ↓resQ_enter, ↓retQ_some, ↓resFQ_val, ↓resFQ_unit, ↓resFQ_enter, ↓retFQ_some, Nat.reduceEqDiff, reduceIte, Nat.reduceAdd, Nat.reduceMul, Nat.reduceSub, reduceCtorEq, Nat.reduceLeDiff, f1_28, f2_28, f3_28, f4_28, f5_28]; done)
                             | (refine ⟨[.slice none 0 0, .bool false], ?_, ex.wr, .inl rfl⟩; simp only [go_sem, ↓forkQ_true, ↓forkQ_false, ↓guardQ_some, ↓resQ_val, ↓resQ_unit, ↓resQ_enter, ↓retQ_some, ↓resFQ_val, ↓resFQ_unit, ↓resFQ_enter, ↓retFQ_some, Nat.reduceEqDiff, reduceIte, Nat.reduceAdd, Nat.reduceMul, Nat.reduceSub, reduceCtorEq, Nat.reduceLeDiff, f1_28, f2_28, f3_28, f4_28, f5_28]; done)
                             | (obtain rfl : i = xs.length := by omega
                                refine ⟨[.slice ar xs.length xs.length, .bool true], by simp only [go_sem, ↓forkQ_true, ↓forkQ_false, ↓guardQ_some, ↓resQ_val, ↓resQ_unit, ↓resQ_enter, ↓retQ_some, ↓resFQ_val, ↓resFQ_unit, ↓resFQ_enter, ↓retFQ_some, Nat.reduceEqDiff, reduceIte, Nat.reduceAdd, Nat.reduceMul, Nat.reduceSub, reduceCtorEq, Nat.reduceLeDiff, f1_28, f2_28, f3_28, f4_28, f5_28], ex.wr, .inr ⟨ar, rfl, ?_, hd, hi.ok⟩⟩
                                have o9 := hi.ol.base (Nat.le_succ h.next)
                                rw [List.take_of_length_le (by rw [linesL_len]; exact Nat.le_refl _)] at o9
                                exact o9))
                      · cases hc27
                  · skip
                    have hlt : i < xs.length := by omega
                    have nb := hd.nb
                    have na := hd.na
                    have irx := inRange_nat hlt
                    have irb := inRange_nat (show i < bs.length by omega)
                    have iru := inRange_nat (show i < us.length by omega)
                    obtain ⟨d1, k1x, hax, hd1, hcx, hlx⟩ := hX.at hlt
                    obtain ⟨d2, k2x, hab, hd2, hcb, hlb⟩ := hB.at (show i < bs.length by omega)
                    obtain ⟨d3, k3x, hau, hd3, hcu, hlu⟩ := hU.at (show i < us.length by omega)
                    have hgx := (ex.get d1 hlx).trans hd1
                    have hgb := (ex.get d2 hlb).trans hd2
                    have hgu := (ex.get d3 hlu).trans hd3
                    refine W.drawA dr25_7 (fun A hA K hK => ?_)
                    have gd6 := guardAt hA (j := 6) (d := 68) rfl
                    have gd14 := guardAt hA (j := 14) (d := 76) rfl
                    have gd17 := guardAt hA (j := 17) (d := 79) rfl
                    have gd32 := guardAt hA (j := 32) (d := 94) rfl
                    have gd40 := guardAt hA (j := 40) (d := 102) rfl
                    have gd48 := guardAt hA (j := 48) (d := 110) rfl
                    have gd56 := guardAt hA (j := 56) (d := 118) rfl
                    clear hA
                    simp (config := { maxSteps := 10000000 }) only [go_sem, ↓forkQ_true, ↓forkQ_false, ↓guardQ_some, ↓resQ_val, ↓resQ_unit, ↓resQ_enter, ↓retQ_some, ↓resFQ_val, ↓resFQ_unit, ↓resFQ_enter, ↓retFQ_some, Nat.reduceEqDiff, reduceIte, Nat.reduceAdd, Nat.reduceMul, Nat.reduceSub, reduceCtorEq, Nat.reduceLeDiff, f1_9, f4_9, f5_9, f59_9, hadd, g1, irx, irb, iru, hax, hab, hau, hgx, hgb, hgu, hcx, hcb, hcu, q1, q2, q3, q4, q5, q6, q7, gd6, gd14, gd17, gd32, gd40, gd48, gd56]
                    repeat' (first | (refine W.forkP (fun hc29 => ?_) (fun hc29 => ?_) <;> simp (config := { maxSteps := 10000000 }) only [go_sem, ↓forkQ_true, ↓forkQ_false, ↓guardQ_some, ↓resQ_val, ↓resQ_unit, ↓resQ_enter, ↓retQ_some, ↓resFQ_val, ↓resFQ_unit, ↓resFQ_enter, ↓retFQ_some, Nat.reduceEqDiff, reduceIte, Nat.reduceAdd, Nat.reduceMul, Nat.reduceSub, reduceCtorEq, Nat.reduceLeDiff, f1_9, f4_9, f5_9, f59_9, hadd, g1, irx, irb, iru, hax, hab, hau, hgx, hgb, hgu, hcx, hcb, hcu, q1, q2, q3, q4, q5, q6, q7, gd6, gd14, gd17, gd32, gd40, gd48, gd56, hc29]) | (refine W.fork (fun hc29 => ?_) (fun hc29 => ?_) <;> simp (config := { maxSteps := 10000000 }) only [go_sem, ↓forkQ_true, ↓forkQ_false, ↓guardQ_some, ↓resQ_val, ↓resQ_unit, ↓resQ_enter, ↓retQ_some, ↓resFQ_val, ↓resFQ_unit, ↓resFQ_enter, ↓retFQ_some, Nat.reduceEqDiff, reduceIte, Nat.reduceAdd, Nat.reduceMul, Nat.reduceSub, reduceCtorEq, Nat.reduceLeDiff, f1_9, f4_9, f5_9, f59_9, hadd, g1, irx, irb, iru, hax, hab, hau, hgx, hgb, hgu, hcx, hcb, hcu, q1, q2, q3, q4, q5, q6, q7, gd6, gd14, gd17, gd32, gd40, gd48, gd56, hc29]))
                    all_goals
                      refine hK _ _ ?_
                      clear hK K A gd6 gd14 gd17 gd32 gd40 gd48 gd56
                      refine W.forget (fun e29 he29 => ?_)
                      have f1_29 := congrArg (fun q => Env.get q 1) he29
                      simp only [go_sem, Nat.reduceEqDiff, reduceIte, f1_9] at f1_29
                      have f4_29 := congrArg (fun q => Env.get q 4) he29
                      simp only [go_sem, Nat.reduceEqDiff, reduceIte, f4_9] at f4_29
                      have f5_29 := congrArg (fun q => Env.get q 5) he29
                      simp only [go_sem, Nat.reduceEqDiff, reduceIte, f5_9] at f5_29
                      have f125_29 := congrArg (fun q => Env.get q 125) he29
                      simp only [go_sem, Nat.reduceEqDiff, reduceIte] at f125_29
                      clear he29 f1_9 f4_9 f5_9 f59_9
                      refine W.thenN ?_
                      refine W.cond f125_29 (fun hc30 => ?_) (fun hc30 => ?_)
                      · cases hc30
                      · first
                        | (cases hc30; done)
                        | (exfalso; simp only [decide_eq_true_eq, decide_eq_false_iff_not, Bool.not_eq_true', Bool.not_eq_false', Bool.not_eq_eq_eq_not, Bool.not_true, Bool.not_false] at hc30; omega)
                        | (skip
                           try simp only [decide_eq_true_eq, decide_eq_false_iff_not, Bool.not_eq_true', Bool.not_eq_false', Bool.not_eq_eq_eq_not, Bool.not_true, Bool.not_false] at hc30
                           refine W.skip ?_
                           refine W.thenN ?_
                           refine W.seq ?_
                           refine W.draw dr25_9 (fun K hK => ?_)
                           have s1 : wrapF .i64 (B * nat xs i) = B * nat xs i := w_mul (A := 1000) (B := 100000) (by have := hd.b0; have := hd.b1; omega) (by omega) (by omega)
                           have mb := mul_bd (a := B) (b := nat xs i) (A := 1000) (B := 100000) (by have := hd.b0; have := hd.b1; omega) (by omega)
                           have s2 : wrapF .i64 (Y0 + B * nat xs i) = Y0 + B * nat xs i := w64_in _ (by have := hd.a0; have := hd.a1; omega)
                           simp (config := { maxSteps := 10000000 }) only [go_sem, ↓forkQ_true, ↓forkQ_false, ↓guardQ_some, ↓resQ_val, ↓resQ_unit, ↓resQ_enter, ↓retQ_some, ↓resFQ_val, ↓resFQ_unit, ↓resFQ_enter, ↓retFQ_some, Nat.reduceEqDiff, reduceIte, Nat.reduceAdd, Nat.reduceMul, Nat.reduceSub, reduceCtorEq, Nat.reduceLeDiff, f1_29, f4_29, f5_29, f125_29, hadd, g1, irx, irb, iru, hax, hab, hau, hgx, hgb, hgu, hcx, hcb, hcu, q1, q2, q3, q4, q5, q6, q7, s1, s2]
                           refine hK _ _ ?_
                           clear hK K
                           refine W.forget (fun e31 he31 => ?_)
                           have f1_31 := congrArg (fun q => Env.get q 1) he31
                           simp only [go_sem, Nat.reduceEqDiff, reduceIte, f1_29] at f1_31
                           have f4_31 := congrArg (fun q => Env.get q 4) he31
                           simp only [go_sem, Nat.reduceEqDiff, reduceIte, f4_29] at f4_31
                           have f5_31 := congrArg (fun q => Env.get q 5) he31
                           simp only [go_sem, Nat.reduceEqDiff, reduceIte, f5_29] at f5_31
                           have f6_31 := congrArg (fun q => Env.get q 6) he31
                           simp only [go_sem, Nat.reduceEqDiff, reduceIte] at f6_31
                           clear he31 f1_29 f4_29 f5_29 f125_29
                           refine W.thenN ?_
                           refine W.draw dr25_10 (fun K hK => ?_)
                           have s3 : wrapF .i64 (Y0 + B * nat xs i - nat bs i) = Y0 + B * nat xs i - nat bs i := w64_in _ (by have := hd.a0; have := hd.a1; omega)
                           have s4 : wrapF .i64 (Y0 + B * nat xs i + nat us i) = Y0 + B * nat xs i + nat us i := w64_in _ (by have := hd.a0; have := hd.a1; omega)
                           have o1 := hi.ol.alloc ⟨[.int .i64 (nat xs i), .int .i64 (Y0 + B * nat xs i - nat bs i), .int .i64 (Y0 + B * nat xs i + nat us i)], true, false, none⟩
                           obtain ⟨a2, c2, rd, fe, hapn, o2, hx2, hc2, hn2, hg2⟩ := o1.append2 (bytes := 24) (Heap.get_alloc_same _ _) rfl (by omega) (Nat.le_succ_of_le nx)
                           obtain rfl := hc2 rfl
                           simp (config := { maxSteps := 10000000 }) only [go_sem, ↓forkQ_true, ↓forkQ_false, ↓guardQ_some, ↓resQ_val, ↓resQ_unit, ↓resQ_enter, ↓retQ_some, ↓resFQ_val, ↓resFQ_unit, ↓resFQ_enter, ↓retFQ_some, Nat.reduceEqDiff, reduceIte, Nat.reduceAdd, Nat.reduceMul, Nat.reduceSub, reduceCtorEq, Nat.reduceLeDiff, f1_31, f4_31, f5_31, f6_31, hadd, g1, irx, irb, iru, hax, hab, hau, hgx, hgb, hgu, hcx, hcb, hcu, q1, q2, q3, q4, q5, q6, q7, s1, s2, s3, s4, hapn]
                           refine hK _ _ ?_
                           clear hK K
                           refine W.forget (fun e32 he32 => ?_)
                           have f1_32 := congrArg (fun q => Env.get q 1) he32
                           simp only [go_sem, Nat.reduceEqDiff, reduceIte, f1_31] at f1_32
                           have f4_32 := congrArg (fun q => Env.get q 4) he32
                           simp only [go_sem, Nat.reduceEqDiff, reduceIte, f4_31] at f4_32
                           have f5_32 := congrArg (fun q => Env.get q 5) he32
                           simp only [go_sem, Nat.reduceEqDiff, reduceIte, f5_31] at f5_32
                           clear he32 f1_31 f4_31 f5_31 f6_31
                           refine W.blockN ?_
                           refine W.thenN ?_
                           refine W.region (fun K hK => ?_)
                           simp (config := { maxSteps := 10000000 }) only [go_sem, ↓forkQ_true, ↓forkQ_false, ↓guardQ_some, ↓resQ_val, ↓resQ_unit, ↓resQ_enter, ↓retQ_some, ↓resFQ_val, ↓resFQ_unit, ↓resFQ_enter, ↓retFQ_some, Nat.reduceEqDiff, reduceIte, Nat.reduceAdd, Nat.reduceMul, Nat.reduceSub, reduceCtorEq, Nat.reduceLeDiff, f1_32, f4_32, f5_32, hadd, g1, irx, irb, iru, hax, hab, hau, hgx, hgb, hgu, hcx, hcb, hcu, q1, q2, q3, q4, q5, q6, q7, s1, s2, s3, s4, hapn]
                           refine hK _ _ ?_
                           clear hK K
                           refine W.forget (fun e33 he33 => ?_)
                           have f1_33 := congrArg (fun q => Env.get q 1) he33
                           simp only [go_sem, Nat.reduceEqDiff, reduceIte, f1_32] at f1_33
                           have f4_33 := congrArg (fun q => Env.get q 4) he33
                           simp only [go_sem, Nat.reduceEqDiff, reduceIte, f4_32] at f4_33
                           have f5_33 := congrArg (fun q => Env.get q 5) he33
                           simp only [go_sem, Nat.reduceEqDiff, reduceIte, f5_32] at f5_33
                           clear he33 f1_32 f4_32 f5_32
                           refine W.thenN ?_
                           have hok2 : ∀ j, j < i + 1 → ItemOk xs bs us j := fun j hj => by
                             by_cases hji : j < i
                             · exact hi.ok j hji
                             · obtain rfl : j = i := by omega
                               exact ⟨by omega, by omega, fun _ => by omega, by omega, by omega, by omega, by omega⟩
                           exact ⟨(i + 1, a2), by dsimp only; omega, ⟨hx2 h (Nat.le_succ _) (ex.alloc _), Nat.le_trans (Nat.le_succ_of_le nx) hn2, (hg2 _ (Nat.lt_succ_self _)).trans ((Heap.get_alloc_ne k1 _ (by omega)).trans hi.g1), f1_33, f4_33, f5_33, by dsimp only; omega, by dsimp only; rw [take_succ_gt _ i (by rw [linesL_len]; exact hlt), gcells_app, linesL_at _ _ _ _ _ hlt]; exact o2, hok2⟩⟩)
                  · skip
                    have hlt : i < xs.length := by omega
                    have nb := hd.nb
                    have na := hd.na
                    have irx := inRange_nat hlt
                    have irb := inRange_nat (show i < bs.length by omega)
                    have iru := inRange_nat (show i < us.length by omega)
                    obtain ⟨d1, k1x, hax, hd1, hcx, hlx⟩ := hX.at hlt
                    obtain ⟨d2, k2x, hab, hd2, hcb, hlb⟩ := hB.at (show i < bs.length by omega)
                    obtain ⟨d3, k3x, hau, hd3, hcu, hlu⟩ := hU.at (show i < us.length by omega)
                    have hgx := (ex.get d1 hlx).trans hd1
                    have hgb := (ex.get d2 hlb).trans hd2
                    have hgu := (ex.get d3 hlu).trans hd3
                    have w1 : wrapF .i64 ((i : Int) - 1) = ((i - 1 : Nat) : Int) := by rw [w64_in _ (by omega)]; omega
                    have irp := inRange_nat (show i - 1 < xs.length by omega)
                    obtain ⟨d4, k4x, hap, hd4, hcp, hlp⟩ := hX.at (i := i - 1) (by omega)
                    have hbb : d1 = d4 := by rw [hax] at hap; cases hap; rfl
                    subst hbb
                    have hbk : k1x = k4x := by rw [hd1] at hd4; exact Option.some.inj hd4
                    subst hbk
                    refine W.drawA dr25_7 (fun A hA K hK => ?_)
                    have gd6 := guardAt hA (j := 6) (d := 68) rfl
                    have gd14 := guardAt hA (j := 14) (d := 76) rfl
                    have gd17 := guardAt hA (j := 17) (d := 79) rfl
                    have gd32 := guardAt hA (j := 32) (d := 94) rfl
                    have gd40 := guardAt hA (j := 40) (d := 102) rfl
                    have gd48 := guardAt hA (j := 48) (d := 110) rfl
                    have gd56 := guardAt hA (j := 56) (d := 118) rfl
                    clear hA
                    simp (config := { maxSteps := 10000000 }) only [go_sem, ↓forkQ_true, ↓forkQ_false, ↓guardQ_some, ↓resQ_val, ↓resQ_unit, ↓resQ_enter, ↓retQ_some, ↓resFQ_val, ↓resFQ_unit, ↓resFQ_enter, ↓retFQ_some, Nat.reduceEqDiff, reduceIte, Nat.reduceAdd, Nat.reduceMul, Nat.reduceSub, reduceCtorEq, Nat.reduceLeDiff, f1_9, f4_9, f5_9, f59_9, hadd, g1, irx, irb, iru, hax, hab, hau, hgx, hgb, hgu, hcx, hcb, hcu, w1, irp, hcp, q1, q2, q3, q4, gd6, gd14, gd17, gd32, gd40, gd48, gd56]
                    repeat' (first | (refine W.forkP (fun hc34 => ?_) (fun hc34 => ?_) <;> simp (config := { maxSteps := 10000000 }) only [go_sem, ↓forkQ_true, ↓forkQ_false, ↓guardQ_some, ↓resQ_val, ↓resQ_unit, ↓resQ_enter, ↓retQ_some, ↓resFQ_val, ↓resFQ_unit, ↓resFQ_enter, ↓retFQ_some, Nat.reduceEqDiff, reduceIte, Nat.reduceAdd, Nat.reduceMul, Nat.reduceSub, reduceCtorEq, Nat.reduceLeDiff, f1_9, f4_9, f5_9, f59_9, hadd, g1, irx, irb, iru, hax, hab, hau, hgx, hgb, hgu, hcx, hcb, hcu, w1, irp, hcp, q1, q2, q3, q4, gd6, gd14, gd17, gd32, gd40, gd48, gd56, hc34]) | (refine W.fork (fun hc34 => ?_) (fun hc34 => ?_) <;> simp (config := { maxSteps := 10000000 }) only [go_sem, ↓forkQ_true, ↓forkQ_false, ↓guardQ_some, ↓resQ_val, ↓resQ_unit, ↓resQ_enter, ↓retQ_some, ↓resFQ_val, ↓resFQ_unit, ↓resFQ_enter, ↓retFQ_some, Nat.reduceEqDiff, reduceIte, Nat.reduceAdd, Nat.reduceMul, Nat.reduceSub, reduceCtorEq, Nat.reduceLeDiff, f1_9, f4_9, f5_9, f59_9, hadd, g1, irx, irb, iru, hax, hab, hau, hgx, hgb, hgu, hcx, hcb, hcu, w1, irp, hcp, q1, q2, q3, q4, gd6, gd14, gd17, gd32, gd40, gd48, gd56, hc34]))
                    all_goals
                      refine hK _ _ ?_
                      clear hK K A gd6 gd14 gd17 gd32 gd40 gd48 gd56
                      refine W.forget (fun e34 he34 => ?_)
                      have f1_34 := congrArg (fun q => Env.get q 1) he34
                      simp only [go_sem, Nat.reduceEqDiff, reduceIte, f1_9] at f1_34
                      have f4_34 := congrArg (fun q => Env.get q 4) he34
                      simp only [go_sem, Nat.reduceEqDiff, reduceIte, f4_9] at f4_34
                      have f5_34 := congrArg (fun q => Env.get q 5) he34
                      simp only [go_sem, Nat.reduceEqDiff, reduceIte, f5_9] at f5_34
                      have f125_34 := congrArg (fun q => Env.get q 125) he34
                      simp only [go_sem, Nat.reduceEqDiff, reduceIte] at f125_34
                      clear he34 f1_9 f4_9 f5_9 f59_9
                      refine W.thenN ?_
                      refine W.cond f125_34 (fun hc35 => ?_) (fun hc35 => ?_)
                      · first
                        | (cases hc35; done)
                        | (exfalso; simp only [decide_eq_true_eq, decide_eq_false_iff_not, Bool.not_eq_true', Bool.not_eq_false', Bool.not_eq_eq_eq_not, Bool.not_true, Bool.not_false] at hc35; omega)
                        | (skip
                           try simp only [decide_eq_true_eq, decide_eq_false_iff_not, Bool.not_eq_true', Bool.not_eq_false', Bool.not_eq_eq_eq_not, Bool.not_true, Bool.not_false] at hc35
                           refine W.seq ?_
                           refine W.region (fun K hK => ?_)
                           simp (config := { maxSteps := 10000000 }) only [go_sem, ↓forkQ_true, ↓forkQ_false, ↓guardQ_some, ↓resQ_val, ↓resQ_unit, ↓resQ_enter, ↓retQ_some, ↓resFQ_val, ↓resFQ_unit, ↓resFQ_enter, ↓retFQ_some, Nat.reduceEqDiff, reduceIte, Nat.reduceAdd, Nat.reduceMul, Nat.reduceSub, reduceCtorEq, Nat.reduceLeDiff, f1_34, f4_34, f5_34, f125_34, hadd, g1, irx, irb, iru, hax, hab, hau, hgx, hgb, hgu, hcx, hcb, hcu, w1, irp, hcp, q1, q2, q3, q4]
                           refine hK _ _ ?_
                           clear hK K
                           refine W.forget (fun e36 he36 => ?_)
                           have f1_36 := congrArg (fun q => Env.get q 1) he36
                           simp only [go_sem, Nat.reduceEqDiff, reduceIte, f1_34] at f1_36
                           have f2_36 := congrArg (fun q => Env.get q 2) he36
                           simp only [go_sem, Nat.reduceEqDiff, reduceIte] at f2_36
                           have f3_36 := congrArg (fun q => Env.get q 3) he36
                           simp only [go_sem, Nat.reduceEqDiff, reduceIte] at f3_36
                           have f4_36 := congrArg (fun q => Env.get q 4) he36
                           simp only [go_sem, Nat.reduceEqDiff, reduceIte, f4_34] at f4_36
                           have f5_36 := congrArg (fun q => Env.get q 5) he36
                           simp only [go_sem, Nat.reduceEqDiff, reduceIte, f5_34] at f5_36
                           clear he36 f1_34 f4_34 f5_34 f125_34
                           refine W.thenN ?_
                           refine W.ret ?_
                           refine W.thenR ?_
                           refine W.blockR ?_
                           refine W.thenR ?_
                           refine W.thenR ?_
                           refine W.blockR ?_
                           refine W.thenR ?_
                           rw [doneQ_ret]
                           first
                             | (refine ⟨[.slice none 0 0, .bool false], ?_, ex0.wr, .inl rfl⟩; simp only [go_sem, ↓forkQ_true, ↓forkQ_false, ↓guardQ_some, ↓resQ_val, ↓resQ_unit, ↓resQ_enter, ↓retQ_some, ↓resFQ_val, ↓resFQ_unit, ↓resFQ_enter, ↓retFQ_some, Nat.reduceEqDiff, reduceIte, Nat.reduceAdd, Nat.reduceMul, Nat.reduceSub, reduceCtorEq, Nat.reduceLeDiff, f1_36, f2_36, f3_36, f4_36, f5_36]; done)
                             | (refine ⟨[.slice none 0 0, .bool false], ?_, ex.wr, .inl rfl⟩; simp only [go_sem, ↓forkQ_true, ↓forkQ_false, ↓guardQ_some, ↓resQ_val, ↓resQ_unit, ↓resQ_enter, ↓retQ_some, ↓resFQ_val, ↓resFQ_unit, ↓resFQ_enter, ↓retFQ_some, Nat.reduceEqDiff, reduceIte, Nat.reduceAdd, Nat.reduceMul, Nat.reduceSub, reduceCtorEq, Nat.reduceLeDiff, f1_36, f2_36, f3_36, f4_36, f5_36]; done)
                             | (obtain rfl : i = xs.length := by omega
                                refine ⟨[.slice ar xs.length xs.length, .bool true], by simp only [go_sem, ↓forkQ_true, ↓forkQ_false, ↓guardQ_some, ↓resQ_val, ↓resQ_unit, ↓resQ_enter, ↓retQ_some, ↓resFQ_val, ↓resFQ_unit, ↓resFQ_enter, ↓retFQ_some, Nat.reduceEqDiff, reduceIte, Nat.reduceAdd, Nat.reduceMul, Nat.reduceSub, reduceCtorEq, Nat.reduceLeDiff, f1_36, f2_36, f3_36, f4_36, f5_36], ex.wr, .inr ⟨ar, rfl, ?_, hd, hi.ok⟩⟩
                                have o9 := hi.ol.base (Nat.le_succ h.next)
                                rw [List.take_of_length_le (by rw [linesL_len]; exact Nat.le_refl _)] at o9
                                exact o9))
                      · cases hc35
                  · skip
                    have hlt : i < xs.length := by omega
                    have nb := hd.nb
                    have na := hd.na
                    have irx := inRange_nat hlt
                    have irb := inRange_nat (show i < bs.length by omega)
                    have iru := inRange_nat (show i < us.length by omega)
                    obtain ⟨d1, k1x, hax, hd1, hcx, hlx⟩ := hX.at hlt
                    obtain ⟨d2, k2x, hab, hd2, hcb, hlb⟩ := hB.at (show i < bs.length by omega)
                    obtain ⟨d3, k3x, hau, hd3, hcu, hlu⟩ := hU.at (show i < us.length by omega)
                    have hgx := (ex.get d1 hlx).trans hd1
                    have hgb := (ex.get d2 hlb).trans hd2
                    have hgu := (ex.get d3 hlu).trans hd3
                    have w1 : wrapF .i64 ((i : Int) - 1) = ((i - 1 : Nat) : Int) := by rw [w64_in _ (by omega)]; omega
                    have irp := inRange_nat (show i - 1 < xs.length by omega)
                    obtain ⟨d4, k4x, hap, hd4, hcp, hlp⟩ := hX.at (i := i - 1) (by omega)
                    have hbb : d1 = d4 := by rw [hax] at hap; cases hap; rfl
                    subst hbb
                    have hbk : k1x = k4x := by rw [hd1] at hd4; exact Option.some.inj hd4
                    subst hbk
                    refine W.drawA dr25_7 (fun A hA K hK => ?_)
                    have gd6 := guardAt hA (j := 6) (d := 68) rfl
                    have gd14 := guardAt hA (j := 14) (d := 76) rfl
                    have gd17 := guardAt hA (j := 17) (d := 79) rfl
                    have gd32 := guardAt hA (j := 32) (d := 94) rfl
                    have gd40 := guardAt hA (j := 40) (d := 102) rfl
                    have gd48 := guardAt hA (j := 48) (d := 110) rfl
                    have gd56 := guardAt hA (j := 56) (d := 118) rfl
                    clear hA
                    simp (config := { maxSteps := 10000000 }) only [go_sem, ↓forkQ_true, ↓forkQ_false, ↓guardQ_some, ↓resQ_val, ↓resQ_unit, ↓resQ_enter, ↓retQ_some, ↓resFQ_val, ↓resFQ_unit, ↓resFQ_enter, ↓retFQ_some, Nat.reduceEqDiff, reduceIte, Nat.reduceAdd, Nat.reduceMul, Nat.reduceSub, reduceCtorEq, Nat.reduceLeDiff, f1_9, f4_9, f5_9, f59_9, hadd, g1, irx, irb, iru, hax, hab, hau, hgx, hgb, hgu, hcx, hcb, hcu, w1, irp, hcp, q1, q2, q3, q4, q5, gd6, gd14, gd17, gd32, gd40, gd48, gd56]
                    repeat' (first | (refine W.forkP (fun hc37 => ?_) (fun hc37 => ?_) <;> simp (config := { maxSteps := 10000000 }) only [go_sem, ↓forkQ_true, ↓forkQ_false, ↓guardQ_some, ↓resQ_val, ↓resQ_unit, ↓resQ_enter, ↓retQ_some, ↓resFQ_val, ↓resFQ_unit, ↓resFQ_enter, ↓retFQ_some, Nat.reduceEqDiff, reduceIte, Nat.reduceAdd, Nat.reduceMul, Nat.reduceSub, reduceCtorEq, Nat.reduceLeDiff, f1_9, f4_9, f5_9, f59_9, hadd, g1, irx, irb, iru, hax, hab, hau, hgx, hgb, hgu, hcx, hcb, hcu, w1, irp, hcp, q1, q2, q3, q4, q5, gd6, gd14, gd17, gd32, gd40, gd48, gd56, hc37]) | (refine W.fork (fun hc37 => ?_) (fun hc37 => ?_) <;> simp (config := { maxSteps := 10000000 }) only [go_sem, ↓forkQ_true, ↓forkQ_false, ↓guardQ_some, ↓resQ_val, ↓resQ_unit, ↓resQ_enter, ↓retQ_some, ↓resFQ_val, ↓resFQ_unit, ↓resFQ_enter, ↓retFQ_some, Nat.reduceEqDiff, reduceIte, Nat.reduceAdd, Nat.reduceMul, Nat.reduceSub, reduceCtorEq, Nat.reduceLeDiff, f1_9, f4_9, f5_9, f59_9, hadd, g1, irx, irb, iru, hax, hab, hau, hgx, hgb, hgu, hcx, hcb, hcu, w1, irp, hcp, q1, q2, q3, q4, q5, gd6, gd14, gd17, gd32, gd40, gd48, gd56, hc37]))
                    all_goals
                      refine hK _ _ ?_
                      clear hK K A gd6 gd14 gd17 gd32 gd40 gd48 gd56
                      refine W.forget (fun e37 he37 => ?_)
                      have f1_37 := congrArg (fun q => Env.get q 1) he37
                      simp only [go_sem, Nat.reduceEqDiff, reduceIte, f1_9] at f1_37
                      have f4_37 := congrArg (fun q => Env.get q 4) he37
                      simp only [go_sem, Nat.reduceEqDiff, reduceIte, f4_9] at f4_37
                      have f5_37 := congrArg (fun q => Env.get q 5) he37
                      simp only [go_sem, Nat.reduceEqDiff, reduceIte, f5_9] at f5_37
                      have f125_37 := congrArg (fun q => Env.get q 125) he37
                      simp only [go_sem, Nat.reduceEqDiff, reduceIte] at f125_37
                      clear he37 f1_9 f4_9 f5_9 f59_9
                      refine W.thenN ?_
                      refine W.cond f125_37 (fun hc38 => ?_) (fun hc38 => ?_)
                      · first
                        | (cases hc38; done)
                        | (exfalso; simp only [decide_eq_true_eq, decide_eq_false_iff_not, Bool.not_eq_true', Bool.not_eq_false', Bool.not_eq_eq_eq_not, Bool.not_true, Bool.not_false] at hc38; omega)
                        | (skip
                           try simp only [decide_eq_true_eq, decide_eq_false_iff_not, Bool.not_eq_true', Bool.not_eq_false', Bool.not_eq_eq_eq_not, Bool.not_true, Bool.not_false] at hc38
                           refine W.seq ?_
                           refine W.region (fun K hK => ?_)
                           simp (config := { maxSteps := 10000000 }) only [go_sem, ↓forkQ_true, ↓forkQ_false, ↓guardQ_some, ↓resQ_val, ↓resQ_unit, ↓resQ_enter, ↓retQ_some, ↓resFQ_val, ↓resFQ_unit, ↓resFQ_enter, ↓retFQ_some, Nat.reduceEqDiff, reduceIte, Nat.reduceAdd, Nat.reduceMul, Nat.reduceSub, reduceCtorEq, Nat.reduceLeDiff, f1_37, f4_37, f5_37, f125_37, hadd, g1, irx, irb, iru, hax, hab, hau, hgx, hgb, hgu, hcx, hcb, hcu, w1, irp, hcp, q1, q2, q3, q4, q5]
                           refine hK _ _ ?_
                           clear hK K
                           refine W.forget (fun e39 he39 => ?_)
                           have f1_39 := congrArg (fun q => Env.get q 1) he39
                           simp only [go_sem, Nat.reduceEqDiff, reduceIte, f1_37] at f1_39
                           have f2_39 := congrArg (fun q => Env.get q 2) he39
                           simp only [go_sem, Nat.reduceEqDiff, reduceIte] at f2_39
                           have f3_39 := congrArg (fun q => Env.get q 3) he39
                           simp only [go_sem, Nat.reduceEqDiff, reduceIte] at f3_39
                           have f4_39 := congrArg (fun q => Env.get q 4) he39
                           simp only [go_sem, Nat.reduceEqDiff, reduceIte, f4_37] at f4_39
                           have f5_39 := congrArg (fun q => Env.get q 5) he39
                           simp only [go_sem, Nat.reduceEqDiff, reduceIte, f5_37] at f5_39
                           clear he39 f1_37 f4_37 f5_37 f125_37
                           refine W.thenN ?_
                           refine W.ret ?_
                           refine W.thenR ?_
                           refine W.blockR ?_
                           refine W.thenR ?_
                           refine W.thenR ?_
                           refine W.blockR ?_
                           refine W.thenR ?_
                           rw [doneQ_ret]
                           first
                             | (refine ⟨[.slice none 0 0, .bool false], ?_, ex0.wr, .inl rfl⟩; simp only [go_sem, ↓forkQ_true, ↓forkQ_false, ↓guardQ_some, ↓resQ_val, ↓resQ_unit, ↓resQ_enter, ↓retQ_some, ↓resFQ_val, ↓resFQ_unit, ↓resFQ_enter, ↓retFQ_some, Nat.reduceEqDiff, reduceIte, Nat.reduceAdd, Nat.reduceMul, Nat.reduceSub, reduceCtorEq, Nat.reduceLeDiff, f1_39, f2_39, f3_39, f4_39, f5_39]; done)
                             | (refine ⟨[.slice none 0 0, .bool false], ?_, ex.wr, .inl rfl⟩; simp only [go_sem, ↓forkQ_true, ↓forkQ_false, ↓guardQ_some, ↓resQ_val, ↓resQ_unit, ↓resQ_enter, ↓retQ_some, ↓resFQ_val, ↓resFQ_unit, ↓resFQ_enter, ↓retFQ_some, Nat.reduceEqDiff, reduceIte, Nat.reduceAdd, Nat.reduceMul, Nat.reduceSub, reduceCtorEq, Nat.reduceLeDiff, f1_39, f2_39, f3_39, f4_39, f5_39]; done)
                             | (obtain rfl : i = xs.length := by omega
                                refine ⟨[.slice ar xs.length xs.length, .bool true], by simp only [go_sem, ↓forkQ_true, ↓forkQ_false, ↓guardQ_some, ↓resQ_val, ↓resQ_unit, ↓resQ_enter, ↓retQ_some, ↓resFQ_val, ↓resFQ_unit, ↓resFQ_enter, ↓retFQ_some, Nat.reduceEqDiff, reduceIte, Nat.reduceAdd, Nat.reduceMul, Nat.reduceSub, reduceCtorEq, Nat.reduceLeDiff, f1_39, f2_39, f3_39, f4_39, f5_39], ex.wr, .inr ⟨ar, rfl, ?_, hd, hi.ok⟩⟩
                                have o9 := hi.ol.base (Nat.le_succ h.next)
                                rw [List.take_of_length_le (by rw [linesL_len]; exact Nat.le_refl _)] at o9
                                exact o9))
                      · cases hc38
                  · skip
                    have hlt : i < xs.length := by omega
                    have nb := hd.nb
                    have na := hd.na
                    have irx := inRange_nat hlt
                    have irb := inRange_nat (show i < bs.length by omega)
                    have iru := inRange_nat (show i < us.length by omega)
                    obtain ⟨d1, k1x, hax, hd1, hcx, hlx⟩ := hX.at hlt
                    obtain ⟨d2, k2x, hab, hd2, hcb, hlb⟩ := hB.at (show i < bs.length by omega)
                    obtain ⟨d3, k3x, hau, hd3, hcu, hlu⟩ := hU.at (show i < us.length by omega)
                    have hgx := (ex.get d1 hlx).trans hd1
                    have hgb := (ex.get d2 hlb).trans hd2
                    have hgu := (ex.get d3 hlu).trans hd3
                    have w1 : wrapF .i64 ((i : Int) - 1) = ((i - 1 : Nat) : Int) := by rw [w64_in _ (by omega)]; omega
                    have irp := inRange_nat (show i - 1 < xs.length by omega)
                    obtain ⟨d4, k4x, hap, hd4, hcp, hlp⟩ := hX.at (i := i - 1) (by omega)
                    have hbb : d1 = d4 := by rw [hax] at hap; cases hap; rfl
                    subst hbb
                    have hbk : k1x = k4x := by rw [hd1] at hd4; exact Option.some.inj hd4
                    subst hbk
                    refine W.drawA dr25_7 (fun A hA K hK => ?_)
                    have gd6 := guardAt hA (j := 6) (d := 68) rfl
                    have gd14 := guardAt hA (j := 14) (d := 76) rfl
                    have gd17 := guardAt hA (j := 17) (d := 79) rfl
                    have gd32 := guardAt hA (j := 32) (d := 94) rfl
                    have gd40 := guardAt hA (j := 40) (d := 102) rfl
                    have gd48 := guardAt hA (j := 48) (d := 110) rfl
                    have gd56 := guardAt hA (j := 56) (d := 118) rfl
                    clear hA
                    simp (config := { maxSteps := 10000000 }) only [go_sem, ↓forkQ_true, ↓forkQ_false, ↓guardQ_some, ↓resQ_val, ↓resQ_unit, ↓resQ_enter, ↓retQ_some, ↓resFQ_val, ↓resFQ_unit, ↓resFQ_enter, ↓retFQ_some, Nat.reduceEqDiff, reduceIte, Nat.reduceAdd, Nat.reduceMul, Nat.reduceSub, reduceCtorEq, Nat.reduceLeDiff, f1_9, f4_9, f5_9, f59_9, hadd, g1, irx, irb, iru, hax, hab, hau, hgx, hgb, hgu, hcx, hcb, hcu, w1, irp, hcp, q1, q2, q3, q4, q5, q6, gd6, gd14, gd17, gd32, gd40, gd48, gd56]
                    repeat' (first | (refine W.forkP (fun hc40 => ?_) (fun hc40 => ?_) <;> simp (config := { maxSteps := 10000000 }) only [go_sem, ↓forkQ_true, ↓forkQ_false, ↓guardQ_some, ↓resQ_val, ↓resQ_unit, ↓resQ_enter, ↓retQ_some, ↓resFQ_val, ↓resFQ_unit, ↓resFQ_enter, ↓retFQ_some, Nat.reduceEqDiff, reduceIte, Nat.reduceAdd, Nat.reduceMul, Nat.reduceSub, reduceCtorEq, Nat.reduceLeDiff, f1_9, f4_9, f5_9, f59_9, hadd, g1, irx, irb, iru, hax, hab, hau, hgx, hgb, hgu, hcx, hcb, hcu, w1, irp, hcp, q1, q2, q3, q4, q5, q6, gd6, gd14, gd17, gd32, gd40, gd48, gd56, hc40]) | (refine W.fork (fun hc40 => ?_) (fun hc40 => ?_) <;> simp (config := { maxSteps := 10000000 }) only [go_sem, ↓forkQ_true, ↓forkQ_false, ↓guardQ_some, ↓resQ_val, ↓resQ_unit, ↓resQ_enter, ↓retQ_some, ↓resFQ_val, ↓resFQ_unit, ↓resFQ_enter, ↓retFQ_some, Nat.reduceEqDiff, reduceIte, Nat.reduceAdd, Nat.reduceMul, Nat.reduceSub, reduceCtorEq, Nat.reduceLeDiff, f1_9, f4_9, f5_9, f59_9, hadd, g1, irx, irb, iru, hax, hab, hau, hgx, hgb, hgu, hcx, hcb, hcu, w1, irp, hcp, q1, q2, q3, q4, q5, q6, gd6, gd14, gd17, gd32, gd40, gd48, gd56, hc40]))
                    all_goals
                      refine hK _ _ ?_
                      clear hK K A gd6 gd14 gd17 gd32 gd40 gd48 gd56
                      refine W.forget (fun e40 he40 => ?_)
                      have f1_40 := congrArg (fun q => Env.get q 1) he40
                      simp only [go_sem, Nat.reduceEqDiff, reduceIte, f1_9] at f1_40
                      have f4_40 := congrArg (fun q => Env.get q 4) he40
                      simp only [go_sem, Nat.reduceEqDiff, reduceIte, f4_9] at f4_40
                      have f5_40 := congrArg (fun q => Env.get q 5) he40
                      simp only [go_sem, Nat.reduceEqDiff, reduceIte, f5_9] at f5_40
                      have f125_40 := congrArg (fun q => Env.get q 125) he40
                      simp only [go_sem, Nat.reduceEqDiff, reduceIte] at f125_40
                      clear he40 f1_9 f4_9 f5_9 f59_9
                      refine W.thenN ?_
                      refine W.cond f125_40 (fun hc41 => ?_) (fun hc41 => ?_)
                      · first
                        | (cases hc41; done)
                        | (exfalso; simp only [decide_eq_true_eq, decide_eq_false_iff_not, Bool.not_eq_true', Bool.not_eq_false', Bool.not_eq_eq_eq_not, Bool.not_true, Bool.not_false] at hc41; omega)
                        | (skip
                           try simp only [decide_eq_true_eq, decide_eq_false_iff_not, Bool.not_eq_true', Bool.not_eq_false', Bool.not_eq_eq_eq_not, Bool.not_true, Bool.not_false] at hc41
                           refine W.seq ?_
                           refine W.region (fun K hK => ?_)
                           simp (config := { maxSteps := 10000000 }) only [go_sem, ↓forkQ_true, ↓forkQ_false, ↓guardQ_some, ↓resQ_val, ↓resQ_unit, ↓resQ_enter, ↓retQ_some, ↓resFQ_val, ↓resFQ_unit, ↓resFQ_enter, ↓retFQ_some, Nat.reduceEqDiff, reduceIte, Nat.reduceAdd, Nat.reduceMul, Nat.reduceSub, reduceCtorEq, Nat.reduceLeDiff, f1_40, f4_40, f5_40, f125_40, hadd, g1, irx, irb, iru, hax, hab, hau, hgx, hgb, hgu, hcx, hcb, hcu, w1, irp, hcp, q1, q2, q3, q4, q5, q6]
                           refine hK _ _ ?_
                           clear hK K
                           refine W.forget (fun e42 he42 => ?_)
                           have f1_42 := congrArg (fun q => Env.get q 1) he42
                           simp only [go_sem, Nat.reduceEqDiff, reduceIte, f1_40] at f1_42
                           have f2_42 := congrArg (fun q => Env.get q 2) he42
                           simp only [go_sem, Nat.reduceEqDiff, reduceIte] at f2_42
                           have f3_42 := congrArg (fun q => Env.get q 3) he42
                           simp only [go_sem, Nat.reduceEqDiff, reduceIte] at f3_42
                           have f4_42 := congrArg (fun q => Env.get q 4) he42
                           simp only [go_sem, Nat.reduceEqDiff, reduceIte, f4_40] at f4_42
                           have f5_42 := congrArg (fun q => Env.get q 5) he42
                           simp only [go_sem, Nat.reduceEqDiff, reduceIte, f5_40] at f5_42
                           clear he42 f1_40 f4_40 f5_40 f125_40
                           refine W.thenN ?_
                           refine W.ret ?_
                           refine W.thenR ?_
                           refine W.blockR ?_
                           refine W.thenR ?_
                           refine W.thenR ?_
                           refine W.blockR ?_
                           refine W.thenR ?_
                           rw [doneQ_ret]
                           first
                             | (refine ⟨[.slice none 0 0, .bool false], ?_, ex0.wr, .inl rfl⟩; simp only [go_sem, ↓forkQ_true, ↓forkQ_false, ↓guardQ_some, ↓resQ_val, ↓resQ_unit, ↓resQ_enter, ↓retQ_some, ↓resFQ_val, ↓resFQ_unit, ↓resFQ_enter, ↓retFQ_some, Nat.reduceEqDiff, reduceIte, Nat.reduceAdd, Nat.reduceMul, Nat.reduceSub, reduceCtorEq, Nat.reduceLeDiff, f1_42, f2_42, f3_42, f4_42, f5_42]; done)
                             | (refine ⟨[.slice none 0 0, .bool false], ?_, ex.wr, .inl rfl⟩; simp only [go_sem, ↓forkQ_true, ↓forkQ_false, ↓guardQ_some, ↓resQ_val, ↓resQ_unit, ↓resQ_enter, ↓retQ_some, ↓resFQ_val, ↓resFQ_unit, ↓resFQ_enter, ↓retFQ_some, Nat.reduceEqDiff, reduceIte, Nat.reduceAdd, Nat.reduceMul, Nat.reduceSub, reduceCtorEq, Nat.reduceLeDiff, f1_42, f2_42, f3_42, f4_42, f5_42]; done)
                             | (obtain rfl : i = xs.length := by omega
                                refine ⟨[.slice ar xs.length xs.length, .bool true], by simp only [go_sem, ↓forkQ_true, ↓forkQ_false, ↓guardQ_some, ↓resQ_val, ↓resQ_unit, ↓resQ_enter, ↓retQ_some, ↓resFQ_val, ↓resFQ_unit, ↓resFQ_enter, ↓retFQ_some, Nat.reduceEqDiff, reduceIte, Nat.reduceAdd, Nat.reduceMul, Nat.reduceSub, reduceCtorEq, Nat.reduceLeDiff, f1_42, f2_42, f3_42, f4_42, f5_42], ex.wr, .inr ⟨ar, rfl, ?_, hd, hi.ok⟩⟩
                                have o9 := hi.ol.base (Nat.le_succ h.next)
                                rw [List.take_of_length_le (by rw [linesL_len]; exact Nat.le_refl _)] at o9
                                exact o9))
                      · cases hc41
                  · skip
                    have hlt : i < xs.length := by omega
                    have nb := hd.nb
                    have na := hd.na
                    have irx := inRange_nat hlt
                    have irb := inRange_nat (show i < bs.length by omega)
                    have iru := inRange_nat (show i < us.length by omega)
                    obtain ⟨d1, k1x, hax, hd1, hcx, hlx⟩ := hX.at hlt
                    obtain ⟨d2, k2x, hab, hd2, hcb, hlb⟩ := hB.at (show i < bs.length by omega)
                    obtain ⟨d3, k3x, hau, hd3, hcu, hlu⟩ := hU.at (show i < us.length by omega)
                    have hgx := (ex.get d1 hlx).trans hd1
                    have hgb := (ex.get d2 hlb).trans hd2
                    have hgu := (ex.get d3 hlu).trans hd3
                    have w1 : wrapF .i64 ((i : Int) - 1) = ((i - 1 : Nat) : Int) := by rw [w64_in _ (by omega)]; omega
                    have irp := inRange_nat (show i - 1 < xs.length by omega)
                    obtain ⟨d4, k4x, hap, hd4, hcp, hlp⟩ := hX.at (i := i - 1) (by omega)
                    have hbb : d1 = d4 := by rw [hax] at hap; cases hap; rfl
                    subst hbb
                    have hbk : k1x = k4x := by rw [hd1] at hd4; exact Option.some.inj hd4
                    subst hbk
                    refine W.drawA dr25_7 (fun A hA K hK => ?_)
                    have gd6 := guardAt hA (j := 6) (d := 68) rfl
                    have gd14 := guardAt hA (j := 14) (d := 76) rfl
                    have gd17 := guardAt hA (j := 17) (d := 79) rfl
                    have gd32 := guardAt hA (j := 32) (d := 94) rfl
                    have gd40 := guardAt hA (j := 40) (d := 102) rfl
                    have gd48 := guardAt hA (j := 48) (d := 110) rfl
                    have gd56 := guardAt hA (j := 56) (d := 118) rfl
                    clear hA
                    simp (config := { maxSteps := 10000000 }) only [go_sem, ↓forkQ_true, ↓forkQ_false, ↓guardQ_some, ↓resQ_val, ↓resQ_unit, ↓resQ_enter, ↓retQ_some, ↓resFQ_val, ↓resFQ_unit, ↓resFQ_enter, ↓retFQ_some, Nat.reduceEqDiff, reduceIte, Nat.reduceAdd, Nat.reduceMul, Nat.reduceSub, reduceCtorEq, Nat.reduceLeDiff, f1_9, f4_9, f5_9, f59_9, hadd, g1, irx, irb, iru, hax, hab, hau, hgx, hgb, hgu, hcx, hcb, hcu, w1, irp, hcp, q1, q2, q3, q4, q5, q6, q7, gd6, gd14, gd17, gd32, gd40, gd48, gd56]
                    repeat' (first | (refine W.forkP (fun hc43 => ?_) (fun hc43 => ?_) <;> simp (config := { maxSteps := 10000000 }) only [go_sem, ↓forkQ_true, ↓forkQ_false, ↓guardQ_some, ↓resQ_val, ↓resQ_unit, ↓resQ_enter, ↓retQ_some, ↓resFQ_val, ↓resFQ_unit, ↓resFQ_enter, ↓retFQ_some, Nat.reduceEqDiff, reduceIte, Nat.reduceAdd, Nat.reduceMul, Nat.reduceSub, reduceCtorEq, Nat.reduceLeDiff, f1_9, f4_9, f5_9, f59_9, hadd, g1, irx, irb, iru, hax, hab, hau, hgx, hgb, hgu, hcx, hcb, hcu, w1, irp, hcp, q1, q2, q3, q4, q5, q6, q7, gd6, gd14, gd17, gd32, gd40, gd48, gd56, hc43]) | (refine W.fork (fun hc43 => ?_) (fun hc43 => ?_) <;> simp (config := { maxSteps := 10000000 }) only [go_sem, ↓forkQ_true, ↓forkQ_false, ↓guardQ_some, ↓resQ_val, ↓resQ_unit, ↓resQ_enter, ↓retQ_some, ↓resFQ_val, ↓resFQ_unit, ↓resFQ_enter, ↓retFQ_some, Nat.reduceEqDiff, reduceIte, Nat.reduceAdd, Nat.reduceMul, Nat.reduceSub, reduceCtorEq, Nat.reduceLeDiff, f1_9, f4_9, f5_9, f59_9, hadd, g1, irx, irb, iru, hax, hab, hau, hgx, hgb, hgu, hcx, hcb, hcu, w1, irp, hcp, q1, q2, q3, q4, q5, q6, q7, gd6, gd14, gd17, gd32, gd40, gd48, gd56, hc43]))
                    all_goals
                      refine hK _ _ ?_
                      clear hK K A gd6 gd14 gd17 gd32 gd40 gd48 gd56
                      refine W.forget (fun e43 he43 => ?_)
                      have f1_43 := congrArg (fun q => Env.get q 1) he43
                      simp only [go_sem, Nat.reduceEqDiff, reduceIte, f1_9] at f1_43
                      have f4_43 := congrArg (fun q => Env.get q 4) he43
                      simp only [go_sem, Nat.reduceEqDiff, reduceIte, f4_9] at f4_43
                      have f5_43 := congrArg (fun q => Env.get q 5) he43
                      simp only [go_sem, Nat.reduceEqDiff, reduceIte, f5_9] at f5_43
                      have f125_43 := congrArg (fun q => Env.get q 125) he43
                      simp only [go_sem, Nat.reduceEqDiff, reduceIte] at f125_43
                      clear he43 f1_9 f4_9 f5_9 f59_9
                      refine W.thenN ?_
                      refine W.cond f125_43 (fun hc44 => ?_) (fun hc44 => ?_)
                      · first
                        | (cases hc44; done)
                        | (exfalso; simp only [decide_eq_true_eq, decide_eq_false_iff_not, Bool.not_eq_true', Bool.not_eq_false', Bool.not_eq_eq_eq_not, Bool.not_true, Bool.not_false] at hc44; omega)
                        | (skip
                           try simp only [decide_eq_true_eq, decide_eq_false_iff_not, Bool.not_eq_true', Bool.not_eq_false', Bool.not_eq_eq_eq_not, Bool.not_true, Bool.not_false] at hc44
                           refine W.seq ?_
                           refine W.region (fun K hK => ?_)
                           simp (config := { maxSteps := 10000000 }) only [go_sem, ↓forkQ_true, ↓forkQ_false, ↓guardQ_some, ↓resQ_val, ↓resQ_unit, ↓resQ_enter, ↓retQ_some, ↓resFQ_val, ↓resFQ_unit, ↓resFQ_enter, ↓retFQ_some, Nat.reduceEqDiff, reduceIte, Nat.reduceAdd, Nat.reduceMul, Nat.reduceSub, reduceCtorEq, Nat.reduceLeDiff, f1_43, f4_43, f5_43, f125_43, hadd, g1, irx, irb, iru, hax, hab, hau, hgx, hgb, hgu, hcx, hcb, hcu, w1, irp, hcp, q1, q2, q3, q4, q5, q6, q7]
                           refine hK _ _ ?_
                           clear hK K
                           refine W.forget (fun e45 he45 => ?_)
                           have f1_45 := congrArg (fun q => Env.get q 1) he45
                           simp only [go_sem, Nat.reduceEqDiff, reduceIte, f1_43] at f1_45
                           have f2_45 := congrArg (fun q => Env.get q 2) he45
                           simp only [go_sem, Nat.reduceEqDiff, reduceIte] at f2_45
                           have f3_45 := congrArg (fun q => Env.get q 3) he45
                           simp only [go_sem, Nat.reduceEqDiff, reduceIte] at f3_45
                           have f4_45 := congrArg (fun q => Env.get q 4) he45
                           simp only [go_sem, Nat.reduceEqDiff, reduceIte, f4_43] at f4_45
                           have f5_45 := congrArg (fun q => Env.get q 5) he45
                           simp only [go_sem, Nat.reduceEqDiff, reduceIte, f5_43] at f5_45
                           clear he45 f1_43 f4_43 f5_43 f125_43
                           refine W.thenN ?_
                           refine W.ret ?_
                           refine W.thenR ?_
                           refine W.blockR ?_
                           refine W.thenR ?_
                           refine W.thenR ?_
                           refine W.blockR ?_
                           refine W.thenR ?_
                           rw [doneQ_ret]
                           first
                             | (refine ⟨[.slice none 0 0, .bool false], ?_, ex0.wr, .inl rfl⟩; simp only [go_sem, ↓forkQ_true, ↓forkQ_false, ↓guardQ_some, ↓resQ_val, ↓resQ_unit, ↓resQ_enter, ↓retQ_some, ↓resFQ_val, ↓resFQ_unit, ↓resFQ_enter, ↓retFQ_some, Nat.reduceEqDiff, reduceIte, Nat.reduceAdd, Nat.reduceMul, Nat.reduceSub, reduceCtorEq, Nat.reduceLeDiff, f1_45, f2_45, f3_45, f4_45, f5_45]; done)
                             | (refine ⟨[.slice none 0 0, .bool false], ?_, ex.wr, .inl rfl⟩; simp only [go_sem, ↓forkQ_true, ↓forkQ_false, ↓guardQ_some, ↓resQ_val, ↓resQ_unit, ↓resQ_enter, ↓retQ_some, ↓resFQ_val, ↓resFQ_unit, ↓resFQ_enter, ↓retFQ_some, Nat.reduceEqDiff, reduceIte, Nat.reduceAdd, Nat.reduceMul, Nat.reduceSub, reduceCtorEq, Nat.reduceLeDiff, f1_45, f2_45, f3_45, f4_45, f5_45]; done)
                             | (obtain rfl : i = xs.length := by omega
                                refine ⟨[.slice ar xs.length xs.length, .bool true], by simp only [go_sem, ↓forkQ_true, ↓forkQ_false, ↓guardQ_some, ↓resQ_val, ↓resQ_unit, ↓resQ_enter, ↓retQ_some, ↓resFQ_val, ↓resFQ_unit, ↓resFQ_enter, ↓retFQ_some, Nat.reduceEqDiff, reduceIte, Nat.reduceAdd, Nat.reduceMul, Nat.reduceSub, reduceCtorEq, Nat.reduceLeDiff, f1_45, f2_45, f3_45, f4_45, f5_45], ex.wr, .inr ⟨ar, rfl, ?_, hd, hi.ok⟩⟩
                                have o9 := hi.ol.base (Nat.le_succ h.next)
                                rw [List.take_of_length_le (by rw [linesL_len]; exact Nat.le_refl _)] at o9
                                exact o9))
                      · cases hc44
                  · skip
                    have hlt : i < xs.length := by omega
                    have nb := hd.nb
                    have na := hd.na
                    have irx := inRange_nat hlt
                    have irb := inRange_nat (show i < bs.length by omega)
                    have iru := inRange_nat (show i < us.length by omega)
                    obtain ⟨d1, k1x, hax, hd1, hcx, hlx⟩ := hX.at hlt
                    obtain ⟨d2, k2x, hab, hd2, hcb, hlb⟩ := hB.at (show i < bs.length by omega)
                    obtain ⟨d3, k3x, hau, hd3, hcu, hlu⟩ := hU.at (show i < us.length by omega)
                    have hgx := (ex.get d1 hlx).trans hd1
                    have hgb := (ex.get d2 hlb).trans hd2
                    have hgu := (ex.get d3 hlu).trans hd3
                    have w1 : wrapF .i64 ((i : Int) - 1) = ((i - 1 : Nat) : Int) := by rw [w64_in _ (by omega)]; omega
                    have irp := inRange_nat (show i - 1 < xs.length by omega)
                    obtain ⟨d4, k4x, hap, hd4, hcp, hlp⟩ := hX.at (i := i - 1) (by omega)
                    have hbb : d1 = d4 := by rw [hax] at hap; cases hap; rfl
                    subst hbb
                    have hbk : k1x = k4x := by rw [hd1] at hd4; exact Option.some.inj hd4
                    subst hbk
                    refine W.drawA dr25_7 (fun A hA K hK => ?_)
                    have gd6 := guardAt hA (j := 6) (d := 68) rfl
                    have gd14 := guardAt hA (j := 14) (d := 76) rfl
                    have gd17 := guardAt hA (j := 17) (d := 79) rfl
                    have gd32 := guardAt hA (j := 32) (d := 94) rfl
                    have gd40 := guardAt hA (j := 40) (d := 102) rfl
                    have gd48 := guardAt hA (j := 48) (d := 110) rfl
                    have gd56 := guardAt hA (j := 56) (d := 118) rfl
                    clear hA
                    simp (config := { maxSteps := 10000000 }) only [go_sem, ↓forkQ_true, ↓forkQ_false, ↓guardQ_some, ↓resQ_val, ↓resQ_unit, ↓resQ_enter, ↓retQ_some, ↓resFQ_val, ↓resFQ_unit, ↓resFQ_enter, ↓retFQ_some, Nat.reduceEqDiff, reduceIte, Nat.reduceAdd, Nat.reduceMul, Nat.reduceSub, reduceCtorEq, Nat.reduceLeDiff, f1_9, f4_9, f5_9, f59_9, hadd, g1, irx, irb, iru, hax, hab, hau, hgx, hgb, hgu, hcx, hcb, hcu, w1, irp, hcp, q1, q2, q3, q4, q5, q6, q7, q8, gd6, gd14, gd17, gd32, gd40, gd48, gd56]
                    repeat' (first | (refine W.forkP (fun hc46 => ?_) (fun hc46 => ?_) <;> simp (config := { maxSteps := 10000000 }) only [go_sem, ↓forkQ_true, ↓forkQ_false, ↓guardQ_some, ↓resQ_val, ↓resQ_unit, ↓resQ_enter, ↓retQ_some, ↓resFQ_val, ↓resFQ_unit, ↓resFQ_enter, ↓retFQ_some, Nat.reduceEqDiff, reduceIte, Nat.reduceAdd, Nat.reduceMul, Nat.reduceSub, reduceCtorEq, Nat.reduceLeDiff, f1_9, f4_9, f5_9, f59_9, hadd, g1, irx, irb, iru, hax, hab, hau, hgx, hgb, hgu, hcx, hcb, hcu, w1, irp, hcp, q1, q2, q3, q4, q5, q6, q7, q8, gd6, gd14, gd17, gd32, gd40, gd48, gd56, hc46]) | (refine W.fork (fun hc46 => ?_) (fun hc46 => ?_) <;> simp (config := { maxSteps := 10000000 }) only [go_sem, ↓forkQ_true, ↓forkQ_false, ↓guardQ_some, ↓resQ_val, ↓resQ_unit, ↓resQ_enter, ↓retQ_some, ↓resFQ_val, ↓resFQ_unit, ↓resFQ_enter, ↓retFQ_some, Nat.reduceEqDiff, reduceIte, Nat.reduceAdd, Nat.reduceMul, Nat.reduceSub, reduceCtorEq, Nat.reduceLeDiff, f1_9, f4_9, f5_9, f59_9, hadd, g1, irx, irb, iru, hax, hab, hau, hgx, hgb, hgu, hcx, hcb, hcu, w1, irp, hcp, q1, q2, q3, q4, q5, q6, q7, q8, gd6, gd14, gd17, gd32, gd40, gd48, gd56, hc46]))
                    all_goals
                      refine hK _ _ ?_
                      clear hK K A gd6 gd14 gd17 gd32 gd40 gd48 gd56
                      refine W.forget (fun e46 he46 => ?_)
                      have f1_46 := congrArg (fun q => Env.get q 1) he46
                      simp only [go_sem, Nat.reduceEqDiff, reduceIte, f1_9] at f1_46
                      have f4_46 := congrArg (fun q => Env.get q 4) he46
                      simp only [go_sem, Nat.reduceEqDiff, reduceIte, f4_9] at f4_46
                      have f5_46 := congrArg (fun q => Env.get q 5) he46
                      simp only [go_sem, Nat.reduceEqDiff, reduceIte, f5_9] at f5_46
                      have f125_46 := congrArg (fun q => Env.get q 125) he46
                      simp only [go_sem, Nat.reduceEqDiff, reduceIte] at f125_46
                      clear he46 f1_9 f4_9 f5_9 f59_9
                      refine W.thenN ?_
                      refine W.cond f125_46 (fun hc47 => ?_) (fun hc47 => ?_)
                      · first
                        | (cases hc47; done)
                        | (exfalso; simp only [decide_eq_true_eq, decide_eq_false_iff_not, Bool.not_eq_true', Bool.not_eq_false', Bool.not_eq_eq_eq_not, Bool.not_true, Bool.not_false] at hc47; omega)
                        | (skip
                           try simp only [decide_eq_true_eq, decide_eq_false_iff_not, Bool.not_eq_true', Bool.not_eq_false', Bool.not_eq_eq_eq_not, Bool.not_true, Bool.not_false] at hc47
                           refine W.seq ?_
                           refine W.region (fun K hK => ?_)
                           simp (config := { maxSteps := 10000000 }) only [go_sem, ↓forkQ_true, ↓forkQ_false, ↓guardQ_some, ↓resQ_val, ↓resQ_unit, ↓resQ_enter, ↓retQ_some, ↓resFQ_val, ↓resFQ_unit, ↓resFQ_enter, ↓retFQ_some, Nat.reduceEqDiff, reduceIte, Nat.reduceAdd, Nat.reduceMul, Nat.reduceSub, reduceCtorEq, Nat.reduceLeDiff, f1_46, f4_46, f5_46, f125_46, hadd, g1, irx, irb, iru, hax, hab, hau, hgx, hgb, hgu, hcx, hcb, hcu, w1, irp, hcp, q1, q2, q3, q4, q5, q6, q7, q8]
                           refine hK _ _ ?_
                           clear hK K
                           refine W.forget (fun e48 he48 => ?_)
                           have f1_48 := congrArg (fun q => Env.get q 1) he48
                           simp only [go_sem, Nat.reduceEqDiff, reduceIte, f1_46] at f1_48
                           have f2_48 := congrArg (fun q => Env.get q 2) he48
                           simp only [go_sem, Nat.reduceEqDiff, reduceIte] at f2_48
                           have f3_48 := congrArg (fun q => Env.get q 3) he48
                           simp only [go_sem, Nat.reduceEqDiff, reduceIte] at f3_48
                           have f4_48 := congrArg (fun q => Env.get q 4) he48
                           simp only [go_sem, Nat.reduceEqDiff, reduceIte, f4_46] at f4_48
                           have f5_48 := congrArg (fun q => Env.get q 5) he48
                           simp only [go_sem, Nat.reduceEqDiff, reduceIte, f5_46] at f5_48
                           clear he48 f1_46 f4_46 f5_46 f125_46
                           refine W.thenN ?_
                           refine W.ret ?_
                           refine W.thenR ?_
                           refine W.blockR ?_
                           refine W.thenR ?_
                           refine W.thenR ?_
                           refine W.blockR ?_
                           refine W.thenR ?_
                           rw [doneQ_ret]
                           first
                             | (refine ⟨[.slice none 0 0, .bool false], ?_, ex0.wr, .inl rfl⟩; simp only [go_sem, ↓forkQ_true, ↓forkQ_false, ↓guardQ_some, ↓resQ_val, ↓resQ_unit, ↓resQ_enter, ↓retQ_some, ↓resFQ_val, ↓resFQ_unit, ↓resFQ_enter, ↓retFQ_some, Nat.reduceEqDiff, reduceIte, Nat.reduceAdd, Nat.reduceMul, Nat.reduceSub, reduceCtorEq, Nat.reduceLeDiff, f1_48, f2_48, f3_48, f4_48, f5_48]; done)
                             | (refine ⟨[.slice none 0 0, .bool false], ?_, ex.wr, .inl rfl⟩; simp only [go_sem, ↓forkQ_true, ↓forkQ_false, ↓guardQ_some, ↓resQ_val, ↓resQ_unit, ↓resQ_enter, ↓retQ_some, ↓resFQ_val, ↓resFQ_unit, ↓resFQ_enter, ↓retFQ_some, Nat.reduceEqDiff, reduceIte, Nat.reduceAdd, Nat.reduceMul, Nat.reduceSub, reduceCtorEq, Nat.reduceLeDiff, f1_48, f2_48, f3_48, f4_48, f5_48]; done)
                             | (obtain rfl : i = xs.length := by omega
                                refine ⟨[.slice ar xs.length xs.length, .bool true], by simp only [go_sem, ↓forkQ_true, ↓forkQ_false, ↓guardQ_some, ↓resQ_val, ↓resQ_unit, ↓resQ_enter, ↓retQ_some, ↓resFQ_val, ↓resFQ_unit, ↓resFQ_enter, ↓retFQ_some, Nat.reduceEqDiff, reduceIte, Nat.reduceAdd, Nat.reduceMul, Nat.reduceSub, reduceCtorEq, Nat.reduceLeDiff, f1_48, f2_48, f3_48, f4_48, f5_48], ex.wr, .inr ⟨ar, rfl, ?_, hd, hi.ok⟩⟩
                                have o9 := hi.ol.base (Nat.le_succ h.next)
                                rw [List.take_of_length_le (by rw [linesL_len]; exact Nat.le_refl _)] at o9
                                exact o9))
                      · cases hc47
                  · skip
                    have hlt : i < xs.length := by omega
                    have nb := hd.nb
                    have na := hd.na
                    have irx := inRange_nat hlt
                    have irb := inRange_nat (show i < bs.length by omega)
                    have iru := inRange_nat (show i < us.length by omega)
                    obtain ⟨d1, k1x, hax, hd1, hcx, hlx⟩ := hX.at hlt
                    obtain ⟨d2, k2x, hab, hd2, hcb, hlb⟩ := hB.at (show i < bs.length by omega)
                    obtain ⟨d3, k3x, hau, hd3, hcu, hlu⟩ := hU.at (show i < us.length by omega)
                    have hgx := (ex.get d1 hlx).trans hd1
                    have hgb := (ex.get d2 hlb).trans hd2
                    have hgu := (ex.get d3 hlu).trans hd3
                    have w1 : wrapF .i64 ((i : Int) - 1) = ((i - 1 : Nat) : Int) := by rw [w64_in _ (by omega)]; omega
                    have irp := inRange_nat (show i - 1 < xs.length by omega)
                    obtain ⟨d4, k4x, hap, hd4, hcp, hlp⟩ := hX.at (i := i - 1) (by omega)
                    have hbb : d1 = d4 := by rw [hax] at hap; cases hap; rfl
                    subst hbb
                    have hbk : k1x = k4x := by rw [hd1] at hd4; exact Option.some.inj hd4
                    subst hbk
                    refine W.drawA dr25_7 (fun A hA K hK => ?_)
                    have gd6 := guardAt hA (j := 6) (d := 68) rfl
                    have gd14 := guardAt hA (j := 14) (d := 76) rfl
                    have gd17 := guardAt hA (j := 17) (d := 79) rfl
                    have gd32 := guardAt hA (j := 32) (d := 94) rfl
                    have gd40 := guardAt hA (j := 40) (d := 102) rfl
                    have gd48 := guardAt hA (j := 48) (d := 110) rfl
                    have gd56 := guardAt hA (j := 56) (d := 118) rfl
                    clear hA
                    simp (config := { maxSteps := 10000000 }) only [go_sem, ↓forkQ_true, ↓forkQ_false, ↓guardQ_some, ↓resQ_val, ↓resQ_unit, ↓resQ_enter, ↓retQ_some, ↓resFQ_val, ↓resFQ_unit, ↓resFQ_enter, ↓retFQ_some, Nat.reduceEqDiff, reduceIte, Nat.reduceAdd, Nat.reduceMul, Nat.reduceSub, reduceCtorEq, Nat.reduceLeDiff, f1_9, f4_9, f5_9, f59_9, hadd, g1, irx, irb, iru, hax, hab, hau, hgx, hgb, hgu, hcx, hcb, hcu, w1, irp, hcp, q1, q2, q3, q4, q5, q6, q7, q8, gd6, gd14, gd17, gd32, gd40, gd48, gd56]
                    repeat' (first | (refine W.forkP (fun hc49 => ?_) (fun hc49 => ?_) <;> simp (config := { maxSteps := 10000000 }) only [go_sem, ↓forkQ_true, ↓forkQ_false, ↓guardQ_some, ↓resQ_val, ↓resQ_unit, ↓resQ_enter, ↓retQ_some, ↓resFQ_val, ↓resFQ_unit, ↓resFQ_enter, ↓retFQ_some, Nat.reduceEqDiff, reduceIte, Nat.reduceAdd, Nat.reduceMul, Nat.reduceSub, reduceCtorEq, Nat.reduceLeDiff, f1_9, f4_9, f5_9, f59_9, hadd, g1, irx, irb, iru, hax, hab, hau, hgx, hgb, hgu, hcx, hcb, hcu, w1, irp, hcp, q1, q2, q3, q4, q5, q6, q7, q8, gd6, gd14, gd17, gd32, gd40, gd48, gd56, hc49]) | (refine W.fork (fun hc49 => ?_) (fun hc49 => ?_) <;> simp (config := { maxSteps := 10000000 }) only [go_sem, ↓forkQ_true, ↓forkQ_false, ↓guardQ_some, ↓resQ_val, ↓resQ_unit, ↓resQ_enter, ↓retQ_some, ↓resFQ_val, ↓resFQ_unit, ↓resFQ_enter, ↓retFQ_some, Nat.reduceEqDiff, reduceIte, Nat.reduceAdd, Nat.reduceMul, Nat.reduceSub, reduceCtorEq, Nat.reduceLeDiff, f1_9, f4_9, f5_9, f59_9, hadd, g1, irx, irb, iru, hax, hab, hau, hgx, hgb, hgu, hcx, hcb, hcu, w1, irp, hcp, q1, q2, q3, q4, q5, q6, q7, q8, gd6, gd14, gd17, gd32, gd40, gd48, gd56, hc49]))
                    all_goals
                      refine hK _ _ ?_
                      clear hK K A gd6 gd14 gd17 gd32 gd40 gd48 gd56
                      refine W.forget (fun e49 he49 => ?_)
                      have f1_49 := congrArg (fun q => Env.get q 1) he49
                      simp only [go_sem, Nat.reduceEqDiff, reduceIte, f1_9] at f1_49
                      have f4_49 := congrArg (fun q => Env.get q 4) he49
                      simp only [go_sem, Nat.reduceEqDiff, reduceIte, f4_9] at f4_49
                      have f5_49 := congrArg (fun q => Env.get q 5) he49
                      simp only [go_sem, Nat.reduceEqDiff, reduceIte, f5_9] at f5_49
                      have f125_49 := congrArg (fun q => Env.get q 125) he49
                      simp only [go_sem, Nat.reduceEqDiff, reduceIte] at f125_49
                      clear he49 f1_9 f4_9 f5_9 f59_9
                      refine W.thenN ?_
                      refine W.cond f125_49 (fun hc50 => ?_) (fun hc50 => ?_)
                      · cases hc50
                      · first
                        | (cases hc50; done)
                        | (exfalso; simp only [decide_eq_true_eq, decide_eq_false_iff_not, Bool.not_eq_true', Bool.not_eq_false', Bool.not_eq_eq_eq_not, Bool.not_true, Bool.not_false] at hc50; omega)
                        | (skip
                           try simp only [decide_eq_true_eq, decide_eq_false_iff_not, Bool.not_eq_true', Bool.not_eq_false', Bool.not_eq_eq_eq_not, Bool.not_true, Bool.not_false] at hc50
                           refine W.skip ?_
                           refine W.thenN ?_
                           refine W.seq ?_
                           refine W.draw dr25_9 (fun K hK => ?_)
                           have s1 : wrapF .i64 (B * nat xs i) = B * nat xs i := w_mul (A := 1000) (B := 100000) (by have := hd.b0; have := hd.b1; omega) (by omega) (by omega)
                           have mb := mul_bd (a := B) (b := nat xs i) (A := 1000) (B := 100000) (by have := hd.b0; have := hd.b1; omega) (by omega)
                           have s2 : wrapF .i64 (Y0 + B * nat xs i) = Y0 + B * nat xs i := w64_in _ (by have := hd.a0; have := hd.a1; omega)
                           simp (config := { maxSteps := 10000000 }) only [go_sem, ↓forkQ_true, ↓forkQ_false, ↓guardQ_some, ↓resQ_val, ↓resQ_unit, ↓resQ_enter, ↓retQ_some, ↓resFQ_val, ↓resFQ_unit, ↓resFQ_enter, ↓retFQ_some, Nat.reduceEqDiff, reduceIte, Nat.reduceAdd, Nat.reduceMul, Nat.reduceSub, reduceCtorEq, Nat.reduceLeDiff, f1_49, f4_49, f5_49, f125_49, hadd, g1, irx, irb, iru, hax, hab, hau, hgx, hgb, hgu, hcx, hcb, hcu, w1, irp, hcp, q1, q2, q3, q4, q5, q6, q7, q8, s1, s2]
                           refine hK _ _ ?_
                           clear hK K
                           refine W.forget (fun e51 he51 => ?_)
                           have f1_51 := congrArg (fun q => Env.get q 1) he51
                           simp only [go_sem, Nat.reduceEqDiff, reduceIte, f1_49] at f1_51
                           have f4_51 := congrArg (fun q => Env.get q 4) he51
                           simp only [go_sem, Nat.reduceEqDiff, reduceIte, f4_49] at f4_51
                           have f5_51 := congrArg (fun q => Env.get q 5) he51
                           simp only [go_sem, Nat.reduceEqDiff, reduceIte, f5_49] at f5_51
                           have f6_51 := congrArg (fun q => Env.get q 6) he51
                           simp only [go_sem, Nat.reduceEqDiff, reduceIte] at f6_51
                           clear he51 f1_49 f4_49 f5_49 f125_49
                           refine W.thenN ?_
                           refine W.draw dr25_10 (fun K hK => ?_)
                           have s3 : wrapF .i64 (Y0 + B * nat xs i - nat bs i) = Y0 + B * nat xs i - nat bs i := w64_in _ (by have := hd.a0; have := hd.a1; omega)
                           have s4 : wrapF .i64 (Y0 + B * nat xs i + nat us i) = Y0 + B * nat xs i + nat us i := w64_in _ (by have := hd.a0; have := hd.a1; omega)
                           have o1 := hi.ol.alloc ⟨[.int .i64 (nat xs i), .int .i64 (Y0 + B * nat xs i - nat bs i), .int .i64 (Y0 + B * nat xs i + nat us i)], true, false, none⟩
                           obtain ⟨a2, c2, rd, fe, hapn, o2, hx2, hc2, hn2, hg2⟩ := o1.append2 (bytes := 24) (Heap.get_alloc_same _ _) rfl (by omega) (Nat.le_succ_of_le nx)
                           obtain rfl := hc2 rfl
                           simp (config := { maxSteps := 10000000 }) only [go_sem, ↓forkQ_true, ↓forkQ_false, ↓guardQ_some, ↓resQ_val, ↓resQ_unit, ↓resQ_enter, ↓retQ_some, ↓resFQ_val, ↓resFQ_unit, ↓resFQ_enter, ↓retFQ_some, Nat.reduceEqDiff, reduceIte, Nat.reduceAdd, Nat.reduceMul, Nat.reduceSub, reduceCtorEq, Nat.reduceLeDiff, f1_51, f4_51, f5_51, f6_51, hadd, g1, irx, irb, iru, hax, hab, hau, hgx, hgb, hgu, hcx, hcb, hcu, w1, irp, hcp, q1, q2, q3, q4, q5, q6, q7, q8, s1, s2, s3, s4, hapn]
                           refine hK _ _ ?_
                           clear hK K
                           refine W.forget (fun e52 he52 => ?_)
                           have f1_52 := congrArg (fun q => Env.get q 1) he52
                           simp only [go_sem, Nat.reduceEqDiff, reduceIte, f1_51] at f1_52
                           have f4_52 := congrArg (fun q => Env.get q 4) he52
                           simp only [go_sem, Nat.reduceEqDiff, reduceIte, f4_51] at f4_52
                           have f5_52 := congrArg (fun q => Env.get q 5) he52
                           simp only [go_sem, Nat.reduceEqDiff, reduceIte, f5_51] at f5_52
                           clear he52 f1_51 f4_51 f5_51 f6_51
                           refine W.blockN ?_
                           refine W.thenN ?_
                           refine W.region (fun K hK => ?_)
                           simp (config := { maxSteps := 10000000 }) only [go_sem, ↓forkQ_true, ↓forkQ_false, ↓guardQ_some, ↓resQ_val, ↓resQ_unit, ↓resQ_enter, ↓retQ_some, ↓resFQ_val, ↓resFQ_unit, ↓resFQ_enter, ↓retFQ_some, Nat.reduceEqDiff, reduceIte, Nat.reduceAdd, Nat.reduceMul, Nat.reduceSub, reduceCtorEq, Nat.reduceLeDiff, f1_52, f4_52, f5_52, hadd, g1, irx, irb, iru, hax, hab, hau, hgx, hgb, hgu, hcx, hcb, hcu, w1, irp, hcp, q1, q2, q3, q4, q5, q6, q7, q8, s1, s2, s3, s4, hapn]
                           refine hK _ _ ?_
                           clear hK K
                           refine W.forget (fun e53 he53 => ?_)
                           have f1_53 := congrArg (fun q => Env.get q 1) he53
                           simp only [go_sem, Nat.reduceEqDiff, reduceIte, f1_52] at f1_53
                           have f4_53 := congrArg (fun q => Env.get q 4) he53
                           simp only [go_sem, Nat.reduceEqDiff, reduceIte, f4_52] at f4_53
                           have f5_53 := congrArg (fun q => Env.get q 5) he53
                           simp only [go_sem, Nat.reduceEqDiff, reduceIte, f5_52] at f5_53
                           clear he53 f1_52 f4_52 f5_52
                           refine W.thenN ?_
                           have hok2 : ∀ j, j < i + 1 → ItemOk xs bs us j := fun j hj => by
                             by_cases hji : j < i
                             · exact hi.ok j hji
                             · obtain rfl : j = i := by omega
                               exact ⟨by omega, by omega, fun _ => by omega, by omega, by omega, by omega, by omega⟩
                           exact ⟨(i + 1, a2), by dsimp only; omega, ⟨hx2 h (Nat.le_succ _) (ex.alloc _), Nat.le_trans (Nat.le_succ_of_le nx) hn2, (hg2 _ (Nat.lt_succ_self _)).trans ((Heap.get_alloc_ne k1 _ (by omega)).trans hi.g1), f1_53, f4_53, f5_53, by dsimp only; omega, by dsimp only; rw [take_succ_gt _ i (by rw [linesL_len]; exact hlt), gcells_app, linesL_at _ _ _ _ _ hlt]; exact o2, hok2⟩⟩))
             · first
               | (cases hc10; done)
               | (exfalso; simp only [decide_eq_true_eq, decide_eq_false_iff_not, Bool.not_eq_true', Bool.not_eq_false', Bool.not_eq_eq_eq_not, Bool.not_true, Bool.not_false] at hc10; omega)
               | (skip
                  try simp only [decide_eq_true_eq, decide_eq_false_iff_not, Bool.not_eq_true', Bool.not_eq_false', Bool.not_eq_eq_eq_not, Bool.not_true, Bool.not_false] at hc10
                  refine W.exit ?_
                  refine W.thenE ?_
                  refine W.thenE ?_
                  refine W.blockE ?_
                  refine W.thenN ?_
                  refine W.seq ?_
                  refine W.region (fun K hK => ?_)
                  simp (config := { maxSteps := 10000000 }) only [go_sem, ↓forkQ_true, ↓forkQ_false, ↓guardQ_some, ↓resQ_val, ↓resQ_unit, ↓resQ_enter, ↓retQ_some, ↓resFQ_val, ↓resFQ_unit, ↓resFQ_enter, ↓retFQ_some, Nat.reduceEqDiff, reduceIte, Nat.reduceAdd, Nat.reduceMul, Nat.reduceSub, reduceCtorEq, Nat.reduceLeDiff, f1_9, f4_9, f5_9, f59_9]
                  refine hK _ _ ?_
                  clear hK K
                  refine W.forget (fun e54 he54 => ?_)
                  have f2_54 := congrArg (fun q => Env.get q 2) he54
                  simp only [go_sem, Nat.reduceEqDiff, reduceIte] at f2_54
                  have f3_54 := congrArg (fun q => Env.get q 3) he54
                  simp only [go_sem, Nat.reduceEqDiff, reduceIte] at f3_54
                  clear he54 f1_9 f4_9 f5_9 f59_9
                  refine W.thenN ?_
                  refine W.ret ?_
                  rw [doneQ_ret]
                  first
                    | (refine ⟨[.slice none 0 0, .bool false], ?_, ex0.wr, .inl rfl⟩; simp only [go_sem, ↓forkQ_true, ↓forkQ_false, ↓guardQ_some, ↓resQ_val, ↓resQ_unit, ↓resQ_enter, ↓retQ_some, ↓resFQ_val, ↓resFQ_unit, ↓resFQ_enter, ↓retFQ_some, Nat.reduceEqDiff, reduceIte, Nat.reduceAdd, Nat.reduceMul, Nat.reduceSub, reduceCtorEq, Nat.reduceLeDiff, f2_54, f3_54]; done)
                    | (refine ⟨[.slice none 0 0, .bool false], ?_, ex.wr, .inl rfl⟩; simp only [go_sem, ↓forkQ_true, ↓forkQ_false, ↓guardQ_some, ↓resQ_val, ↓resQ_unit, ↓resQ_enter, ↓retQ_some, ↓resFQ_val, ↓resFQ_unit, ↓resFQ_enter, ↓retFQ_some, Nat.reduceEqDiff, reduceIte, Nat.reduceAdd, Nat.reduceMul, Nat.reduceSub, reduceCtorEq, Nat.reduceLeDiff, f2_54, f3_54]; done)
                    | (obtain rfl : i = xs.length := by omega
                       refine ⟨[.slice ar xs.length xs.length, .bool true], by simp only [go_sem, ↓forkQ_true, ↓forkQ_false, ↓guardQ_some, ↓resQ_val, ↓resQ_unit, ↓resQ_enter, ↓retQ_some, ↓resFQ_val, ↓resFQ_unit, ↓resFQ_enter, ↓retFQ_some, Nat.reduceEqDiff, reduceIte, Nat.reduceAdd, Nat.reduceMul, Nat.reduceSub, reduceCtorEq, Nat.reduceLeDiff, f2_54, f3_54], ex.wr, .inr ⟨ar, rfl, ?_, hd, hi.ok⟩⟩
                       have o9 := hi.ol.base (Nat.le_succ h.next)
                       rw [List.take_of_length_le (by rw [linesL_len]; exact Nat.le_refl _)] at o9
                       exact o9))
           · exact ⟨ex0, nx0, g0, f1_7, f4_7, f5_7, Nat.zero_le _, OL.nil _ _ _, fun j hj => by omega⟩))
  obtain ⟨w1, hR⟩ := hR9
  rcases hR with rfl | ⟨a1, rfl, o1, hd, hok⟩
  · refine ⟨false, [], none, 0, h, ?_, Grow.refl h, fun h => absurd rfl h, fun h => by cases h⟩
    exact hc9.trans (congrArg some (leave_flat w1 rfl))
  · obtain ⟨a', h', q1, q2, q3⟩ := o1.leave2 w1
    refine ⟨true, linesL Y0 B xs bs us, a', xs.length, h', ?_, q2, OL.ga (by rw [linesL_len]; exact q3), fun _ => ⟨rfl, hd, hok⟩⟩
    rw [linesL_len]
    exact hc9.trans (congrArg some q1)
end Go.Proofs.Ytlblocieleildaa
