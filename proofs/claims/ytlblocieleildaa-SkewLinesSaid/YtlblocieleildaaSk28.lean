/- What highest gives. -/
import Derived.Test.YtlblocieleildaaSk14
set_option linter.unusedSimpArgs false
set_option linter.unusedVariables false
set_option maxRecDepth 20000
set_option maxHeartbeats 8000000
namespace Go.Proofs.Ytlblocieleildaa
open Go.Am

/-- the bounds of the value at x from the upper end of j: alone, with another upper end, with a lower end -/
def hO (l : List Gt) (x : Int) (j : Nat) : List (Int × Int) := if (gt l j).x = x then [((gt l j).hi, 1)] else []
def hUp (l : List Gt) (x : Int) (j k : Nat) : List (Int × Int) := if (gt l j).x < x ∧ x < (gt l k).x then [((gt l j).hi * ((gt l k).x - x) + (gt l k).hi * (x - (gt l j).x), (gt l k).x - (gt l j).x)] else []
def hLp (l : List Gt) (x : Int) (j i : Nat) : List (Int × Int) :=
  if (gt l i).x < (gt l j).x ∧ (gt l j).x < x then [((gt l j).hi * ((gt l j).x - (gt l i).x) + ((gt l j).hi - (gt l i).lo) * (x - (gt l j).x), (gt l j).x - (gt l i).x)]
  else if x < (gt l j).x ∧ (gt l j).x < (gt l i).x then [((gt l j).hi * ((gt l i).x - (gt l j).x) + ((gt l j).hi - (gt l i).lo) * ((gt l j).x - x), (gt l i).x - (gt l j).x)] else []
def hJ (l : List Gt) (U L : List Nat) (x : Int) (j : Nat) : List (Int × Int) := hO l x j ++ U.flatMap (hUp l x j) ++ L.flatMap (hLp l x j)
def hAll (l : List Gt) (U L : List Nat) (x : Int) : List (Int × Int) := U.flatMap (hJ l U L x)
structure Hw (h h1 : Heap) (ps : List (Int × Int)) : Prop where
  ex : Ext h h1
  nx : h.next + 1 + 1 ≤ h1.next
  z8 : h1.get h.next = some ⟨[.int .i64 0, .int .i64 0], true, false, none⟩
  g : h1.get (h.next + 1) = some ⟨bcells (gF ps), true, false, none⟩
  d : (gF ps).s = true → (gF ps).d ≠ 0
theorem Hw.grow {h h1 h2 : Heap} {ps : List (Int × Int)} (t : Hw h h1 ps) (ex : Ext h h2) (hn : h1.next ≤ h2.next) (hg : ∀ b, b < h1.next → h2.get b = h1.get b) : Hw h h2 ps :=
  have := t.nx
  ⟨ex, Nat.le_trans t.nx hn, (hg _ (by omega)).trans t.z8, (hg _ (by omega)).trans t.g, t.d⟩
theorem Hw.most {h h1 h2 : Heap} {ps : List (Int × Int)} {n d : Int} (t : Hw h h1 ps) (hd : 0 < d) (p : Put h1 h2 (h.next + 1) (bcells (atMostZ (gF ps) n d))) : Hw h h2 (ps ++ [(n, d)]) :=
  have := t.nx
  ⟨Ext.put t.ex p (by omega), Nat.le_trans t.nx p.next, (p.get _ (by omega) (by omega)).trans t.z8, by rw [gF_one]; exact p.at_, by rw [gF_one]; exact atMostZ_ne t.d hd⟩
def gcell3 (l : List Gt) (j : Nat) : Blk := ⟨[.int .i64 (gt l j).x, .int .i64 (gt l j).lo, .int .i64 (gt l j).hi], true, false, none⟩
structure I38 (l : List Gt) (U L : List Nat) (a a1 a2 : Option Addr) (c c1 c2 : Nat) (x : Int) (h : Heap) (r : Nat) (e : Env) (h1 : Heap) : Prop where
  t : Hw h h1 ((U.take r).flatMap (hJ l U L x))
  e0 : e.get 0 = .slice a l.length c
  e1 : e.get 1 = .slice a1 U.length c1
  e2 : e.get 2 = .slice a2 L.length c2
  e3 : e.get 3 = .int .i64 x
  e8 : e.get 8 = .pointer (some ⟨h.next, 0, none⟩)
  e9 : e.get 9 = .pointer (some ⟨h.next + 1, 0, none⟩)
  e19 : e.get 19 = .slice a1 U.length c1
  e20 : e.get 20 = .int .i64 (U.length : Int)
  e21 : e.get 21 = .int .i64 (r : Int)
  le : r ≤ U.length
/-- in the round of j, whose gate lies in block kj -/
structure R38 (l : List Gt) (U L : List Nat) (a a1 a2 : Option Addr) (c c1 c2 : Nat) (x : Int) (h : Heap) (r j kj : Nat) (ps : List (Int × Int)) (e : Env) (h1 : Heap) : Prop where
  t : Hw h h1 ps
  gj : h1.get kj = some (gcell3 l j)
  kj1 : h.next + 1 < kj
  kj2 : kj < h1.next
  e0 : e.get 0 = .slice a l.length c
  e1 : e.get 1 = .slice a1 U.length c1
  e2 : e.get 2 = .slice a2 L.length c2
  e3 : e.get 3 = .int .i64 x
  e8 : e.get 8 = .pointer (some ⟨h.next, 0, none⟩)
  e9 : e.get 9 = .pointer (some ⟨h.next + 1, 0, none⟩)
  e12 : e.get 12 = .pointer (some ⟨kj, 0, none⟩)
  e19 : e.get 19 = .slice a1 U.length c1
  e20 : e.get 20 = .int .i64 (U.length : Int)
  e21 : e.get 21 = .int .i64 (r : Int)
structure J38 (l : List Gt) (U L : List Nat) (a a1 a2 : Option Addr) (c c1 c2 : Nat) (x : Int) (h : Heap) (r j kj : Nat) (m : Nat) (e : Env) (h1 : Heap) : Prop extends R38 l U L a a1 a2 c c1 c2 x h r j kj ((U.take r).flatMap (hJ l U L x) ++ hO l x j ++ (U.take m).flatMap (hUp l x j)) e h1 where
  e36 : e.get 36 = .slice a1 U.length c1
  e37 : e.get 37 = .int .i64 (U.length : Int)
  e38 : e.get 38 = .int .i64 (m : Int)
  le : m ≤ U.length
structure K38 (l : List Gt) (U L : List Nat) (a a1 a2 : Option Addr) (c c1 c2 : Nat) (x : Int) (h : Heap) (r j kj : Nat) (m : Nat) (e : Env) (h1 : Heap) : Prop extends R38 l U L a a1 a2 c c1 c2 x h r j kj ((U.take r).flatMap (hJ l U L x) ++ hO l x j ++ U.flatMap (hUp l x j) ++ (L.take m).flatMap (hLp l x j)) e h1 where
  e78 : e.get 78 = .slice a2 L.length c2
  e79 : e.get 79 = .int .i64 (L.length : Int)
  e80 : e.get 80 = .int .i64 (m : Int)
  le : m ≤ L.length
theorem Put.kept {h h1 : Heap} {kb b : Nat} {cs : List Value} {x : Blk} (p : Put h h1 kb cs) (hb : b < h.next) (hn : b ≠ kb) (hg : h.get b = some x) : h1.get b = some x := (p.get b hb hn).trans hg
theorem c38 (l : List Gt) (U L : List Nat) (a a1 a2 : Option Addr) (c c1 c2 : Nat) (x : Int) (h : Heap) (hg : GA h l a) (hIU : IA h (natl U) a1) (hIL : IA h (natl L) a2) (o : Ok l) (hl : l.length ≤ 24) (hU : ∀ k, k ∈ U → k < l.length) (hL : ∀ k, k ∈ L → k < l.length) (hUl : U.length ≤ 24) (hLl : L.length ≤ 24) (hx : 0 ≤ x ∧ x ≤ 1073741824) :
    callW Try.prog SkH 38 [.slice a l.length c, .slice a1 U.length c1, .slice a2 L.length c2, .int .i64 x] h = some (.agg #[.int .i64 (gF (hAll l U L x)).n, .int .i64 (gF (hAll l U L x)).d], h, true) := by
  refine call_flat (rs := [.cell 8 26]) [_] Try.func38 rfl rfl ?_ ?_
  rotate_left
  · skip
    refine W.forget (fun e1 he1 => ?_)
    have f0_1 := congrArg (fun q => Env.get q 0) he1
    simp only [ofList_cons, ofList_nil, go_sem, Nat.reduceEqDiff, reduceIte] at f0_1
    have f1_1 := congrArg (fun q => Env.get q 1) he1
    simp only [ofList_cons, ofList_nil, go_sem, Nat.reduceEqDiff, reduceIte] at f1_1
    have f2_1 := congrArg (fun q => Env.get q 2) he1
    simp only [ofList_cons, ofList_nil, go_sem, Nat.reduceEqDiff, reduceIte] at f2_1
    have f3_1 := congrArg (fun q => Env.get q 3) he1
    simp only [ofList_cons, ofList_nil, go_sem, Nat.reduceEqDiff, reduceIte] at f3_1
    clear he1
    refine W.seq ?_
    refine W.region (fun K hK => ?_)
    simp (config := { maxSteps := 10000000 }) only [go_sem, ↓forkQ_true, ↓forkQ_false, ↓guardQ_some, ↓resQ_val, ↓resQ_unit, ↓resQ_enter, ↓retQ_some, ↓resFQ_val, ↓resFQ_unit, ↓resFQ_enter, ↓retFQ_some, Nat.reduceEqDiff, reduceIte, Nat.reduceAdd, Nat.reduceMul, Nat.reduceSub, reduceCtorEq, Nat.reduceLeDiff, f0_1, f1_1, f2_1, f3_1]
    refine hK _ _ ?_
    clear hK K
    refine W.forget (fun e2 he2 => ?_)
    have f0_2 := congrArg (fun q => Env.get q 0) he2
    simp only [go_sem, Nat.reduceEqDiff, reduceIte, f0_1] at f0_2
    have f1_2 := congrArg (fun q => Env.get q 1) he2
    simp only [go_sem, Nat.reduceEqDiff, reduceIte, f1_1] at f1_2
    have f2_2 := congrArg (fun q => Env.get q 2) he2
    simp only [go_sem, Nat.reduceEqDiff, reduceIte, f2_1] at f2_2
    have f3_2 := congrArg (fun q => Env.get q 3) he2
    simp only [go_sem, Nat.reduceEqDiff, reduceIte, f3_1] at f3_2
    have f8_2 := congrArg (fun q => Env.get q 8) he2
    simp only [go_sem, Nat.reduceEqDiff, reduceIte] at f8_2
    clear he2 f0_1 f1_1 f2_1 f3_1
    refine W.thenN ?_
    refine W.seq ?_
    refine W.region (fun K hK => ?_)
    simp (config := { maxSteps := 10000000 }) only [go_sem, ↓forkQ_true, ↓forkQ_false, ↓guardQ_some, ↓resQ_val, ↓resQ_unit, ↓resQ_enter, ↓retQ_some, ↓resFQ_val, ↓resFQ_unit, ↓resFQ_enter, ↓retFQ_some, Nat.reduceEqDiff, reduceIte, Nat.reduceAdd, Nat.reduceMul, Nat.reduceSub, reduceCtorEq, Nat.reduceLeDiff, f0_2, f1_2, f2_2, f3_2, f8_2]
    refine hK _ _ ?_
    clear hK K
    refine W.forget (fun e3 he3 => ?_)
    have f0_3 := congrArg (fun q => Env.get q 0) he3
    simp only [go_sem, Nat.reduceEqDiff, reduceIte, f0_2] at f0_3
    have f1_3 := congrArg (fun q => Env.get q 1) he3
    simp only [go_sem, Nat.reduceEqDiff, reduceIte, f1_2] at f1_3
    have f2_3 := congrArg (fun q => Env.get q 2) he3
    simp only [go_sem, Nat.reduceEqDiff, reduceIte, f2_2] at f2_3
    have f3_3 := congrArg (fun q => Env.get q 3) he3
    simp only [go_sem, Nat.reduceEqDiff, reduceIte, f3_2] at f3_3
    have f8_3 := congrArg (fun q => Env.get q 8) he3
    simp only [go_sem, Nat.reduceEqDiff, reduceIte, f8_2] at f8_3
    have f9_3 := congrArg (fun q => Env.get q 9) he3
    simp only [go_sem, Nat.reduceEqDiff, reduceIte] at f9_3
    clear he3 f0_2 f1_2 f2_2 f3_2 f8_2
    refine W.thenN ?_
    refine W.seq ?_
    refine W.seq ?_
    refine W.region (fun K hK => ?_)
    simp (config := { maxSteps := 10000000 }) only [go_sem, ↓forkQ_true, ↓forkQ_false, ↓guardQ_some, ↓resQ_val, ↓resQ_unit, ↓resQ_enter, ↓retQ_some, ↓resFQ_val, ↓resFQ_unit, ↓resFQ_enter, ↓retFQ_some, Nat.reduceEqDiff, reduceIte, Nat.reduceAdd, Nat.reduceMul, Nat.reduceSub, reduceCtorEq, Nat.reduceLeDiff, f0_3, f1_3, f2_3, f3_3, f8_3, f9_3]
    refine hK _ _ ?_
    clear hK K
    refine W.forget (fun e4 he4 => ?_)
    have f0_4 := congrArg (fun q => Env.get q 0) he4
    simp only [go_sem, Nat.reduceEqDiff, reduceIte, f0_3] at f0_4
    have f1_4 := congrArg (fun q => Env.get q 1) he4
    simp only [go_sem, Nat.reduceEqDiff, reduceIte, f1_3] at f1_4
    have f2_4 := congrArg (fun q => Env.get q 2) he4
    simp only [go_sem, Nat.reduceEqDiff, reduceIte, f2_3] at f2_4
    have f3_4 := congrArg (fun q => Env.get q 3) he4
    simp only [go_sem, Nat.reduceEqDiff, reduceIte, f3_3] at f3_4
    have f8_4 := congrArg (fun q => Env.get q 8) he4
    simp only [go_sem, Nat.reduceEqDiff, reduceIte, f8_3] at f8_4
    have f9_4 := congrArg (fun q => Env.get q 9) he4
    simp only [go_sem, Nat.reduceEqDiff, reduceIte, f9_3] at f9_4
    have f19_4 := congrArg (fun q => Env.get q 19) he4
    simp only [go_sem, Nat.reduceEqDiff, reduceIte] at f19_4
    have f20_4 := congrArg (fun q => Env.get q 20) he4
    simp only [go_sem, Nat.reduceEqDiff, reduceIte] at f20_4
    have f21_4 := congrArg (fun q => Env.get q 21) he4
    simp only [go_sem, Nat.reduceEqDiff, reduceIte] at f21_4
    clear he4 f0_3 f1_3 f2_3 f3_3 f8_3 f9_3
    refine W.thenN ?_
    refine W.block ?_
    refine wq_rounds (fun r => U.length - r) (I38 l U L a a1 a2 c c1 c2 x h) ?_ 0 _ _ ?_
    · intro r e5 k1 hi
      have f0_5 := hi.e0
      have f1_5 := hi.e1
      have f2_5 := hi.e2
      have f3_5 := hi.e3
      have f8_5 := hi.e8
      have f9_5 := hi.e9
      have f19_5 := hi.e19
      have f20_5 := hi.e20
      have f21_5 := hi.e21
      have ex := hi.t.ex
      have hle := hi.le
      have nx1 := hi.t.nx
      have hadd : wrapF .i64 ((r : Int) + 1) = ((r + 1 : Nat) : Int) := by rw [w64_in _ (by omega)]; omega
      refine W.seq ?_
      refine W.region (fun K hK => ?_)
      simp (config := { maxSteps := 10000000 }) only [go_sem, ↓forkQ_true, ↓forkQ_false, ↓guardQ_some, ↓resQ_val, ↓resQ_unit, ↓resQ_enter, ↓retQ_some, ↓resFQ_val, ↓resFQ_unit, ↓resFQ_enter, ↓retFQ_some, Nat.reduceEqDiff, reduceIte, Nat.reduceAdd, Nat.reduceMul, Nat.reduceSub, reduceCtorEq, Nat.reduceLeDiff, f0_5, f1_5, f2_5, f3_5, f8_5, f9_5, f19_5, f20_5, f21_5, hadd]
      refine hK _ _ ?_
      clear hK K
      refine W.forget (fun e6 he6 => ?_)
      have f0_6 := congrArg (fun q => Env.get q 0) he6
      simp only [go_sem, Nat.reduceEqDiff, reduceIte, f0_5] at f0_6
      have f1_6 := congrArg (fun q => Env.get q 1) he6
      simp only [go_sem, Nat.reduceEqDiff, reduceIte, f1_5] at f1_6
      have f2_6 := congrArg (fun q => Env.get q 2) he6
      simp only [go_sem, Nat.reduceEqDiff, reduceIte, f2_5] at f2_6
      have f3_6 := congrArg (fun q => Env.get q 3) he6
      simp only [go_sem, Nat.reduceEqDiff, reduceIte, f3_5] at f3_6
      have f8_6 := congrArg (fun q => Env.get q 8) he6
      simp only [go_sem, Nat.reduceEqDiff, reduceIte, f8_5] at f8_6
      have f9_6 := congrArg (fun q => Env.get q 9) he6
      simp only [go_sem, Nat.reduceEqDiff, reduceIte, f9_5] at f9_6
      have f19_6 := congrArg (fun q => Env.get q 19) he6
      simp only [go_sem, Nat.reduceEqDiff, reduceIte, f19_5] at f19_6
      have f20_6 := congrArg (fun q => Env.get q 20) he6
      simp only [go_sem, Nat.reduceEqDiff, reduceIte, f20_5] at f20_6
      have f21_6 := congrArg (fun q => Env.get q 21) he6
      simp only [go_sem, Nat.reduceEqDiff, reduceIte, f21_5] at f21_6
      have f22_6 := congrArg (fun q => Env.get q 22) he6
      simp only [go_sem, Nat.reduceEqDiff, reduceIte] at f22_6
      clear he6 f0_5 f1_5 f2_5 f3_5 f8_5 f9_5 f19_5 f20_5 f21_5
      refine W.thenN ?_
      refine W.seq ?_
      refine W.cond f22_6 (fun hc7 => ?_) (fun hc7 => ?_)
      · first
        | (cases hc7; done)
        | (exfalso; simp only [decide_eq_true_eq, decide_eq_false_iff_not, Bool.not_eq_true', Bool.not_eq_false', Bool.not_eq_eq_eq_not, Bool.not_true, Bool.not_false] at hc7; omega)
        | (skip
           try simp only [decide_eq_true_eq, decide_eq_false_iff_not, Bool.not_eq_true', Bool.not_eq_false', Bool.not_eq_eq_eq_not, Bool.not_true, Bool.not_false] at hc7
           refine W.skip ?_
           refine W.thenN ?_
           refine W.seq ?_
           refine W.block ?_
           refine W.seq ?_
           refine W.region (fun K hK => ?_)
           have hlt : r < U.length := by omega
           have hir := inRange_nat hlt
           obtain ⟨b1, blk1, ha1, hb1, hc1, hbl1⟩ := hIU.at (i := r) (by rw [natl_len]; exact hlt)
           rw [nat_natl U r hlt] at hc1
           have hg1 := (ex.get b1 hbl1).trans hb1
           have hj := hU _ (getD_mem hlt)
           generalize hjd : U.getD r 0 = j at hj hc1
           simp (config := { maxSteps := 10000000 }) only [go_sem, ↓forkQ_true, ↓forkQ_false, ↓guardQ_some, ↓resQ_val, ↓resQ_unit, ↓resQ_enter, ↓retQ_some, ↓resFQ_val, ↓resFQ_unit, ↓resFQ_enter, ↓retFQ_some, Nat.reduceEqDiff, reduceIte, Nat.reduceAdd, Nat.reduceMul, Nat.reduceSub, reduceCtorEq, Nat.reduceLeDiff, f0_6, f1_6, f2_6, f3_6, f8_6, f9_6, f19_6, f20_6, f21_6, f22_6, hadd, hir, hg1, hc1, ha1]
           refine hK _ _ ?_
           clear hK K
           refine W.forget (fun e8 he8 => ?_)
           have f0_8 := congrArg (fun q => Env.get q 0) he8
           simp only [go_sem, Nat.reduceEqDiff, reduceIte, f0_6] at f0_8
           have f1_8 := congrArg (fun q => Env.get q 1) he8
           simp only [go_sem, Nat.reduceEqDiff, reduceIte, f1_6] at f1_8
           have f2_8 := congrArg (fun q => Env.get q 2) he8
           simp only [go_sem, Nat.reduceEqDiff, reduceIte, f2_6] at f2_8
           have f3_8 := congrArg (fun q => Env.get q 3) he8
           simp only [go_sem, Nat.reduceEqDiff, reduceIte, f3_6] at f3_8
           have f8_8 := congrArg (fun q => Env.get q 8) he8
           simp only [go_sem, Nat.reduceEqDiff, reduceIte, f8_6] at f8_8
           have f9_8 := congrArg (fun q => Env.get q 9) he8
           simp only [go_sem, Nat.reduceEqDiff, reduceIte, f9_6] at f9_8
           have f11_8 := congrArg (fun q => Env.get q 11) he8
           simp only [go_sem, Nat.reduceEqDiff, reduceIte] at f11_8
           have f19_8 := congrArg (fun q => Env.get q 19) he8
           simp only [go_sem, Nat.reduceEqDiff, reduceIte, f19_6] at f19_8
           have f20_8 := congrArg (fun q => Env.get q 20) he8
           simp only [go_sem, Nat.reduceEqDiff, reduceIte, f20_6] at f20_8
           have f21_8 := congrArg (fun q => Env.get q 21) he8
           simp only [go_sem, Nat.reduceEqDiff, reduceIte, f21_6] at f21_8
           clear he8 f0_6 f1_6 f2_6 f3_6 f8_6 f9_6 f19_6 f20_6 f21_6 f22_6
           refine W.thenN ?_
           refine W.seq ?_
           refine W.region (fun K hK => ?_)
           obtain ⟨b0, blk, ext, rfl, hb, hcs, hbl⟩ := hg (ne_of_lt hj)
           have hb' := (ex.get b0 hbl).trans hb
           have hbn := ex.ne hbl
           have hbn' := ex.ne' hbl
           have irj := inRange_nat hj
           have cutj := gcut (ext := ext) hj
           have rj := o.rng j hj
           simp (config := { maxSteps := 10000000 }) only [go_sem, ↓forkQ_true, ↓forkQ_false, ↓guardQ_some, ↓resQ_val, ↓resQ_unit, ↓resQ_enter, ↓retQ_some, ↓resFQ_val, ↓resFQ_unit, ↓resFQ_enter, ↓retFQ_some, Nat.reduceEqDiff, reduceIte, Nat.reduceAdd, Nat.reduceMul, Nat.reduceSub, reduceCtorEq, Nat.reduceLeDiff, f0_8, f1_8, f2_8, f3_8, f8_8, f9_8, f11_8, f19_8, f20_8, f21_8, hadd, hir, hg1, hc1, ha1, hb', hcs, hbn, hbn', irj, cutj]
           refine hK _ _ ?_
           clear hK K
           refine W.forget (fun e9 he9 => ?_)
           refine W.forgetH (fun k5 hk9 => ?_)
           have t5 : Hw h k5 _ := hi.t.grow (by rw [hk9]; exact (ex.alloc _).set ex.next _) (by rw [hk9]; exact Nat.le_succ _) (fun q hq => by rw [hk9, Heap.get_set_ne _ _ (by omega), Heap.get_alloc_ne _ _ (by omega)])
           have gj5 : k5.get k1.next = some (gcell3 l j) := by rw [hk9]; exact Heap.get_set_same _ _ _
           have nx5 : k1.next < k5.next := by rw [hk9]; exact Nat.lt_succ_self _
           generalize hkj : k1.next = kj at *
           clear hk9
           have f0_9 := congrArg (fun q => Env.get q 0) he9
           simp only [go_sem, Nat.reduceEqDiff, reduceIte, f0_8] at f0_9
           have f1_9 := congrArg (fun q => Env.get q 1) he9
           simp only [go_sem, Nat.reduceEqDiff, reduceIte, f1_8] at f1_9
           have f2_9 := congrArg (fun q => Env.get q 2) he9
           simp only [go_sem, Nat.reduceEqDiff, reduceIte, f2_8] at f2_9
           have f3_9 := congrArg (fun q => Env.get q 3) he9
           simp only [go_sem, Nat.reduceEqDiff, reduceIte, f3_8] at f3_9
           have f8_9 := congrArg (fun q => Env.get q 8) he9
           simp only [go_sem, Nat.reduceEqDiff, reduceIte, f8_8] at f8_9
           have f9_9 := congrArg (fun q => Env.get q 9) he9
           simp only [go_sem, Nat.reduceEqDiff, reduceIte, f9_8] at f9_9
           have f12_9 := congrArg (fun q => Env.get q 12) he9
           simp only [go_sem, Nat.reduceEqDiff, reduceIte] at f12_9
           have f19_9 := congrArg (fun q => Env.get q 19) he9
           simp only [go_sem, Nat.reduceEqDiff, reduceIte, f19_8] at f19_9
           have f20_9 := congrArg (fun q => Env.get q 20) he9
           simp only [go_sem, Nat.reduceEqDiff, reduceIte, f20_8] at f20_9
           have f21_9 := congrArg (fun q => Env.get q 21) he9
           simp only [go_sem, Nat.reduceEqDiff, reduceIte, f21_8] at f21_9
           clear he9 f0_8 f1_8 f2_8 f3_8 f8_8 f9_8 f11_8 f19_8 f20_8 f21_8
           refine W.thenN ?_
           refine W.seq ?_
           refine W.seq ?_
           refine W.region (fun K hK => ?_)
           have g5 := gj5
           unfold gcell3 at g5
           simp (config := { maxSteps := 10000000 }) only [go_sem, ↓forkQ_true, ↓forkQ_false, ↓guardQ_some, ↓resQ_val, ↓resQ_unit, ↓resQ_enter, ↓retQ_some, ↓resFQ_val, ↓resFQ_unit, ↓resFQ_enter, ↓retFQ_some, Nat.reduceEqDiff, reduceIte, Nat.reduceAdd, Nat.reduceMul, Nat.reduceSub, reduceCtorEq, Nat.reduceLeDiff, f0_9, f1_9, f2_9, f3_9, f8_9, f9_9, f12_9, f19_9, f20_9, f21_9, hadd, hir, hg1, hc1, ha1, hb', hcs, hbn, hbn', irj, cutj, g5]
           refine hK _ _ ?_
           clear hK K
           refine W.forget (fun e10 he10 => ?_)
           have f0_10 := congrArg (fun q => Env.get q 0) he10
           simp only [go_sem, Nat.reduceEqDiff, reduceIte, f0_9] at f0_10
           have f1_10 := congrArg (fun q => Env.get q 1) he10
           simp only [go_sem, Nat.reduceEqDiff, reduceIte, f1_9] at f1_10
           have f2_10 := congrArg (fun q => Env.get q 2) he10
           simp only [go_sem, Nat.reduceEqDiff, reduceIte, f2_9] at f2_10
           have f3_10 := congrArg (fun q => Env.get q 3) he10
           simp only [go_sem, Nat.reduceEqDiff, reduceIte, f3_9] at f3_10
           have f8_10 := congrArg (fun q => Env.get q 8) he10
           simp only [go_sem, Nat.reduceEqDiff, reduceIte, f8_9] at f8_10
           have f9_10 := congrArg (fun q => Env.get q 9) he10
           simp only [go_sem, Nat.reduceEqDiff, reduceIte, f9_9] at f9_10
           have f12_10 := congrArg (fun q => Env.get q 12) he10
           simp only [go_sem, Nat.reduceEqDiff, reduceIte, f12_9] at f12_10
           have f19_10 := congrArg (fun q => Env.get q 19) he10
           simp only [go_sem, Nat.reduceEqDiff, reduceIte, f19_9] at f19_10
           have f20_10 := congrArg (fun q => Env.get q 20) he10
           simp only [go_sem, Nat.reduceEqDiff, reduceIte, f20_9] at f20_10
           have f21_10 := congrArg (fun q => Env.get q 21) he10
           simp only [go_sem, Nat.reduceEqDiff, reduceIte, f21_9] at f21_10
           have f32_10 := congrArg (fun q => Env.get q 32) he10
           simp only [go_sem, Nat.reduceEqDiff, reduceIte] at f32_10
           clear he10 f0_9 f1_9 f2_9 f3_9 f8_9 f9_9 f12_9 f19_9 f20_9 f21_9
           refine W.thenN ?_
           refine W.join (M := (R38 l U L (some ⟨b0, 0, none⟩) a1 a2 c c1 c2 x h r j kj ((U.take r).flatMap (hJ l U L x) ++ hO l x j))) ?_ (fun e11 k6 hj => ?_)
           · skip
             refine W.cond f32_10 (fun hc12 => ?_) (fun hc12 => ?_)
             · first
               | (cases hc12; done)
               | (exfalso; simp only [decide_eq_true_eq, decide_eq_false_iff_not, Bool.not_eq_true', Bool.not_eq_false', Bool.not_eq_eq_eq_not, Bool.not_true, Bool.not_false] at hc12; omega)
               | (skip
                  try simp only [decide_eq_true_eq, decide_eq_false_iff_not, Bool.not_eq_true', Bool.not_eq_false', Bool.not_eq_eq_eq_not, Bool.not_true, Bool.not_false] at hc12
                  refine W.region (fun K hK => ?_)
                  have g5 := gj5
                  unfold gcell3 at g5
                  obtain ⟨k9, q9, q41, P41⟩ := c41 _ (h.next + 1) ((gt l j).hi) (1) (by omega) (by omega) t5.d k5 t5.g (by have := t5.nx; omega) (by rw [t5.ex.wr]; omega)
                  simp (config := { maxSteps := 10000000 }) only [go_sem, ↓forkQ_true, ↓forkQ_false, ↓guardQ_some, ↓resQ_val, ↓resQ_unit, ↓resQ_enter, ↓retQ_some, ↓resFQ_val, ↓resFQ_unit, ↓resFQ_enter, ↓retFQ_some, Nat.reduceEqDiff, reduceIte, Nat.reduceAdd, Nat.reduceMul, Nat.reduceSub, reduceCtorEq, Nat.reduceLeDiff, f0_10, f1_10, f2_10, f3_10, f8_10, f9_10, f12_10, f19_10, f20_10, f21_10, f32_10, hadd, hir, hg1, hc1, ha1, hb', hcs, hbn, hbn', irj, cutj, g5, g5, q41]
                  refine hK _ _ ?_
                  clear hK K
                  refine W.forget (fun e13 he13 => ?_)
                  have f0_13 := congrArg (fun q => Env.get q 0) he13
                  simp only [go_sem, Nat.reduceEqDiff, reduceIte, f0_10] at f0_13
                  have f1_13 := congrArg (fun q => Env.get q 1) he13
                  simp only [go_sem, Nat.reduceEqDiff, reduceIte, f1_10] at f1_13
                  have f2_13 := congrArg (fun q => Env.get q 2) he13
                  simp only [go_sem, Nat.reduceEqDiff, reduceIte, f2_10] at f2_13
                  have f3_13 := congrArg (fun q => Env.get q 3) he13
                  simp only [go_sem, Nat.reduceEqDiff, reduceIte, f3_10] at f3_13
                  have f8_13 := congrArg (fun q => Env.get q 8) he13
                  simp only [go_sem, Nat.reduceEqDiff, reduceIte, f8_10] at f8_13
                  have f9_13 := congrArg (fun q => Env.get q 9) he13
                  simp only [go_sem, Nat.reduceEqDiff, reduceIte, f9_10] at f9_13
                  have f12_13 := congrArg (fun q => Env.get q 12) he13
                  simp only [go_sem, Nat.reduceEqDiff, reduceIte, f12_10] at f12_13
                  have f19_13 := congrArg (fun q => Env.get q 19) he13
                  simp only [go_sem, Nat.reduceEqDiff, reduceIte, f19_10] at f19_13
                  have f20_13 := congrArg (fun q => Env.get q 20) he13
                  simp only [go_sem, Nat.reduceEqDiff, reduceIte, f20_10] at f20_13
                  have f21_13 := congrArg (fun q => Env.get q 21) he13
                  simp only [go_sem, Nat.reduceEqDiff, reduceIte, f21_10] at f21_13
                  clear he13 f0_10 f1_10 f2_10 f3_10 f8_10 f9_10 f12_10 f19_10 f20_10 f21_10 f32_10
                  refine W.thenN ?_
                  first
                    | exact ⟨by rw [show hO l x j = _ from if_pos ‹_›]; exact t5.most (by omega) P41, P41.kept (by omega) (by omega) gj5, by omega, Nat.lt_of_lt_of_le nx5 P41.next, f0_13, f1_13, f2_13, f3_13, f8_13, f9_13, f12_13, f19_13, f20_13, f21_13⟩
                    | exact ⟨by rw [show hO l x j = _ from if_neg ‹_›, List.append_nil]; exact t5, gj5, by omega, nx5, f0_13, f1_13, f2_13, f3_13, f8_13, f9_13, f12_13, f19_13, f20_13, f21_13⟩)
             · first
               | (cases hc12; done)
               | (exfalso; simp only [decide_eq_true_eq, decide_eq_false_iff_not, Bool.not_eq_true', Bool.not_eq_false', Bool.not_eq_eq_eq_not, Bool.not_true, Bool.not_false] at hc12; omega)
               | (skip
                  try simp only [decide_eq_true_eq, decide_eq_false_iff_not, Bool.not_eq_true', Bool.not_eq_false', Bool.not_eq_eq_eq_not, Bool.not_true, Bool.not_false] at hc12
                  refine W.skip ?_
                  refine W.thenN ?_
                  first
                    | exact ⟨by rw [show hO l x j = _ from if_pos ‹_›]; exact t5.most (by omega) P41, P41.kept (by omega) (by omega) gj5, by omega, Nat.lt_of_lt_of_le nx5 P41.next, f0_10, f1_10, f2_10, f3_10, f8_10, f9_10, f12_10, f19_10, f20_10, f21_10⟩
                    | exact ⟨by rw [show hO l x j = _ from if_neg ‹_›, List.append_nil]; exact t5, gj5, by omega, nx5, f0_10, f1_10, f2_10, f3_10, f8_10, f9_10, f12_10, f19_10, f20_10, f21_10⟩)
           · skip
             have f0_11 := hj.e0
             have f1_11 := hj.e1
             have f2_11 := hj.e2
             have f3_11 := hj.e3
             have f8_11 := hj.e8
             have f9_11 := hj.e9
             have f12_11 := hj.e12
             have f19_11 := hj.e19
             have f20_11 := hj.e20
             have f21_11 := hj.e21
             clear f0_10 f1_10 f2_10 f3_10 f8_10 f9_10 f12_10 f19_10 f20_10 f21_10 f32_10
             refine W.seq ?_
             refine W.seq ?_
             refine W.region (fun K hK => ?_)
             simp (config := { maxSteps := 10000000 }) only [go_sem, ↓forkQ_true, ↓forkQ_false, ↓guardQ_some, ↓resQ_val, ↓resQ_unit, ↓resQ_enter, ↓retQ_some, ↓resFQ_val, ↓resFQ_unit, ↓resFQ_enter, ↓retFQ_some, Nat.reduceEqDiff, reduceIte, Nat.reduceAdd, Nat.reduceMul, Nat.reduceSub, reduceCtorEq, Nat.reduceLeDiff, f0_11, f1_11, f2_11, f3_11, f8_11, f9_11, f12_11, f19_11, f20_11, f21_11, hadd, hir, hg1, hc1, ha1, hb', hcs, hbn, hbn', irj, cutj, g5]
             refine hK _ _ ?_
             clear hK K
             refine W.forget (fun e14 he14 => ?_)
             have f0_14 := congrArg (fun q => Env.get q 0) he14
             simp only [go_sem, Nat.reduceEqDiff, reduceIte, f0_11] at f0_14
             have f1_14 := congrArg (fun q => Env.get q 1) he14
             simp only [go_sem, Nat.reduceEqDiff, reduceIte, f1_11] at f1_14
             have f2_14 := congrArg (fun q => Env.get q 2) he14
             simp only [go_sem, Nat.reduceEqDiff, reduceIte, f2_11] at f2_14
             have f3_14 := congrArg (fun q => Env.get q 3) he14
             simp only [go_sem, Nat.reduceEqDiff, reduceIte, f3_11] at f3_14
             have f8_14 := congrArg (fun q => Env.get q 8) he14
             simp only [go_sem, Nat.reduceEqDiff, reduceIte, f8_11] at f8_14
             have f9_14 := congrArg (fun q => Env.get q 9) he14
             simp only [go_sem, Nat.reduceEqDiff, reduceIte, f9_11] at f9_14
             have f12_14 := congrArg (fun q => Env.get q 12) he14
             simp only [go_sem, Nat.reduceEqDiff, reduceIte, f12_11] at f12_14
             have f19_14 := congrArg (fun q => Env.get q 19) he14
             simp only [go_sem, Nat.reduceEqDiff, reduceIte, f19_11] at f19_14
             have f20_14 := congrArg (fun q => Env.get q 20) he14
             simp only [go_sem, Nat.reduceEqDiff, reduceIte, f20_11] at f20_14
             have f21_14 := congrArg (fun q => Env.get q 21) he14
             simp only [go_sem, Nat.reduceEqDiff, reduceIte, f21_11] at f21_14
             have f36_14 := congrArg (fun q => Env.get q 36) he14
             simp only [go_sem, Nat.reduceEqDiff, reduceIte] at f36_14
             have f37_14 := congrArg (fun q => Env.get q 37) he14
             simp only [go_sem, Nat.reduceEqDiff, reduceIte] at f37_14
             have f38_14 := congrArg (fun q => Env.get q 38) he14
             simp only [go_sem, Nat.reduceEqDiff, reduceIte] at f38_14
             clear he14 f0_11 f1_11 f2_11 f3_11 f8_11 f9_11 f12_11 f19_11 f20_11 f21_11
             refine W.thenN ?_
             refine W.block ?_
             refine wq_rounds (fun m => U.length - m) (J38 l U L (some ⟨b0, 0, none⟩) a1 a2 c c1 c2 x h r j kj) ?_ 0 _ _ ?_
             · intro m e15 k2 hm
               have f0_15 := hm.e0
               have f1_15 := hm.e1
               have f2_15 := hm.e2
               have f3_15 := hm.e3
               have f8_15 := hm.e8
               have f9_15 := hm.e9
               have f12_15 := hm.e12
               have f19_15 := hm.e19
               have f20_15 := hm.e20
               have f21_15 := hm.e21
               have f36_15 := hm.e36
               have f37_15 := hm.e37
               have f38_15 := hm.e38
               have exm := hm.t.ex
               have hlem := hm.le
               have nxm := hm.t.nx
               have kj1 := hm.kj1
               have kj2 := hm.kj2
               have haddm : wrapF .i64 ((m : Int) + 1) = ((m + 1 : Nat) : Int) := by rw [w64_in _ (by omega)]; omega
               refine W.seq ?_
               refine W.region (fun K hK => ?_)
               simp (config := { maxSteps := 10000000 }) only [go_sem, ↓forkQ_true, ↓forkQ_false, ↓guardQ_some, ↓resQ_val, ↓resQ_unit, ↓resQ_enter, ↓retQ_some, ↓resFQ_val, ↓resFQ_unit, ↓resFQ_enter, ↓retFQ_some, Nat.reduceEqDiff, reduceIte, Nat.reduceAdd, Nat.reduceMul, Nat.reduceSub, reduceCtorEq, Nat.reduceLeDiff, f0_15, f1_15, f2_15, f3_15, f8_15, f9_15, f12_15, f19_15, f20_15, f21_15, f36_15, f37_15, f38_15, hadd, haddm]
               refine hK _ _ ?_
               clear hK K
               refine W.forget (fun e16 he16 => ?_)
               have f0_16 := congrArg (fun q => Env.get q 0) he16
               simp only [go_sem, Nat.reduceEqDiff, reduceIte, f0_15] at f0_16
               have f1_16 := congrArg (fun q => Env.get q 1) he16
               simp only [go_sem, Nat.reduceEqDiff, reduceIte, f1_15] at f1_16
               have f2_16 := congrArg (fun q => Env.get q 2) he16
               simp only [go_sem, Nat.reduceEqDiff, reduceIte, f2_15] at f2_16
               have f3_16 := congrArg (fun q => Env.get q 3) he16
               simp only [go_sem, Nat.reduceEqDiff, reduceIte, f3_15] at f3_16
               have f8_16 := congrArg (fun q => Env.get q 8) he16
               simp only [go_sem, Nat.reduceEqDiff, reduceIte, f8_15] at f8_16
               have f9_16 := congrArg (fun q => Env.get q 9) he16
               simp only [go_sem, Nat.reduceEqDiff, reduceIte, f9_15] at f9_16
               have f12_16 := congrArg (fun q => Env.get q 12) he16
               simp only [go_sem, Nat.reduceEqDiff, reduceIte, f12_15] at f12_16
               have f19_16 := congrArg (fun q => Env.get q 19) he16
               simp only [go_sem, Nat.reduceEqDiff, reduceIte, f19_15] at f19_16
               have f20_16 := congrArg (fun q => Env.get q 20) he16
               simp only [go_sem, Nat.reduceEqDiff, reduceIte, f20_15] at f20_16
               have f21_16 := congrArg (fun q => Env.get q 21) he16
               simp only [go_sem, Nat.reduceEqDiff, reduceIte, f21_15] at f21_16
               have f36_16 := congrArg (fun q => Env.get q 36) he16
               simp only [go_sem, Nat.reduceEqDiff, reduceIte, f36_15] at f36_16
               have f37_16 := congrArg (fun q => Env.get q 37) he16
               simp only [go_sem, Nat.reduceEqDiff, reduceIte, f37_15] at f37_16
               have f38_16 := congrArg (fun q => Env.get q 38) he16
               simp only [go_sem, Nat.reduceEqDiff, reduceIte, f38_15] at f38_16
               have f39_16 := congrArg (fun q => Env.get q 39) he16
               simp only [go_sem, Nat.reduceEqDiff, reduceIte] at f39_16
               clear he16 f0_15 f1_15 f2_15 f3_15 f8_15 f9_15 f12_15 f19_15 f20_15 f21_15 f36_15 f37_15 f38_15
               refine W.thenN ?_
               refine W.seq ?_
               refine W.cond f39_16 (fun hc17 => ?_) (fun hc17 => ?_)
               · first
                 | (cases hc17; done)
                 | (exfalso; simp only [decide_eq_true_eq, decide_eq_false_iff_not, Bool.not_eq_true', Bool.not_eq_false', Bool.not_eq_eq_eq_not, Bool.not_true, Bool.not_false] at hc17; omega)
                 | (skip
                    try simp only [decide_eq_true_eq, decide_eq_false_iff_not, Bool.not_eq_true', Bool.not_eq_false', Bool.not_eq_eq_eq_not, Bool.not_true, Bool.not_false] at hc17
                    refine W.skip ?_
                    refine W.thenN ?_
                    refine W.seq ?_
                    refine W.block ?_
                    refine W.seq ?_
                    refine W.region (fun K hK => ?_)
                    have hltm : m < U.length := by omega
                    have hirm := inRange_nat hltm
                    obtain ⟨b3, blk3, ha3, hb3, hc3, hbl3⟩ := hIU.at (i := m) (by rw [natl_len]; exact hltm)
                    rw [nat_natl U m hltm] at hc3
                    have hg3 := (exm.get b3 hbl3).trans hb3
                    have hq := hU _ (getD_mem hltm)
                    generalize hqd : U.getD m 0 = q at hq hc3
                    simp (config := { maxSteps := 10000000 }) only [go_sem, ↓forkQ_true, ↓forkQ_false, ↓guardQ_some, ↓resQ_val, ↓resQ_unit, ↓resQ_enter, ↓retQ_some, ↓resFQ_val, ↓resFQ_unit, ↓resFQ_enter, ↓retFQ_some, Nat.reduceEqDiff, reduceIte, Nat.reduceAdd, Nat.reduceMul, Nat.reduceSub, reduceCtorEq, Nat.reduceLeDiff, f0_16, f1_16, f2_16, f3_16, f8_16, f9_16, f12_16, f19_16, f20_16, f21_16, f36_16, f37_16, f38_16, f39_16, hadd, haddm, hirm, hg3, hc3, ha3]
                    refine hK _ _ ?_
                    clear hK K
                    refine W.forget (fun e18 he18 => ?_)
                    have f0_18 := congrArg (fun q => Env.get q 0) he18
                    simp only [go_sem, Nat.reduceEqDiff, reduceIte, f0_16] at f0_18
                    have f1_18 := congrArg (fun q => Env.get q 1) he18
                    simp only [go_sem, Nat.reduceEqDiff, reduceIte, f1_16] at f1_18
                    have f2_18 := congrArg (fun q => Env.get q 2) he18
                    simp only [go_sem, Nat.reduceEqDiff, reduceIte, f2_16] at f2_18
                    have f3_18 := congrArg (fun q => Env.get q 3) he18
                    simp only [go_sem, Nat.reduceEqDiff, reduceIte, f3_16] at f3_18
                    have f8_18 := congrArg (fun q => Env.get q 8) he18
                    simp only [go_sem, Nat.reduceEqDiff, reduceIte, f8_16] at f8_18
                    have f9_18 := congrArg (fun q => Env.get q 9) he18
                    simp only [go_sem, Nat.reduceEqDiff, reduceIte, f9_16] at f9_18
                    have f12_18 := congrArg (fun q => Env.get q 12) he18
                    simp only [go_sem, Nat.reduceEqDiff, reduceIte, f12_16] at f12_18
                    have f14_18 := congrArg (fun q => Env.get q 14) he18
                    simp only [go_sem, Nat.reduceEqDiff, reduceIte] at f14_18
                    have f19_18 := congrArg (fun q => Env.get q 19) he18
                    simp only [go_sem, Nat.reduceEqDiff, reduceIte, f19_16] at f19_18
                    have f20_18 := congrArg (fun q => Env.get q 20) he18
                    simp only [go_sem, Nat.reduceEqDiff, reduceIte, f20_16] at f20_18
                    have f21_18 := congrArg (fun q => Env.get q 21) he18
                    simp only [go_sem, Nat.reduceEqDiff, reduceIte, f21_16] at f21_18
                    have f36_18 := congrArg (fun q => Env.get q 36) he18
                    simp only [go_sem, Nat.reduceEqDiff, reduceIte, f36_16] at f36_18
                    have f37_18 := congrArg (fun q => Env.get q 37) he18
                    simp only [go_sem, Nat.reduceEqDiff, reduceIte, f37_16] at f37_18
                    have f38_18 := congrArg (fun q => Env.get q 38) he18
                    simp only [go_sem, Nat.reduceEqDiff, reduceIte, f38_16] at f38_18
                    clear he18 f0_16 f1_16 f2_16 f3_16 f8_16 f9_16 f12_16 f19_16 f20_16 f21_16 f36_16 f37_16 f38_16 f39_16
                    refine W.thenN ?_
                    refine W.seq ?_
                    refine W.region (fun K hK => ?_)
                    have hb2' := (exm.get b0 hbl).trans hb
                    have hbm := exm.ne hbl
                    have hbm' := exm.ne' hbl
                    have irq := inRange_nat hq
                    have cutq := gcut (ext := ext) hq
                    simp (config := { maxSteps := 10000000 }) only [go_sem, ↓forkQ_true, ↓forkQ_false, ↓guardQ_some, ↓resQ_val, ↓resQ_unit, ↓resQ_enter, ↓retQ_some, ↓resFQ_val, ↓resFQ_unit, ↓resFQ_enter, ↓retFQ_some, Nat.reduceEqDiff, reduceIte, Nat.reduceAdd, Nat.reduceMul, Nat.reduceSub, reduceCtorEq, Nat.reduceLeDiff, f0_18, f1_18, f2_18, f3_18, f8_18, f9_18, f12_18, f14_18, f19_18, f20_18, f21_18, f36_18, f37_18, f38_18, hadd, haddm, hirm, hg3, hc3, ha3, hb2', hcs, hbm, hbm', irq, cutq]
                    refine hK _ _ ?_
                    clear hK K
                    refine W.forget (fun e19 he19 => ?_)
                    refine W.forgetH (fun k11 hk19 => ?_)
                    have t11 : Hw h k11 _ := hm.t.grow (by rw [hk19]; exact (exm.alloc _).set exm.next _) (by rw [hk19]; exact Nat.le_succ _) (fun q hq => by rw [hk19, Heap.get_set_ne _ _ (by omega), Heap.get_alloc_ne _ _ (by omega)])
                    have gj11 : k11.get kj = some (gcell3 l j) := by rw [hk19, Heap.get_set_ne _ _ (by omega), Heap.get_alloc_ne _ _ (by omega)]; exact hm.gj
                    have g15 : k11.get k2.next = some (gcell3 l q) := by rw [hk19]; exact Heap.get_set_same _ _ _
                    have kj2' : kj < k11.next := by rw [hk19]; exact Nat.lt_succ_of_lt kj2
                    have u12 := gj11
                    unfold gcell3 at u12
                    have u15 := g15
                    unfold gcell3 at u15
                    have rq := o.rng q hq
                    clear hk19
                    have f0_19 := congrArg (fun q => Env.get q 0) he19
                    simp only [go_sem, Nat.reduceEqDiff, reduceIte, f0_18] at f0_19
                    have f1_19 := congrArg (fun q => Env.get q 1) he19
                    simp only [go_sem, Nat.reduceEqDiff, reduceIte, f1_18] at f1_19
                    have f2_19 := congrArg (fun q => Env.get q 2) he19
                    simp only [go_sem, Nat.reduceEqDiff, reduceIte, f2_18] at f2_19
                    have f3_19 := congrArg (fun q => Env.get q 3) he19
                    simp only [go_sem, Nat.reduceEqDiff, reduceIte, f3_18] at f3_19
                    have f8_19 := congrArg (fun q => Env.get q 8) he19
                    simp only [go_sem, Nat.reduceEqDiff, reduceIte, f8_18] at f8_19
                    have f9_19 := congrArg (fun q => Env.get q 9) he19
                    simp only [go_sem, Nat.reduceEqDiff, reduceIte, f9_18] at f9_19
                    have f12_19 := congrArg (fun q => Env.get q 12) he19
                    simp only [go_sem, Nat.reduceEqDiff, reduceIte, f12_18] at f12_19
                    have f15_19 := congrArg (fun q => Env.get q 15) he19
                    simp only [go_sem, Nat.reduceEqDiff, reduceIte] at f15_19
                    have f19_19 := congrArg (fun q => Env.get q 19) he19
                    simp only [go_sem, Nat.reduceEqDiff, reduceIte, f19_18] at f19_19
                    have f20_19 := congrArg (fun q => Env.get q 20) he19
                    simp only [go_sem, Nat.reduceEqDiff, reduceIte, f20_18] at f20_19
                    have f21_19 := congrArg (fun q => Env.get q 21) he19
                    simp only [go_sem, Nat.reduceEqDiff, reduceIte, f21_18] at f21_19
                    have f36_19 := congrArg (fun q => Env.get q 36) he19
                    simp only [go_sem, Nat.reduceEqDiff, reduceIte, f36_18] at f36_19
                    have f37_19 := congrArg (fun q => Env.get q 37) he19
                    simp only [go_sem, Nat.reduceEqDiff, reduceIte, f37_18] at f37_19
                    have f38_19 := congrArg (fun q => Env.get q 38) he19
                    simp only [go_sem, Nat.reduceEqDiff, reduceIte, f38_18] at f38_19
                    clear he19 f0_18 f1_18 f2_18 f3_18 f8_18 f9_18 f12_18 f14_18 f19_18 f20_18 f21_18 f36_18 f37_18 f38_18
                    refine W.thenN ?_
                    refine W.seq ?_
                    refine W.regionA (fun A hA K hK => ?_)
                    have gd4 := guardAt hA (j := 4) (d := 50) rfl
                    clear hA
                    simp (config := { maxSteps := 10000000 }) only [go_sem, ↓forkQ_true, ↓forkQ_false, ↓guardQ_some, ↓resQ_val, ↓resQ_unit, ↓resQ_enter, ↓retQ_some, ↓resFQ_val, ↓resFQ_unit, ↓resFQ_enter, ↓retFQ_some, Nat.reduceEqDiff, reduceIte, Nat.reduceAdd, Nat.reduceMul, Nat.reduceSub, reduceCtorEq, Nat.reduceLeDiff, f0_19, f1_19, f2_19, f3_19, f8_19, f9_19, f12_19, f15_19, f19_19, f20_19, f21_19, f36_19, f37_19, f38_19, hadd, haddm, hirm, hg3, hc3, ha3, hb2', hcs, hbm, hbm', irq, cutq, u12, u15, gd4]
                    repeat' (first | (refine W.forkP (fun hc20 => ?_) (fun hc20 => ?_) <;> simp (config := { maxSteps := 10000000 }) only [go_sem, ↓forkQ_true, ↓forkQ_false, ↓guardQ_some, ↓resQ_val, ↓resQ_unit, ↓resQ_enter, ↓retQ_some, ↓resFQ_val, ↓resFQ_unit, ↓resFQ_enter, ↓retFQ_some, Nat.reduceEqDiff, reduceIte, Nat.reduceAdd, Nat.reduceMul, Nat.reduceSub, reduceCtorEq, Nat.reduceLeDiff, f0_19, f1_19, f2_19, f3_19, f8_19, f9_19, f12_19, f15_19, f19_19, f20_19, f21_19, f36_19, f37_19, f38_19, hadd, haddm, hirm, hg3, hc3, ha3, hb2', hcs, hbm, hbm', irq, cutq, u12, u15, gd4, hc20]) | (refine W.fork (fun hc20 => ?_) (fun hc20 => ?_) <;> simp (config := { maxSteps := 10000000 }) only [go_sem, ↓forkQ_true, ↓forkQ_false, ↓guardQ_some, ↓resQ_val, ↓resQ_unit, ↓resQ_enter, ↓retQ_some, ↓resFQ_val, ↓resFQ_unit, ↓resFQ_enter, ↓retFQ_some, Nat.reduceEqDiff, reduceIte, Nat.reduceAdd, Nat.reduceMul, Nat.reduceSub, reduceCtorEq, Nat.reduceLeDiff, f0_19, f1_19, f2_19, f3_19, f8_19, f9_19, f12_19, f15_19, f19_19, f20_19, f21_19, f36_19, f37_19, f38_19, hadd, haddm, hirm, hg3, hc3, ha3, hb2', hcs, hbm, hbm', irq, cutq, u12, u15, gd4, hc20]))
                    all_goals
                      refine hK _ _ ?_
                      clear hK K A gd4
                      refine W.forget (fun e20 he20 => ?_)
                      have f0_20 := congrArg (fun q => Env.get q 0) he20
                      simp only [go_sem, Nat.reduceEqDiff, reduceIte, f0_19] at f0_20
                      have f1_20 := congrArg (fun q => Env.get q 1) he20
                      simp only [go_sem, Nat.reduceEqDiff, reduceIte, f1_19] at f1_20
                      have f2_20 := congrArg (fun q => Env.get q 2) he20
                      simp only [go_sem, Nat.reduceEqDiff, reduceIte, f2_19] at f2_20
                      have f3_20 := congrArg (fun q => Env.get q 3) he20
                      simp only [go_sem, Nat.reduceEqDiff, reduceIte, f3_19] at f3_20
                      have f8_20 := congrArg (fun q => Env.get q 8) he20
                      simp only [go_sem, Nat.reduceEqDiff, reduceIte, f8_19] at f8_20
                      have f9_20 := congrArg (fun q => Env.get q 9) he20
                      simp only [go_sem, Nat.reduceEqDiff, reduceIte, f9_19] at f9_20
                      have f12_20 := congrArg (fun q => Env.get q 12) he20
                      simp only [go_sem, Nat.reduceEqDiff, reduceIte, f12_19] at f12_20
                      have f15_20 := congrArg (fun q => Env.get q 15) he20
                      simp only [go_sem, Nat.reduceEqDiff, reduceIte, f15_19] at f15_20
                      have f19_20 := congrArg (fun q => Env.get q 19) he20
                      simp only [go_sem, Nat.reduceEqDiff, reduceIte, f19_19] at f19_20
                      have f20_20 := congrArg (fun q => Env.get q 20) he20
                      simp only [go_sem, Nat.reduceEqDiff, reduceIte, f20_19] at f20_20
                      have f21_20 := congrArg (fun q => Env.get q 21) he20
                      simp only [go_sem, Nat.reduceEqDiff, reduceIte, f21_19] at f21_20
                      have f36_20 := congrArg (fun q => Env.get q 36) he20
                      simp only [go_sem, Nat.reduceEqDiff, reduceIte, f36_19] at f36_20
                      have f37_20 := congrArg (fun q => Env.get q 37) he20
                      simp only [go_sem, Nat.reduceEqDiff, reduceIte, f37_19] at f37_20
                      have f38_20 := congrArg (fun q => Env.get q 38) he20
                      simp only [go_sem, Nat.reduceEqDiff, reduceIte, f38_19] at f38_20
                      have f55_20 := congrArg (fun q => Env.get q 55) he20
                      simp only [go_sem, Nat.reduceEqDiff, reduceIte] at f55_20
                      clear he20 f0_19 f1_19 f2_19 f3_19 f8_19 f9_19 f12_19 f15_19 f19_19 f20_19 f21_19 f36_19 f37_19 f38_19
                      refine W.thenN ?_
                      refine W.cond f55_20 (fun hc21 => ?_) (fun hc21 => ?_)
                      · first
                        | (cases hc21; done)
                        | (exfalso; simp only [decide_eq_true_eq, decide_eq_false_iff_not, Bool.not_eq_true', Bool.not_eq_false', Bool.not_eq_eq_eq_not, Bool.not_true, Bool.not_false] at hc21; omega)
                        | (skip
                           try simp only [decide_eq_true_eq, decide_eq_false_iff_not, Bool.not_eq_true', Bool.not_eq_false', Bool.not_eq_eq_eq_not, Bool.not_true, Bool.not_false] at hc21
                           refine W.region (fun K hK => ?_)
                           have s0 : wrapF .i64 ((gt l q).x - x) = (gt l q).x - x := w64_in _ (by omega)
                           have s1 : wrapF .i64 (x - (gt l j).x) = x - (gt l j).x := w64_in _ (by omega)
                           have s2 : wrapF .i64 ((gt l q).x - (gt l j).x) = (gt l q).x - (gt l j).x := w64_in _ (by omega)
                           have p1 := mul_bd (a := (gt l j).hi) (b := (gt l q).x - x) (A := 1073741824) (B := 1073741824) (by omega) (by omega)
                           have p2 := mul_bd (a := (gt l q).hi) (b := x - (gt l j).x) (A := 2147483648) (B := 1073741824) (by omega) (by omega)
                           have m1 : wrapF .i64 ((gt l j).hi * ((gt l q).x - x)) = (gt l j).hi * ((gt l q).x - x) := w64_in _ (by omega)
                           have m2 : wrapF .i64 ((gt l q).hi * (x - (gt l j).x)) = (gt l q).hi * (x - (gt l j).x) := w64_in _ (by omega)
                           have a1 : wrapF .i64 ((gt l j).hi * ((gt l q).x - x) + (gt l q).hi * (x - (gt l j).x)) = (gt l j).hi * ((gt l q).x - x) + (gt l q).hi * (x - (gt l j).x) := w64_in _ (by omega)
                           obtain ⟨k9, q9, q41, P41⟩ := c41 _ (h.next + 1) ((gt l j).hi * ((gt l q).x - x) + (gt l q).hi * (x - (gt l j).x)) ((gt l q).x - (gt l j).x) (by omega) (by omega) t11.d k11 t11.g (by have := t11.nx; omega) (by rw [t11.ex.wr]; omega)
                           simp (config := { maxSteps := 10000000 }) only [go_sem, ↓forkQ_true, ↓forkQ_false, ↓guardQ_some, ↓resQ_val, ↓resQ_unit, ↓resQ_enter, ↓retQ_some, ↓resFQ_val, ↓resFQ_unit, ↓resFQ_enter, ↓retFQ_some, Nat.reduceEqDiff, reduceIte, Nat.reduceAdd, Nat.reduceMul, Nat.reduceSub, reduceCtorEq, Nat.reduceLeDiff, f0_20, f1_20, f2_20, f3_20, f8_20, f9_20, f12_20, f15_20, f19_20, f20_20, f21_20, f36_20, f37_20, f38_20, f55_20, hadd, haddm, hirm, hg3, hc3, ha3, hb2', hcs, hbm, hbm', irq, cutq, u12, u15, s0, s1, s2, m1, m2, a1, q41, u12, u15]
                           refine hK _ _ ?_
                           clear hK K
                           refine W.forget (fun e22 he22 => ?_)
                           have f0_22 := congrArg (fun q => Env.get q 0) he22
                           simp only [go_sem, Nat.reduceEqDiff, reduceIte, f0_20] at f0_22
                           have f1_22 := congrArg (fun q => Env.get q 1) he22
                           simp only [go_sem, Nat.reduceEqDiff, reduceIte, f1_20] at f1_22
                           have f2_22 := congrArg (fun q => Env.get q 2) he22
                           simp only [go_sem, Nat.reduceEqDiff, reduceIte, f2_20] at f2_22
                           have f3_22 := congrArg (fun q => Env.get q 3) he22
                           simp only [go_sem, Nat.reduceEqDiff, reduceIte, f3_20] at f3_22
                           have f8_22 := congrArg (fun q => Env.get q 8) he22
                           simp only [go_sem, Nat.reduceEqDiff, reduceIte, f8_20] at f8_22
                           have f9_22 := congrArg (fun q => Env.get q 9) he22
                           simp only [go_sem, Nat.reduceEqDiff, reduceIte, f9_20] at f9_22
                           have f12_22 := congrArg (fun q => Env.get q 12) he22
                           simp only [go_sem, Nat.reduceEqDiff, reduceIte, f12_20] at f12_22
                           have f19_22 := congrArg (fun q => Env.get q 19) he22
                           simp only [go_sem, Nat.reduceEqDiff, reduceIte, f19_20] at f19_22
                           have f20_22 := congrArg (fun q => Env.get q 20) he22
                           simp only [go_sem, Nat.reduceEqDiff, reduceIte, f20_20] at f20_22
                           have f21_22 := congrArg (fun q => Env.get q 21) he22
                           simp only [go_sem, Nat.reduceEqDiff, reduceIte, f21_20] at f21_22
                           have f36_22 := congrArg (fun q => Env.get q 36) he22
                           simp only [go_sem, Nat.reduceEqDiff, reduceIte, f36_20] at f36_22
                           have f37_22 := congrArg (fun q => Env.get q 37) he22
                           simp only [go_sem, Nat.reduceEqDiff, reduceIte, f37_20] at f37_22
                           have f38_22 := congrArg (fun q => Env.get q 38) he22
                           simp only [go_sem, Nat.reduceEqDiff, reduceIte, f38_20] at f38_22
                           clear he22 f0_20 f1_20 f2_20 f3_20 f8_20 f9_20 f12_20 f15_20 f19_20 f20_20 f21_20 f36_20 f37_20 f38_20 f55_20
                           refine W.blockN ?_
                           refine W.thenN ?_
                           refine W.region (fun K hK => ?_)
                           simp (config := { maxSteps := 10000000 }) only [go_sem, ↓forkQ_true, ↓forkQ_false, ↓guardQ_some, ↓resQ_val, ↓resQ_unit, ↓resQ_enter, ↓retQ_some, ↓resFQ_val, ↓resFQ_unit, ↓resFQ_enter, ↓retFQ_some, Nat.reduceEqDiff, reduceIte, Nat.reduceAdd, Nat.reduceMul, Nat.reduceSub, reduceCtorEq, Nat.reduceLeDiff, f0_22, f1_22, f2_22, f3_22, f8_22, f9_22, f12_22, f19_22, f20_22, f21_22, f36_22, f37_22, f38_22, hadd, haddm, hirm, hg3, hc3, ha3, hb2', hcs, hbm, hbm', irq, cutq, u12, u15, s0, s1, s2, m1, m2, a1, q41, u12, u15]
                           refine hK _ _ ?_
                           clear hK K
                           refine W.forget (fun e23 he23 => ?_)
                           have f0_23 := congrArg (fun q => Env.get q 0) he23
                           simp only [go_sem, Nat.reduceEqDiff, reduceIte, f0_22] at f0_23
                           have f1_23 := congrArg (fun q => Env.get q 1) he23
                           simp only [go_sem, Nat.reduceEqDiff, reduceIte, f1_22] at f1_23
                           have f2_23 := congrArg (fun q => Env.get q 2) he23
                           simp only [go_sem, Nat.reduceEqDiff, reduceIte, f2_22] at f2_23
                           have f3_23 := congrArg (fun q => Env.get q 3) he23
                           simp only [go_sem, Nat.reduceEqDiff, reduceIte, f3_22] at f3_23
                           have f8_23 := congrArg (fun q => Env.get q 8) he23
                           simp only [go_sem, Nat.reduceEqDiff, reduceIte, f8_22] at f8_23
                           have f9_23 := congrArg (fun q => Env.get q 9) he23
                           simp only [go_sem, Nat.reduceEqDiff, reduceIte, f9_22] at f9_23
                           have f12_23 := congrArg (fun q => Env.get q 12) he23
                           simp only [go_sem, Nat.reduceEqDiff, reduceIte, f12_22] at f12_23
                           have f19_23 := congrArg (fun q => Env.get q 19) he23
                           simp only [go_sem, Nat.reduceEqDiff, reduceIte, f19_22] at f19_23
                           have f20_23 := congrArg (fun q => Env.get q 20) he23
                           simp only [go_sem, Nat.reduceEqDiff, reduceIte, f20_22] at f20_23
                           have f21_23 := congrArg (fun q => Env.get q 21) he23
                           simp only [go_sem, Nat.reduceEqDiff, reduceIte, f21_22] at f21_23
                           have f36_23 := congrArg (fun q => Env.get q 36) he23
                           simp only [go_sem, Nat.reduceEqDiff, reduceIte, f36_22] at f36_23
                           have f37_23 := congrArg (fun q => Env.get q 37) he23
                           simp only [go_sem, Nat.reduceEqDiff, reduceIte, f37_22] at f37_23
                           have f38_23 := congrArg (fun q => Env.get q 38) he23
                           simp only [go_sem, Nat.reduceEqDiff, reduceIte, f38_22] at f38_23
                           clear he23 f0_22 f1_22 f2_22 f3_22 f8_22 f9_22 f12_22 f19_22 f20_22 f21_22 f36_22 f37_22 f38_22
                           refine W.thenN ?_
                           have gs := take_flat ((U.take r).flatMap (hJ l U L x) ++ hO l x j) U (hUp l x j) m hltm
                           first
                             | exact ⟨m + 1, by dsimp only; omega, ⟨by rw [gs, hqd, show hUp l x j q = _ from if_pos ⟨by omega, by omega⟩]; exact t11.most (by omega) P41, P41.kept (by omega) (by omega) gj11, kj1, Nat.lt_of_lt_of_le kj2' P41.next, f0_23, f1_23, f2_23, f3_23, f8_23, f9_23, f12_23, f19_23, f20_23, f21_23⟩, f36_23, f37_23, f38_23, by omega⟩
                             | exact ⟨m + 1, by dsimp only; omega, ⟨by rw [gs, hqd, show hUp l x j q = _ from if_neg (by omega), List.append_nil]; exact t11, gj11, kj1, kj2', f0_23, f1_23, f2_23, f3_23, f8_23, f9_23, f12_23, f19_23, f20_23, f21_23⟩, f36_23, f37_23, f38_23, by omega⟩)
                      · first
                        | (cases hc21; done)
                        | (exfalso; simp only [decide_eq_true_eq, decide_eq_false_iff_not, Bool.not_eq_true', Bool.not_eq_false', Bool.not_eq_eq_eq_not, Bool.not_true, Bool.not_false] at hc21; omega)
                        | (skip
                           try simp only [decide_eq_true_eq, decide_eq_false_iff_not, Bool.not_eq_true', Bool.not_eq_false', Bool.not_eq_eq_eq_not, Bool.not_true, Bool.not_false] at hc21
                           refine W.skip ?_
                           refine W.blockN ?_
                           refine W.thenN ?_
                           refine W.region (fun K hK => ?_)
                           simp (config := { maxSteps := 10000000 }) only [go_sem, ↓forkQ_true, ↓forkQ_false, ↓guardQ_some, ↓resQ_val, ↓resQ_unit, ↓resQ_enter, ↓retQ_some, ↓resFQ_val, ↓resFQ_unit, ↓resFQ_enter, ↓retFQ_some, Nat.reduceEqDiff, reduceIte, Nat.reduceAdd, Nat.reduceMul, Nat.reduceSub, reduceCtorEq, Nat.reduceLeDiff, f0_20, f1_20, f2_20, f3_20, f8_20, f9_20, f12_20, f15_20, f19_20, f20_20, f21_20, f36_20, f37_20, f38_20, f55_20, hadd, haddm, hirm, hg3, hc3, ha3, hb2', hcs, hbm, hbm', irq, cutq, u12, u15]
                           refine hK _ _ ?_
                           clear hK K
                           refine W.forget (fun e24 he24 => ?_)
                           have f0_24 := congrArg (fun q => Env.get q 0) he24
                           simp only [go_sem, Nat.reduceEqDiff, reduceIte, f0_20] at f0_24
                           have f1_24 := congrArg (fun q => Env.get q 1) he24
                           simp only [go_sem, Nat.reduceEqDiff, reduceIte, f1_20] at f1_24
                           have f2_24 := congrArg (fun q => Env.get q 2) he24
                           simp only [go_sem, Nat.reduceEqDiff, reduceIte, f2_20] at f2_24
                           have f3_24 := congrArg (fun q => Env.get q 3) he24
                           simp only [go_sem, Nat.reduceEqDiff, reduceIte, f3_20] at f3_24
                           have f8_24 := congrArg (fun q => Env.get q 8) he24
                           simp only [go_sem, Nat.reduceEqDiff, reduceIte, f8_20] at f8_24
                           have f9_24 := congrArg (fun q => Env.get q 9) he24
                           simp only [go_sem, Nat.reduceEqDiff, reduceIte, f9_20] at f9_24
                           have f12_24 := congrArg (fun q => Env.get q 12) he24
                           simp only [go_sem, Nat.reduceEqDiff, reduceIte, f12_20] at f12_24
                           have f19_24 := congrArg (fun q => Env.get q 19) he24
                           simp only [go_sem, Nat.reduceEqDiff, reduceIte, f19_20] at f19_24
                           have f20_24 := congrArg (fun q => Env.get q 20) he24
                           simp only [go_sem, Nat.reduceEqDiff, reduceIte, f20_20] at f20_24
                           have f21_24 := congrArg (fun q => Env.get q 21) he24
                           simp only [go_sem, Nat.reduceEqDiff, reduceIte, f21_20] at f21_24
                           have f36_24 := congrArg (fun q => Env.get q 36) he24
                           simp only [go_sem, Nat.reduceEqDiff, reduceIte, f36_20] at f36_24
                           have f37_24 := congrArg (fun q => Env.get q 37) he24
                           simp only [go_sem, Nat.reduceEqDiff, reduceIte, f37_20] at f37_24
                           have f38_24 := congrArg (fun q => Env.get q 38) he24
                           simp only [go_sem, Nat.reduceEqDiff, reduceIte, f38_20] at f38_24
                           clear he24 f0_20 f1_20 f2_20 f3_20 f8_20 f9_20 f12_20 f15_20 f19_20 f20_20 f21_20 f36_20 f37_20 f38_20 f55_20
                           refine W.thenN ?_
                           have gs := take_flat ((U.take r).flatMap (hJ l U L x) ++ hO l x j) U (hUp l x j) m hltm
                           first
                             | exact ⟨m + 1, by dsimp only; omega, ⟨by rw [gs, hqd, show hUp l x j q = _ from if_pos ⟨by omega, by omega⟩]; exact t11.most (by omega) P41, P41.kept (by omega) (by omega) gj11, kj1, Nat.lt_of_lt_of_le kj2' P41.next, f0_24, f1_24, f2_24, f3_24, f8_24, f9_24, f12_24, f19_24, f20_24, f21_24⟩, f36_24, f37_24, f38_24, by omega⟩
                             | exact ⟨m + 1, by dsimp only; omega, ⟨by rw [gs, hqd, show hUp l x j q = _ from if_neg (by omega), List.append_nil]; exact t11, gj11, kj1, kj2', f0_24, f1_24, f2_24, f3_24, f8_24, f9_24, f12_24, f19_24, f20_24, f21_24⟩, f36_24, f37_24, f38_24, by omega⟩))
               · first
                 | (cases hc17; done)
                 | (exfalso; simp only [decide_eq_true_eq, decide_eq_false_iff_not, Bool.not_eq_true', Bool.not_eq_false', Bool.not_eq_eq_eq_not, Bool.not_true, Bool.not_false] at hc17; omega)
                 | (skip
                    try simp only [decide_eq_true_eq, decide_eq_false_iff_not, Bool.not_eq_true', Bool.not_eq_false', Bool.not_eq_eq_eq_not, Bool.not_true, Bool.not_false] at hc17
                    refine W.exit ?_
                    refine W.thenE ?_
                    refine W.thenE ?_
                    refine W.blockE ?_
                    refine W.thenN ?_
                    refine W.seq ?_
                    refine W.region (fun K hK => ?_)
                    simp (config := { maxSteps := 10000000 }) only [go_sem, ↓forkQ_true, ↓forkQ_false, ↓guardQ_some, ↓resQ_val, ↓resQ_unit, ↓resQ_enter, ↓retQ_some, ↓resFQ_val, ↓resFQ_unit, ↓resFQ_enter, ↓retFQ_some, Nat.reduceEqDiff, reduceIte, Nat.reduceAdd, Nat.reduceMul, Nat.reduceSub, reduceCtorEq, Nat.reduceLeDiff, f0_16, f1_16, f2_16, f3_16, f8_16, f9_16, f12_16, f19_16, f20_16, f21_16, f36_16, f37_16, f38_16, f39_16, hadd]
                    refine hK _ _ ?_
                    clear hK K
                    refine W.forget (fun e25 he25 => ?_)
                    have f0_25 := congrArg (fun q => Env.get q 0) he25
                    simp only [go_sem, Nat.reduceEqDiff, reduceIte, f0_16] at f0_25
                    have f1_25 := congrArg (fun q => Env.get q 1) he25
                    simp only [go_sem, Nat.reduceEqDiff, reduceIte, f1_16] at f1_25
                    have f2_25 := congrArg (fun q => Env.get q 2) he25
                    simp only [go_sem, Nat.reduceEqDiff, reduceIte, f2_16] at f2_25
                    have f3_25 := congrArg (fun q => Env.get q 3) he25
                    simp only [go_sem, Nat.reduceEqDiff, reduceIte, f3_16] at f3_25
                    have f8_25 := congrArg (fun q => Env.get q 8) he25
                    simp only [go_sem, Nat.reduceEqDiff, reduceIte, f8_16] at f8_25
                    have f9_25 := congrArg (fun q => Env.get q 9) he25
                    simp only [go_sem, Nat.reduceEqDiff, reduceIte, f9_16] at f9_25
                    have f12_25 := congrArg (fun q => Env.get q 12) he25
                    simp only [go_sem, Nat.reduceEqDiff, reduceIte, f12_16] at f12_25
                    have f19_25 := congrArg (fun q => Env.get q 19) he25
                    simp only [go_sem, Nat.reduceEqDiff, reduceIte, f19_16] at f19_25
                    have f20_25 := congrArg (fun q => Env.get q 20) he25
                    simp only [go_sem, Nat.reduceEqDiff, reduceIte, f20_16] at f20_25
                    have f21_25 := congrArg (fun q => Env.get q 21) he25
                    simp only [go_sem, Nat.reduceEqDiff, reduceIte, f21_16] at f21_25
                    have f78_25 := congrArg (fun q => Env.get q 78) he25
                    simp only [go_sem, Nat.reduceEqDiff, reduceIte] at f78_25
                    have f79_25 := congrArg (fun q => Env.get q 79) he25
                    simp only [go_sem, Nat.reduceEqDiff, reduceIte] at f79_25
                    have f80_25 := congrArg (fun q => Env.get q 80) he25
                    simp only [go_sem, Nat.reduceEqDiff, reduceIte] at f80_25
                    clear he25 f0_16 f1_16 f2_16 f3_16 f8_16 f9_16 f12_16 f19_16 f20_16 f21_16 f36_16 f37_16 f38_16 f39_16
                    refine W.thenN ?_
                    refine W.block ?_
                    refine wq_rounds (fun m => L.length - m) (K38 l U L (some ⟨b0, 0, none⟩) a1 a2 c c1 c2 x h r j kj) ?_ 0 _ _ ?_
                    · intro m e26 k2 hn
                      have f0_26 := hn.e0
                      have f1_26 := hn.e1
                      have f2_26 := hn.e2
                      have f3_26 := hn.e3
                      have f8_26 := hn.e8
                      have f9_26 := hn.e9
                      have f12_26 := hn.e12
                      have f19_26 := hn.e19
                      have f20_26 := hn.e20
                      have f21_26 := hn.e21
                      have f78_26 := hn.e78
                      have f79_26 := hn.e79
                      have f80_26 := hn.e80
                      have exm := hn.t.ex
                      have hlem := hn.le
                      have nxm := hn.t.nx
                      have kj1 := hn.kj1
                      have kj2 := hn.kj2
                      have haddm : wrapF .i64 ((m : Int) + 1) = ((m + 1 : Nat) : Int) := by rw [w64_in _ (by omega)]; omega
                      refine W.seq ?_
                      refine W.region (fun K hK => ?_)
                      simp (config := { maxSteps := 10000000 }) only [go_sem, ↓forkQ_true, ↓forkQ_false, ↓guardQ_some, ↓resQ_val, ↓resQ_unit, ↓resQ_enter, ↓retQ_some, ↓resFQ_val, ↓resFQ_unit, ↓resFQ_enter, ↓retFQ_some, Nat.reduceEqDiff, reduceIte, Nat.reduceAdd, Nat.reduceMul, Nat.reduceSub, reduceCtorEq, Nat.reduceLeDiff, f0_26, f1_26, f2_26, f3_26, f8_26, f9_26, f12_26, f19_26, f20_26, f21_26, f78_26, f79_26, f80_26, hadd, haddm]
                      refine hK _ _ ?_
                      clear hK K
                      refine W.forget (fun e27 he27 => ?_)
                      have f0_27 := congrArg (fun q => Env.get q 0) he27
                      simp only [go_sem, Nat.reduceEqDiff, reduceIte, f0_26] at f0_27
                      have f1_27 := congrArg (fun q => Env.get q 1) he27
                      simp only [go_sem, Nat.reduceEqDiff, reduceIte, f1_26] at f1_27
                      have f2_27 := congrArg (fun q => Env.get q 2) he27
                      simp only [go_sem, Nat.reduceEqDiff, reduceIte, f2_26] at f2_27
                      have f3_27 := congrArg (fun q => Env.get q 3) he27
                      simp only [go_sem, Nat.reduceEqDiff, reduceIte, f3_26] at f3_27
                      have f8_27 := congrArg (fun q => Env.get q 8) he27
                      simp only [go_sem, Nat.reduceEqDiff, reduceIte, f8_26] at f8_27
                      have f9_27 := congrArg (fun q => Env.get q 9) he27
                      simp only [go_sem, Nat.reduceEqDiff, reduceIte, f9_26] at f9_27
                      have f12_27 := congrArg (fun q => Env.get q 12) he27
                      simp only [go_sem, Nat.reduceEqDiff, reduceIte, f12_26] at f12_27
                      have f19_27 := congrArg (fun q => Env.get q 19) he27
                      simp only [go_sem, Nat.reduceEqDiff, reduceIte, f19_26] at f19_27
                      have f20_27 := congrArg (fun q => Env.get q 20) he27
                      simp only [go_sem, Nat.reduceEqDiff, reduceIte, f20_26] at f20_27
                      have f21_27 := congrArg (fun q => Env.get q 21) he27
                      simp only [go_sem, Nat.reduceEqDiff, reduceIte, f21_26] at f21_27
                      have f78_27 := congrArg (fun q => Env.get q 78) he27
                      simp only [go_sem, Nat.reduceEqDiff, reduceIte, f78_26] at f78_27
                      have f79_27 := congrArg (fun q => Env.get q 79) he27
                      simp only [go_sem, Nat.reduceEqDiff, reduceIte, f79_26] at f79_27
                      have f80_27 := congrArg (fun q => Env.get q 80) he27
                      simp only [go_sem, Nat.reduceEqDiff, reduceIte, f80_26] at f80_27
                      have f81_27 := congrArg (fun q => Env.get q 81) he27
                      simp only [go_sem, Nat.reduceEqDiff, reduceIte] at f81_27
                      clear he27 f0_26 f1_26 f2_26 f3_26 f8_26 f9_26 f12_26 f19_26 f20_26 f21_26 f78_26 f79_26 f80_26
                      refine W.thenN ?_
                      refine W.seq ?_
                      refine W.cond f81_27 (fun hc28 => ?_) (fun hc28 => ?_)
                      · first
                        | (cases hc28; done)
                        | (exfalso; simp only [decide_eq_true_eq, decide_eq_false_iff_not, Bool.not_eq_true', Bool.not_eq_false', Bool.not_eq_eq_eq_not, Bool.not_true, Bool.not_false] at hc28; omega)
                        | (skip
                           try simp only [decide_eq_true_eq, decide_eq_false_iff_not, Bool.not_eq_true', Bool.not_eq_false', Bool.not_eq_eq_eq_not, Bool.not_true, Bool.not_false] at hc28
                           refine W.skip ?_
                           refine W.thenN ?_
                           refine W.seq ?_
                           refine W.block ?_
                           refine W.seq ?_
                           refine W.region (fun K hK => ?_)
                           have hltm : m < L.length := by omega
                           have hirm := inRange_nat hltm
                           obtain ⟨b3, blk3, ha3, hb3, hc3, hbl3⟩ := hIL.at (i := m) (by rw [natl_len]; exact hltm)
                           rw [nat_natl L m hltm] at hc3
                           have hg3 := (exm.get b3 hbl3).trans hb3
                           have hq := hL _ (getD_mem hltm)
                           generalize hqd : L.getD m 0 = q at hq hc3
                           simp (config := { maxSteps := 10000000 }) only [go_sem, ↓forkQ_true, ↓forkQ_false, ↓guardQ_some, ↓resQ_val, ↓resQ_unit, ↓resQ_enter, ↓retQ_some, ↓resFQ_val, ↓resFQ_unit, ↓resFQ_enter, ↓retFQ_some, Nat.reduceEqDiff, reduceIte, Nat.reduceAdd, Nat.reduceMul, Nat.reduceSub, reduceCtorEq, Nat.reduceLeDiff, f0_27, f1_27, f2_27, f3_27, f8_27, f9_27, f12_27, f19_27, f20_27, f21_27, f78_27, f79_27, f80_27, f81_27, hadd, haddm, hirm, hg3, hc3, ha3]
                           refine hK _ _ ?_
                           clear hK K
                           refine W.forget (fun e29 he29 => ?_)
                           have f0_29 := congrArg (fun q => Env.get q 0) he29
                           simp only [go_sem, Nat.reduceEqDiff, reduceIte, f0_27] at f0_29
                           have f1_29 := congrArg (fun q => Env.get q 1) he29
                           simp only [go_sem, Nat.reduceEqDiff, reduceIte, f1_27] at f1_29
                           have f2_29 := congrArg (fun q => Env.get q 2) he29
                           simp only [go_sem, Nat.reduceEqDiff, reduceIte, f2_27] at f2_29
                           have f3_29 := congrArg (fun q => Env.get q 3) he29
                           simp only [go_sem, Nat.reduceEqDiff, reduceIte, f3_27] at f3_29
                           have f8_29 := congrArg (fun q => Env.get q 8) he29
                           simp only [go_sem, Nat.reduceEqDiff, reduceIte, f8_27] at f8_29
                           have f9_29 := congrArg (fun q => Env.get q 9) he29
                           simp only [go_sem, Nat.reduceEqDiff, reduceIte, f9_27] at f9_29
                           have f12_29 := congrArg (fun q => Env.get q 12) he29
                           simp only [go_sem, Nat.reduceEqDiff, reduceIte, f12_27] at f12_29
                           have f17_29 := congrArg (fun q => Env.get q 17) he29
                           simp only [go_sem, Nat.reduceEqDiff, reduceIte] at f17_29
                           have f19_29 := congrArg (fun q => Env.get q 19) he29
                           simp only [go_sem, Nat.reduceEqDiff, reduceIte, f19_27] at f19_29
                           have f20_29 := congrArg (fun q => Env.get q 20) he29
                           simp only [go_sem, Nat.reduceEqDiff, reduceIte, f20_27] at f20_29
                           have f21_29 := congrArg (fun q => Env.get q 21) he29
                           simp only [go_sem, Nat.reduceEqDiff, reduceIte, f21_27] at f21_29
                           have f78_29 := congrArg (fun q => Env.get q 78) he29
                           simp only [go_sem, Nat.reduceEqDiff, reduceIte, f78_27] at f78_29
                           have f79_29 := congrArg (fun q => Env.get q 79) he29
                           simp only [go_sem, Nat.reduceEqDiff, reduceIte, f79_27] at f79_29
                           have f80_29 := congrArg (fun q => Env.get q 80) he29
                           simp only [go_sem, Nat.reduceEqDiff, reduceIte, f80_27] at f80_29
                           clear he29 f0_27 f1_27 f2_27 f3_27 f8_27 f9_27 f12_27 f19_27 f20_27 f21_27 f78_27 f79_27 f80_27 f81_27
                           refine W.thenN ?_
                           refine W.seq ?_
                           refine W.region (fun K hK => ?_)
                           have hb2' := (exm.get b0 hbl).trans hb
                           have hbm := exm.ne hbl
                           have hbm' := exm.ne' hbl
                           have irq := inRange_nat hq
                           have cutq := gcut (ext := ext) hq
                           simp (config := { maxSteps := 10000000 }) only [go_sem, ↓forkQ_true, ↓forkQ_false, ↓guardQ_some, ↓resQ_val, ↓resQ_unit, ↓resQ_enter, ↓retQ_some, ↓resFQ_val, ↓resFQ_unit, ↓resFQ_enter, ↓retFQ_some, Nat.reduceEqDiff, reduceIte, Nat.reduceAdd, Nat.reduceMul, Nat.reduceSub, reduceCtorEq, Nat.reduceLeDiff, f0_29, f1_29, f2_29, f3_29, f8_29, f9_29, f12_29, f17_29, f19_29, f20_29, f21_29, f78_29, f79_29, f80_29, hadd, haddm, hirm, hg3, hc3, ha3, hb2', hcs, hbm, hbm', irq, cutq]
                           refine hK _ _ ?_
                           clear hK K
                           refine W.forget (fun e30 he30 => ?_)
                           refine W.forgetH (fun k11 hk30 => ?_)
                           have t11 : Hw h k11 _ := hn.t.grow (by rw [hk30]; exact (exm.alloc _).set exm.next _) (by rw [hk30]; exact Nat.le_succ _) (fun q hq => by rw [hk30, Heap.get_set_ne _ _ (by omega), Heap.get_alloc_ne _ _ (by omega)])
                           have gj11 : k11.get kj = some (gcell3 l j) := by rw [hk30, Heap.get_set_ne _ _ (by omega), Heap.get_alloc_ne _ _ (by omega)]; exact hn.gj
                           have g15 : k11.get k2.next = some (gcell3 l q) := by rw [hk30]; exact Heap.get_set_same _ _ _
                           have kj2' : kj < k11.next := by rw [hk30]; exact Nat.lt_succ_of_lt kj2
                           have u12 := gj11
                           unfold gcell3 at u12
                           have u15 := g15
                           unfold gcell3 at u15
                           have rq := o.rng q hq
                           clear hk30
                           have f0_30 := congrArg (fun q => Env.get q 0) he30
                           simp only [go_sem, Nat.reduceEqDiff, reduceIte, f0_29] at f0_30
                           have f1_30 := congrArg (fun q => Env.get q 1) he30
                           simp only [go_sem, Nat.reduceEqDiff, reduceIte, f1_29] at f1_30
                           have f2_30 := congrArg (fun q => Env.get q 2) he30
                           simp only [go_sem, Nat.reduceEqDiff, reduceIte, f2_29] at f2_30
                           have f3_30 := congrArg (fun q => Env.get q 3) he30
                           simp only [go_sem, Nat.reduceEqDiff, reduceIte, f3_29] at f3_30
                           have f8_30 := congrArg (fun q => Env.get q 8) he30
                           simp only [go_sem, Nat.reduceEqDiff, reduceIte, f8_29] at f8_30
                           have f9_30 := congrArg (fun q => Env.get q 9) he30
                           simp only [go_sem, Nat.reduceEqDiff, reduceIte, f9_29] at f9_30
                           have f12_30 := congrArg (fun q => Env.get q 12) he30
                           simp only [go_sem, Nat.reduceEqDiff, reduceIte, f12_29] at f12_30
                           have f18_30 := congrArg (fun q => Env.get q 18) he30
                           simp only [go_sem, Nat.reduceEqDiff, reduceIte] at f18_30
                           have f19_30 := congrArg (fun q => Env.get q 19) he30
                           simp only [go_sem, Nat.reduceEqDiff, reduceIte, f19_29] at f19_30
                           have f20_30 := congrArg (fun q => Env.get q 20) he30
                           simp only [go_sem, Nat.reduceEqDiff, reduceIte, f20_29] at f20_30
                           have f21_30 := congrArg (fun q => Env.get q 21) he30
                           simp only [go_sem, Nat.reduceEqDiff, reduceIte, f21_29] at f21_30
                           have f78_30 := congrArg (fun q => Env.get q 78) he30
                           simp only [go_sem, Nat.reduceEqDiff, reduceIte, f78_29] at f78_30
                           have f79_30 := congrArg (fun q => Env.get q 79) he30
                           simp only [go_sem, Nat.reduceEqDiff, reduceIte, f79_29] at f79_30
                           have f80_30 := congrArg (fun q => Env.get q 80) he30
                           simp only [go_sem, Nat.reduceEqDiff, reduceIte, f80_29] at f80_30
                           clear he30 f0_29 f1_29 f2_29 f3_29 f8_29 f9_29 f12_29 f17_29 f19_29 f20_29 f21_29 f78_29 f79_29 f80_29
                           refine W.thenN ?_
                           refine W.block ?_
                           refine W.seq ?_
                           refine W.regionA (fun A hA K hK => ?_)
                           have gd5 := guardAt hA (j := 5) (d := 94) rfl
                           clear hA
                           simp (config := { maxSteps := 10000000 }) only [go_sem, ↓forkQ_true, ↓forkQ_false, ↓guardQ_some, ↓resQ_val, ↓resQ_unit, ↓resQ_enter, ↓retQ_some, ↓resFQ_val, ↓resFQ_unit, ↓resFQ_enter, ↓retFQ_some, Nat.reduceEqDiff, reduceIte, Nat.reduceAdd, Nat.reduceMul, Nat.reduceSub, reduceCtorEq, Nat.reduceLeDiff, f0_30, f1_30, f2_30, f3_30, f8_30, f9_30, f12_30, f18_30, f19_30, f20_30, f21_30, f78_30, f79_30, f80_30, hadd, haddm, hirm, hg3, hc3, ha3, hb2', hcs, hbm, hbm', irq, cutq, u12, u15, gd5]
                           repeat' (first | (refine W.forkP (fun hc31 => ?_) (fun hc31 => ?_) <;> simp (config := { maxSteps := 10000000 }) only [go_sem, ↓forkQ_true, ↓forkQ_false, ↓guardQ_some, ↓resQ_val, ↓resQ_unit, ↓resQ_enter, ↓retQ_some, ↓resFQ_val, ↓resFQ_unit, ↓resFQ_enter, ↓retFQ_some, Nat.reduceEqDiff, reduceIte, Nat.reduceAdd, Nat.reduceMul, Nat.reduceSub, reduceCtorEq, Nat.reduceLeDiff, f0_30, f1_30, f2_30, f3_30, f8_30, f9_30, f12_30, f18_30, f19_30, f20_30, f21_30, f78_30, f79_30, f80_30, hadd, haddm, hirm, hg3, hc3, ha3, hb2', hcs, hbm, hbm', irq, cutq, u12, u15, gd5, hc31]) | (refine W.fork (fun hc31 => ?_) (fun hc31 => ?_) <;> simp (config := { maxSteps := 10000000 }) only [go_sem, ↓forkQ_true, ↓forkQ_false, ↓guardQ_some, ↓resQ_val, ↓resQ_unit, ↓resQ_enter, ↓retQ_some, ↓resFQ_val, ↓resFQ_unit, ↓resFQ_enter, ↓retFQ_some, Nat.reduceEqDiff, reduceIte, Nat.reduceAdd, Nat.reduceMul, Nat.reduceSub, reduceCtorEq, Nat.reduceLeDiff, f0_30, f1_30, f2_30, f3_30, f8_30, f9_30, f12_30, f18_30, f19_30, f20_30, f21_30, f78_30, f79_30, f80_30, hadd, haddm, hirm, hg3, hc3, ha3, hb2', hcs, hbm, hbm', irq, cutq, u12, u15, gd5, hc31]))
                           all_goals
                             refine hK _ _ ?_
                             clear hK K A gd5
                             refine W.forget (fun e31 he31 => ?_)
                             have f0_31 := congrArg (fun q => Env.get q 0) he31
                             simp only [go_sem, Nat.reduceEqDiff, reduceIte, f0_30] at f0_31
                             have f1_31 := congrArg (fun q => Env.get q 1) he31
                             simp only [go_sem, Nat.reduceEqDiff, reduceIte, f1_30] at f1_31
                             have f2_31 := congrArg (fun q => Env.get q 2) he31
                             simp only [go_sem, Nat.reduceEqDiff, reduceIte, f2_30] at f2_31
                             have f3_31 := congrArg (fun q => Env.get q 3) he31
                             simp only [go_sem, Nat.reduceEqDiff, reduceIte, f3_30] at f3_31
                             have f8_31 := congrArg (fun q => Env.get q 8) he31
                             simp only [go_sem, Nat.reduceEqDiff, reduceIte, f8_30] at f8_31
                             have f9_31 := congrArg (fun q => Env.get q 9) he31
                             simp only [go_sem, Nat.reduceEqDiff, reduceIte, f9_30] at f9_31
                             have f12_31 := congrArg (fun q => Env.get q 12) he31
                             simp only [go_sem, Nat.reduceEqDiff, reduceIte, f12_30] at f12_31
                             have f18_31 := congrArg (fun q => Env.get q 18) he31
                             simp only [go_sem, Nat.reduceEqDiff, reduceIte, f18_30] at f18_31
                             have f19_31 := congrArg (fun q => Env.get q 19) he31
                             simp only [go_sem, Nat.reduceEqDiff, reduceIte, f19_30] at f19_31
                             have f20_31 := congrArg (fun q => Env.get q 20) he31
                             simp only [go_sem, Nat.reduceEqDiff, reduceIte, f20_30] at f20_31
                             have f21_31 := congrArg (fun q => Env.get q 21) he31
                             simp only [go_sem, Nat.reduceEqDiff, reduceIte, f21_30] at f21_31
                             have f78_31 := congrArg (fun q => Env.get q 78) he31
                             simp only [go_sem, Nat.reduceEqDiff, reduceIte, f78_30] at f78_31
                             have f79_31 := congrArg (fun q => Env.get q 79) he31
                             simp only [go_sem, Nat.reduceEqDiff, reduceIte, f79_30] at f79_31
                             have f80_31 := congrArg (fun q => Env.get q 80) he31
                             simp only [go_sem, Nat.reduceEqDiff, reduceIte, f80_30] at f80_31
                             have f88_31 := congrArg (fun q => Env.get q 88) he31
                             simp only [go_sem, Nat.reduceEqDiff, reduceIte] at f88_31
                             clear he31 f0_30 f1_30 f2_30 f3_30 f8_30 f9_30 f12_30 f18_30 f19_30 f20_30 f21_30 f78_30 f79_30 f80_30
                             refine W.thenN ?_
                             refine W.cond f88_31 (fun hc32 => ?_) (fun hc32 => ?_)
                             · first
                               | (cases hc32; done)
                               | (exfalso; simp only [decide_eq_true_eq, decide_eq_false_iff_not, Bool.not_eq_true', Bool.not_eq_false', Bool.not_eq_eq_eq_not, Bool.not_true, Bool.not_false] at hc32; omega)
                               | (skip
                                  try simp only [decide_eq_true_eq, decide_eq_false_iff_not, Bool.not_eq_true', Bool.not_eq_false', Bool.not_eq_eq_eq_not, Bool.not_true, Bool.not_false] at hc32
                                  refine W.region (fun K hK => ?_)
                                  have s0 : wrapF .i64 ((gt l j).x - (gt l q).x) = (gt l j).x - (gt l q).x := w64_in _ (by omega)
                                  have s1 : wrapF .i64 ((gt l j).hi - (gt l q).lo) = (gt l j).hi - (gt l q).lo := w64_in _ (by omega)
                                  have s2 : wrapF .i64 (x - (gt l j).x) = x - (gt l j).x := w64_in _ (by omega)
                                  have p1 := mul_bd (a := (gt l j).hi) (b := (gt l j).x - (gt l q).x) (A := 1073741824) (B := 1073741824) (by omega) (by omega)
                                  have p2 := mul_bd (a := ((gt l j).hi - (gt l q).lo)) (b := x - (gt l j).x) (A := 2147483648) (B := 1073741824) (by omega) (by omega)
                                  have m1 : wrapF .i64 ((gt l j).hi * ((gt l j).x - (gt l q).x)) = (gt l j).hi * ((gt l j).x - (gt l q).x) := w64_in _ (by omega)
                                  have m2 : wrapF .i64 (((gt l j).hi - (gt l q).lo) * (x - (gt l j).x)) = ((gt l j).hi - (gt l q).lo) * (x - (gt l j).x) := w64_in _ (by omega)
                                  have a1 : wrapF .i64 ((gt l j).hi * ((gt l j).x - (gt l q).x) + ((gt l j).hi - (gt l q).lo) * (x - (gt l j).x)) = (gt l j).hi * ((gt l j).x - (gt l q).x) + ((gt l j).hi - (gt l q).lo) * (x - (gt l j).x) := w64_in _ (by omega)
                                  obtain ⟨k9, q9, q41, P41⟩ := c41 _ (h.next + 1) ((gt l j).hi * ((gt l j).x - (gt l q).x) + ((gt l j).hi - (gt l q).lo) * (x - (gt l j).x)) ((gt l j).x - (gt l q).x) (by omega) (by omega) t11.d k11 t11.g (by have := t11.nx; omega) (by rw [t11.ex.wr]; omega)
                                  simp (config := { maxSteps := 10000000 }) only [go_sem, ↓forkQ_true, ↓forkQ_false, ↓guardQ_some, ↓resQ_val, ↓resQ_unit, ↓resQ_enter, ↓retQ_some, ↓resFQ_val, ↓resFQ_unit, ↓resFQ_enter, ↓retFQ_some, Nat.reduceEqDiff, reduceIte, Nat.reduceAdd, Nat.reduceMul, Nat.reduceSub, reduceCtorEq, Nat.reduceLeDiff, f0_31, f1_31, f2_31, f3_31, f8_31, f9_31, f12_31, f18_31, f19_31, f20_31, f21_31, f78_31, f79_31, f80_31, f88_31, hadd, haddm, hirm, hg3, hc3, ha3, hb2', hcs, hbm, hbm', irq, cutq, u12, u15, s0, s1, s2, m1, m2, a1, q41, u12, u15]
                                  refine hK _ _ ?_
                                  clear hK K
                                  refine W.forget (fun e33 he33 => ?_)
                                  have f0_33 := congrArg (fun q => Env.get q 0) he33
                                  simp only [go_sem, Nat.reduceEqDiff, reduceIte, f0_31] at f0_33
                                  have f1_33 := congrArg (fun q => Env.get q 1) he33
                                  simp only [go_sem, Nat.reduceEqDiff, reduceIte, f1_31] at f1_33
                                  have f2_33 := congrArg (fun q => Env.get q 2) he33
                                  simp only [go_sem, Nat.reduceEqDiff, reduceIte, f2_31] at f2_33
                                  have f3_33 := congrArg (fun q => Env.get q 3) he33
                                  simp only [go_sem, Nat.reduceEqDiff, reduceIte, f3_31] at f3_33
                                  have f8_33 := congrArg (fun q => Env.get q 8) he33
                                  simp only [go_sem, Nat.reduceEqDiff, reduceIte, f8_31] at f8_33
                                  have f9_33 := congrArg (fun q => Env.get q 9) he33
                                  simp only [go_sem, Nat.reduceEqDiff, reduceIte, f9_31] at f9_33
                                  have f12_33 := congrArg (fun q => Env.get q 12) he33
                                  simp only [go_sem, Nat.reduceEqDiff, reduceIte, f12_31] at f12_33
                                  have f19_33 := congrArg (fun q => Env.get q 19) he33
                                  simp only [go_sem, Nat.reduceEqDiff, reduceIte, f19_31] at f19_33
                                  have f20_33 := congrArg (fun q => Env.get q 20) he33
                                  simp only [go_sem, Nat.reduceEqDiff, reduceIte, f20_31] at f20_33
                                  have f21_33 := congrArg (fun q => Env.get q 21) he33
                                  simp only [go_sem, Nat.reduceEqDiff, reduceIte, f21_31] at f21_33
                                  have f78_33 := congrArg (fun q => Env.get q 78) he33
                                  simp only [go_sem, Nat.reduceEqDiff, reduceIte, f78_31] at f78_33
                                  have f79_33 := congrArg (fun q => Env.get q 79) he33
                                  simp only [go_sem, Nat.reduceEqDiff, reduceIte, f79_31] at f79_33
                                  have f80_33 := congrArg (fun q => Env.get q 80) he33
                                  simp only [go_sem, Nat.reduceEqDiff, reduceIte, f80_31] at f80_33
                                  clear he33 f0_31 f1_31 f2_31 f3_31 f8_31 f9_31 f12_31 f18_31 f19_31 f20_31 f21_31 f78_31 f79_31 f80_31 f88_31
                                  refine W.blockN ?_
                                  refine W.blockN ?_
                                  refine W.thenN ?_
                                  refine W.region (fun K hK => ?_)
                                  simp (config := { maxSteps := 10000000 }) only [go_sem, ↓forkQ_true, ↓forkQ_false, ↓guardQ_some, ↓resQ_val, ↓resQ_unit, ↓resQ_enter, ↓retQ_some, ↓resFQ_val, ↓resFQ_unit, ↓resFQ_enter, ↓retFQ_some, Nat.reduceEqDiff, reduceIte, Nat.reduceAdd, Nat.reduceMul, Nat.reduceSub, reduceCtorEq, Nat.reduceLeDiff, f0_33, f1_33, f2_33, f3_33, f8_33, f9_33, f12_33, f19_33, f20_33, f21_33, f78_33, f79_33, f80_33, hadd, haddm, hirm, hg3, hc3, ha3, hb2', hcs, hbm, hbm', irq, cutq, u12, u15, s0, s1, s2, m1, m2, a1, q41, u12, u15]
                                  refine hK _ _ ?_
                                  clear hK K
                                  refine W.forget (fun e34 he34 => ?_)
                                  have f0_34 := congrArg (fun q => Env.get q 0) he34
                                  simp only [go_sem, Nat.reduceEqDiff, reduceIte, f0_33] at f0_34
                                  have f1_34 := congrArg (fun q => Env.get q 1) he34
                                  simp only [go_sem, Nat.reduceEqDiff, reduceIte, f1_33] at f1_34
                                  have f2_34 := congrArg (fun q => Env.get q 2) he34
                                  simp only [go_sem, Nat.reduceEqDiff, reduceIte, f2_33] at f2_34
                                  have f3_34 := congrArg (fun q => Env.get q 3) he34
                                  simp only [go_sem, Nat.reduceEqDiff, reduceIte, f3_33] at f3_34
                                  have f8_34 := congrArg (fun q => Env.get q 8) he34
                                  simp only [go_sem, Nat.reduceEqDiff, reduceIte, f8_33] at f8_34
                                  have f9_34 := congrArg (fun q => Env.get q 9) he34
                                  simp only [go_sem, Nat.reduceEqDiff, reduceIte, f9_33] at f9_34
                                  have f12_34 := congrArg (fun q => Env.get q 12) he34
                                  simp only [go_sem, Nat.reduceEqDiff, reduceIte, f12_33] at f12_34
                                  have f19_34 := congrArg (fun q => Env.get q 19) he34
                                  simp only [go_sem, Nat.reduceEqDiff, reduceIte, f19_33] at f19_34
                                  have f20_34 := congrArg (fun q => Env.get q 20) he34
                                  simp only [go_sem, Nat.reduceEqDiff, reduceIte, f20_33] at f20_34
                                  have f21_34 := congrArg (fun q => Env.get q 21) he34
                                  simp only [go_sem, Nat.reduceEqDiff, reduceIte, f21_33] at f21_34
                                  have f78_34 := congrArg (fun q => Env.get q 78) he34
                                  simp only [go_sem, Nat.reduceEqDiff, reduceIte, f78_33] at f78_34
                                  have f79_34 := congrArg (fun q => Env.get q 79) he34
                                  simp only [go_sem, Nat.reduceEqDiff, reduceIte, f79_33] at f79_34
                                  have f80_34 := congrArg (fun q => Env.get q 80) he34
                                  simp only [go_sem, Nat.reduceEqDiff, reduceIte, f80_33] at f80_34
                                  clear he34 f0_33 f1_33 f2_33 f3_33 f8_33 f9_33 f12_33 f19_33 f20_33 f21_33 f78_33 f79_33 f80_33
                                  refine W.thenN ?_
                                  have gs := take_flat ((U.take r).flatMap (hJ l U L x) ++ hO l x j ++ U.flatMap (hUp l x j)) L (hLp l x j) m hltm
                                  first
                                    | exact ⟨m + 1, by dsimp only; omega, ⟨by rw [gs, hqd, show hLp l x j q = _ from if_pos ⟨by omega, by omega⟩]; exact t11.most (by omega) P41, P41.kept (by omega) (by omega) gj11, kj1, Nat.lt_of_lt_of_le kj2' P41.next, f0_34, f1_34, f2_34, f3_34, f8_34, f9_34, f12_34, f19_34, f20_34, f21_34⟩, f78_34, f79_34, f80_34, by omega⟩
                                    | exact ⟨m + 1, by dsimp only; omega, ⟨by rw [gs, hqd, show hLp l x j q = _ from (if_neg (by omega)).trans (if_pos ⟨by omega, by omega⟩)]; exact t11.most (by omega) P41, P41.kept (by omega) (by omega) gj11, kj1, Nat.lt_of_lt_of_le kj2' P41.next, f0_34, f1_34, f2_34, f3_34, f8_34, f9_34, f12_34, f19_34, f20_34, f21_34⟩, f78_34, f79_34, f80_34, by omega⟩
                                    | exact ⟨m + 1, by dsimp only; omega, ⟨by rw [gs, hqd, show hLp l x j q = _ from (if_neg (by omega)).trans (if_neg (by omega)), List.append_nil]; exact t11, gj11, kj1, kj2', f0_34, f1_34, f2_34, f3_34, f8_34, f9_34, f12_34, f19_34, f20_34, f21_34⟩, f78_34, f79_34, f80_34, by omega⟩)
                             · first
                               | (cases hc32; done)
                               | (exfalso; simp only [decide_eq_true_eq, decide_eq_false_iff_not, Bool.not_eq_true', Bool.not_eq_false', Bool.not_eq_eq_eq_not, Bool.not_true, Bool.not_false] at hc32; omega)
                               | (skip
                                  try simp only [decide_eq_true_eq, decide_eq_false_iff_not, Bool.not_eq_true', Bool.not_eq_false', Bool.not_eq_eq_eq_not, Bool.not_true, Bool.not_false] at hc32
                                  refine W.seq ?_
                                  refine W.regionA (fun A hA K hK => ?_)
                                  have gd4 := guardAt hA (j := 4) (d := 130) rfl
                                  clear hA
                                  simp (config := { maxSteps := 10000000 }) only [go_sem, ↓forkQ_true, ↓forkQ_false, ↓guardQ_some, ↓resQ_val, ↓resQ_unit, ↓resQ_enter, ↓retQ_some, ↓resFQ_val, ↓resFQ_unit, ↓resFQ_enter, ↓retFQ_some, Nat.reduceEqDiff, reduceIte, Nat.reduceAdd, Nat.reduceMul, Nat.reduceSub, reduceCtorEq, Nat.reduceLeDiff, f0_31, f1_31, f2_31, f3_31, f8_31, f9_31, f12_31, f18_31, f19_31, f20_31, f21_31, f78_31, f79_31, f80_31, f88_31, hadd, haddm, hirm, hg3, hc3, ha3, hb2', hcs, hbm, hbm', irq, cutq, u12, u15, u12, u15, gd4]
                                  repeat' (first | (refine W.forkP (fun hc35 => ?_) (fun hc35 => ?_) <;> simp (config := { maxSteps := 10000000 }) only [go_sem, ↓forkQ_true, ↓forkQ_false, ↓guardQ_some, ↓resQ_val, ↓resQ_unit, ↓resQ_enter, ↓retQ_some, ↓resFQ_val, ↓resFQ_unit, ↓resFQ_enter, ↓retFQ_some, Nat.reduceEqDiff, reduceIte, Nat.reduceAdd, Nat.reduceMul, Nat.reduceSub, reduceCtorEq, Nat.reduceLeDiff, f0_31, f1_31, f2_31, f3_31, f8_31, f9_31, f12_31, f18_31, f19_31, f20_31, f21_31, f78_31, f79_31, f80_31, f88_31, hadd, haddm, hirm, hg3, hc3, ha3, hb2', hcs, hbm, hbm', irq, cutq, u12, u15, u12, u15, gd4, hc35]) | (refine W.fork (fun hc35 => ?_) (fun hc35 => ?_) <;> simp (config := { maxSteps := 10000000 }) only [go_sem, ↓forkQ_true, ↓forkQ_false, ↓guardQ_some, ↓resQ_val, ↓resQ_unit, ↓resQ_enter, ↓retQ_some, ↓resFQ_val, ↓resFQ_unit, ↓resFQ_enter, ↓retFQ_some, Nat.reduceEqDiff, reduceIte, Nat.reduceAdd, Nat.reduceMul, Nat.reduceSub, reduceCtorEq, Nat.reduceLeDiff, f0_31, f1_31, f2_31, f3_31, f8_31, f9_31, f12_31, f18_31, f19_31, f20_31, f21_31, f78_31, f79_31, f80_31, f88_31, hadd, haddm, hirm, hg3, hc3, ha3, hb2', hcs, hbm, hbm', irq, cutq, u12, u15, u12, u15, gd4, hc35]))
                                  all_goals
                                    refine hK _ _ ?_
                                    clear hK K A gd4
                                    refine W.forget (fun e35 he35 => ?_)
                                    have f0_35 := congrArg (fun q => Env.get q 0) he35
                                    simp only [go_sem, Nat.reduceEqDiff, reduceIte, f0_31] at f0_35
                                    have f1_35 := congrArg (fun q => Env.get q 1) he35
                                    simp only [go_sem, Nat.reduceEqDiff, reduceIte, f1_31] at f1_35
                                    have f2_35 := congrArg (fun q => Env.get q 2) he35
                                    simp only [go_sem, Nat.reduceEqDiff, reduceIte, f2_31] at f2_35
                                    have f3_35 := congrArg (fun q => Env.get q 3) he35
                                    simp only [go_sem, Nat.reduceEqDiff, reduceIte, f3_31] at f3_35
                                    have f8_35 := congrArg (fun q => Env.get q 8) he35
                                    simp only [go_sem, Nat.reduceEqDiff, reduceIte, f8_31] at f8_35
                                    have f9_35 := congrArg (fun q => Env.get q 9) he35
                                    simp only [go_sem, Nat.reduceEqDiff, reduceIte, f9_31] at f9_35
                                    have f12_35 := congrArg (fun q => Env.get q 12) he35
                                    simp only [go_sem, Nat.reduceEqDiff, reduceIte, f12_31] at f12_35
                                    have f18_35 := congrArg (fun q => Env.get q 18) he35
                                    simp only [go_sem, Nat.reduceEqDiff, reduceIte, f18_31] at f18_35
                                    have f19_35 := congrArg (fun q => Env.get q 19) he35
                                    simp only [go_sem, Nat.reduceEqDiff, reduceIte, f19_31] at f19_35
                                    have f20_35 := congrArg (fun q => Env.get q 20) he35
                                    simp only [go_sem, Nat.reduceEqDiff, reduceIte, f20_31] at f20_35
                                    have f21_35 := congrArg (fun q => Env.get q 21) he35
                                    simp only [go_sem, Nat.reduceEqDiff, reduceIte, f21_31] at f21_35
                                    have f78_35 := congrArg (fun q => Env.get q 78) he35
                                    simp only [go_sem, Nat.reduceEqDiff, reduceIte, f78_31] at f78_35
                                    have f79_35 := congrArg (fun q => Env.get q 79) he35
                                    simp only [go_sem, Nat.reduceEqDiff, reduceIte, f79_31] at f79_35
                                    have f80_35 := congrArg (fun q => Env.get q 80) he35
                                    simp only [go_sem, Nat.reduceEqDiff, reduceIte, f80_31] at f80_35
                                    have f125_35 := congrArg (fun q => Env.get q 125) he35
                                    simp only [go_sem, Nat.reduceEqDiff, reduceIte] at f125_35
                                    clear he35 f0_31 f1_31 f2_31 f3_31 f8_31 f9_31 f12_31 f18_31 f19_31 f20_31 f21_31 f78_31 f79_31 f80_31 f88_31
                                    refine W.thenN ?_
                                    refine W.cond f125_35 (fun hc36 => ?_) (fun hc36 => ?_)
                                    · first
                                      | (cases hc36; done)
                                      | (exfalso; simp only [decide_eq_true_eq, decide_eq_false_iff_not, Bool.not_eq_true', Bool.not_eq_false', Bool.not_eq_eq_eq_not, Bool.not_true, Bool.not_false] at hc36; omega)
                                      | (skip
                                         try simp only [decide_eq_true_eq, decide_eq_false_iff_not, Bool.not_eq_true', Bool.not_eq_false', Bool.not_eq_eq_eq_not, Bool.not_true, Bool.not_false] at hc36
                                         refine W.region (fun K hK => ?_)
                                         have s0 : wrapF .i64 ((gt l q).x - (gt l j).x) = (gt l q).x - (gt l j).x := w64_in _ (by omega)
                                         have s1 : wrapF .i64 ((gt l j).hi - (gt l q).lo) = (gt l j).hi - (gt l q).lo := w64_in _ (by omega)
                                         have s2 : wrapF .i64 ((gt l j).x - x) = (gt l j).x - x := w64_in _ (by omega)
                                         have p1 := mul_bd (a := (gt l j).hi) (b := (gt l q).x - (gt l j).x) (A := 1073741824) (B := 1073741824) (by omega) (by omega)
                                         have p2 := mul_bd (a := ((gt l j).hi - (gt l q).lo)) (b := (gt l j).x - x) (A := 2147483648) (B := 1073741824) (by omega) (by omega)
                                         have m1 : wrapF .i64 ((gt l j).hi * ((gt l q).x - (gt l j).x)) = (gt l j).hi * ((gt l q).x - (gt l j).x) := w64_in _ (by omega)
                                         have m2 : wrapF .i64 (((gt l j).hi - (gt l q).lo) * ((gt l j).x - x)) = ((gt l j).hi - (gt l q).lo) * ((gt l j).x - x) := w64_in _ (by omega)
                                         have a1 : wrapF .i64 ((gt l j).hi * ((gt l q).x - (gt l j).x) + ((gt l j).hi - (gt l q).lo) * ((gt l j).x - x)) = (gt l j).hi * ((gt l q).x - (gt l j).x) + ((gt l j).hi - (gt l q).lo) * ((gt l j).x - x) := w64_in _ (by omega)
                                         obtain ⟨k9, q9, q41, P41⟩ := c41 _ (h.next + 1) ((gt l j).hi * ((gt l q).x - (gt l j).x) + ((gt l j).hi - (gt l q).lo) * ((gt l j).x - x)) ((gt l q).x - (gt l j).x) (by omega) (by omega) t11.d k11 t11.g (by have := t11.nx; omega) (by rw [t11.ex.wr]; omega)
                                         simp (config := { maxSteps := 10000000 }) only [go_sem, ↓forkQ_true, ↓forkQ_false, ↓guardQ_some, ↓resQ_val, ↓resQ_unit, ↓resQ_enter, ↓retQ_some, ↓resFQ_val, ↓resFQ_unit, ↓resFQ_enter, ↓retFQ_some, Nat.reduceEqDiff, reduceIte, Nat.reduceAdd, Nat.reduceMul, Nat.reduceSub, reduceCtorEq, Nat.reduceLeDiff, f0_35, f1_35, f2_35, f3_35, f8_35, f9_35, f12_35, f18_35, f19_35, f20_35, f21_35, f78_35, f79_35, f80_35, f125_35, hadd, haddm, hirm, hg3, hc3, ha3, hb2', hcs, hbm, hbm', irq, cutq, u12, u15, u12, u15, s0, s1, s2, m1, m2, a1, q41, u12, u15]
                                         refine hK _ _ ?_
                                         clear hK K
                                         refine W.forget (fun e37 he37 => ?_)
                                         have f0_37 := congrArg (fun q => Env.get q 0) he37
                                         simp only [go_sem, Nat.reduceEqDiff, reduceIte, f0_35] at f0_37
                                         have f1_37 := congrArg (fun q => Env.get q 1) he37
                                         simp only [go_sem, Nat.reduceEqDiff, reduceIte, f1_35] at f1_37
                                         have f2_37 := congrArg (fun q => Env.get q 2) he37
                                         simp only [go_sem, Nat.reduceEqDiff, reduceIte, f2_35] at f2_37
                                         have f3_37 := congrArg (fun q => Env.get q 3) he37
                                         simp only [go_sem, Nat.reduceEqDiff, reduceIte, f3_35] at f3_37
                                         have f8_37 := congrArg (fun q => Env.get q 8) he37
                                         simp only [go_sem, Nat.reduceEqDiff, reduceIte, f8_35] at f8_37
                                         have f9_37 := congrArg (fun q => Env.get q 9) he37
                                         simp only [go_sem, Nat.reduceEqDiff, reduceIte, f9_35] at f9_37
                                         have f12_37 := congrArg (fun q => Env.get q 12) he37
                                         simp only [go_sem, Nat.reduceEqDiff, reduceIte, f12_35] at f12_37
                                         have f19_37 := congrArg (fun q => Env.get q 19) he37
                                         simp only [go_sem, Nat.reduceEqDiff, reduceIte, f19_35] at f19_37
                                         have f20_37 := congrArg (fun q => Env.get q 20) he37
                                         simp only [go_sem, Nat.reduceEqDiff, reduceIte, f20_35] at f20_37
                                         have f21_37 := congrArg (fun q => Env.get q 21) he37
                                         simp only [go_sem, Nat.reduceEqDiff, reduceIte, f21_35] at f21_37
                                         have f78_37 := congrArg (fun q => Env.get q 78) he37
                                         simp only [go_sem, Nat.reduceEqDiff, reduceIte, f78_35] at f78_37
                                         have f79_37 := congrArg (fun q => Env.get q 79) he37
                                         simp only [go_sem, Nat.reduceEqDiff, reduceIte, f79_35] at f79_37
                                         have f80_37 := congrArg (fun q => Env.get q 80) he37
                                         simp only [go_sem, Nat.reduceEqDiff, reduceIte, f80_35] at f80_37
                                         clear he37 f0_35 f1_35 f2_35 f3_35 f8_35 f9_35 f12_35 f18_35 f19_35 f20_35 f21_35 f78_35 f79_35 f80_35 f125_35
                                         refine W.blockN ?_
                                         refine W.blockN ?_
                                         refine W.thenN ?_
                                         refine W.region (fun K hK => ?_)
                                         simp (config := { maxSteps := 10000000 }) only [go_sem, ↓forkQ_true, ↓forkQ_false, ↓guardQ_some, ↓resQ_val, ↓resQ_unit, ↓resQ_enter, ↓retQ_some, ↓resFQ_val, ↓resFQ_unit, ↓resFQ_enter, ↓retFQ_some, Nat.reduceEqDiff, reduceIte, Nat.reduceAdd, Nat.reduceMul, Nat.reduceSub, reduceCtorEq, Nat.reduceLeDiff, f0_37, f1_37, f2_37, f3_37, f8_37, f9_37, f12_37, f19_37, f20_37, f21_37, f78_37, f79_37, f80_37, hadd, haddm, hirm, hg3, hc3, ha3, hb2', hcs, hbm, hbm', irq, cutq, u12, u15, u12, u15, s0, s1, s2, m1, m2, a1, q41, u12, u15]
                                         refine hK _ _ ?_
                                         clear hK K
                                         refine W.forget (fun e38 he38 => ?_)
                                         have f0_38 := congrArg (fun q => Env.get q 0) he38
                                         simp only [go_sem, Nat.reduceEqDiff, reduceIte, f0_37] at f0_38
                                         have f1_38 := congrArg (fun q => Env.get q 1) he38
                                         simp only [go_sem, Nat.reduceEqDiff, reduceIte, f1_37] at f1_38
                                         have f2_38 := congrArg (fun q => Env.get q 2) he38
                                         simp only [go_sem, Nat.reduceEqDiff, reduceIte, f2_37] at f2_38
                                         have f3_38 := congrArg (fun q => Env.get q 3) he38
                                         simp only [go_sem, Nat.reduceEqDiff, reduceIte, f3_37] at f3_38
                                         have f8_38 := congrArg (fun q => Env.get q 8) he38
                                         simp only [go_sem, Nat.reduceEqDiff, reduceIte, f8_37] at f8_38
                                         have f9_38 := congrArg (fun q => Env.get q 9) he38
                                         simp only [go_sem, Nat.reduceEqDiff, reduceIte, f9_37] at f9_38
                                         have f12_38 := congrArg (fun q => Env.get q 12) he38
                                         simp only [go_sem, Nat.reduceEqDiff, reduceIte, f12_37] at f12_38
                                         have f19_38 := congrArg (fun q => Env.get q 19) he38
                                         simp only [go_sem, Nat.reduceEqDiff, reduceIte, f19_37] at f19_38
                                         have f20_38 := congrArg (fun q => Env.get q 20) he38
                                         simp only [go_sem, Nat.reduceEqDiff, reduceIte, f20_37] at f20_38
                                         have f21_38 := congrArg (fun q => Env.get q 21) he38
                                         simp only [go_sem, Nat.reduceEqDiff, reduceIte, f21_37] at f21_38
                                         have f78_38 := congrArg (fun q => Env.get q 78) he38
                                         simp only [go_sem, Nat.reduceEqDiff, reduceIte, f78_37] at f78_38
                                         have f79_38 := congrArg (fun q => Env.get q 79) he38
                                         simp only [go_sem, Nat.reduceEqDiff, reduceIte, f79_37] at f79_38
                                         have f80_38 := congrArg (fun q => Env.get q 80) he38
                                         simp only [go_sem, Nat.reduceEqDiff, reduceIte, f80_37] at f80_38
                                         clear he38 f0_37 f1_37 f2_37 f3_37 f8_37 f9_37 f12_37 f19_37 f20_37 f21_37 f78_37 f79_37 f80_37
                                         refine W.thenN ?_
                                         have gs := take_flat ((U.take r).flatMap (hJ l U L x) ++ hO l x j ++ U.flatMap (hUp l x j)) L (hLp l x j) m hltm
                                         first
                                           | exact ⟨m + 1, by dsimp only; omega, ⟨by rw [gs, hqd, show hLp l x j q = _ from if_pos ⟨by omega, by omega⟩]; exact t11.most (by omega) P41, P41.kept (by omega) (by omega) gj11, kj1, Nat.lt_of_lt_of_le kj2' P41.next, f0_38, f1_38, f2_38, f3_38, f8_38, f9_38, f12_38, f19_38, f20_38, f21_38⟩, f78_38, f79_38, f80_38, by omega⟩
                                           | exact ⟨m + 1, by dsimp only; omega, ⟨by rw [gs, hqd, show hLp l x j q = _ from (if_neg (by omega)).trans (if_pos ⟨by omega, by omega⟩)]; exact t11.most (by omega) P41, P41.kept (by omega) (by omega) gj11, kj1, Nat.lt_of_lt_of_le kj2' P41.next, f0_38, f1_38, f2_38, f3_38, f8_38, f9_38, f12_38, f19_38, f20_38, f21_38⟩, f78_38, f79_38, f80_38, by omega⟩
                                           | exact ⟨m + 1, by dsimp only; omega, ⟨by rw [gs, hqd, show hLp l x j q = _ from (if_neg (by omega)).trans (if_neg (by omega)), List.append_nil]; exact t11, gj11, kj1, kj2', f0_38, f1_38, f2_38, f3_38, f8_38, f9_38, f12_38, f19_38, f20_38, f21_38⟩, f78_38, f79_38, f80_38, by omega⟩)
                                    · first
                                      | (cases hc36; done)
                                      | (exfalso; simp only [decide_eq_true_eq, decide_eq_false_iff_not, Bool.not_eq_true', Bool.not_eq_false', Bool.not_eq_eq_eq_not, Bool.not_true, Bool.not_false] at hc36; omega)
                                      | (skip
                                         try simp only [decide_eq_true_eq, decide_eq_false_iff_not, Bool.not_eq_true', Bool.not_eq_false', Bool.not_eq_eq_eq_not, Bool.not_true, Bool.not_false] at hc36
                                         refine W.skip ?_
                                         refine W.blockN ?_
                                         refine W.blockN ?_
                                         refine W.thenN ?_
                                         refine W.region (fun K hK => ?_)
                                         simp (config := { maxSteps := 10000000 }) only [go_sem, ↓forkQ_true, ↓forkQ_false, ↓guardQ_some, ↓resQ_val, ↓resQ_unit, ↓resQ_enter, ↓retQ_some, ↓resFQ_val, ↓resFQ_unit, ↓resFQ_enter, ↓retFQ_some, Nat.reduceEqDiff, reduceIte, Nat.reduceAdd, Nat.reduceMul, Nat.reduceSub, reduceCtorEq, Nat.reduceLeDiff, f0_35, f1_35, f2_35, f3_35, f8_35, f9_35, f12_35, f18_35, f19_35, f20_35, f21_35, f78_35, f79_35, f80_35, f125_35, hadd, haddm, hirm, hg3, hc3, ha3, hb2', hcs, hbm, hbm', irq, cutq, u12, u15, u12, u15]
                                         refine hK _ _ ?_
                                         clear hK K
                                         refine W.forget (fun e39 he39 => ?_)
                                         have f0_39 := congrArg (fun q => Env.get q 0) he39
                                         simp only [go_sem, Nat.reduceEqDiff, reduceIte, f0_35] at f0_39
                                         have f1_39 := congrArg (fun q => Env.get q 1) he39
                                         simp only [go_sem, Nat.reduceEqDiff, reduceIte, f1_35] at f1_39
                                         have f2_39 := congrArg (fun q => Env.get q 2) he39
                                         simp only [go_sem, Nat.reduceEqDiff, reduceIte, f2_35] at f2_39
                                         have f3_39 := congrArg (fun q => Env.get q 3) he39
                                         simp only [go_sem, Nat.reduceEqDiff, reduceIte, f3_35] at f3_39
                                         have f8_39 := congrArg (fun q => Env.get q 8) he39
                                         simp only [go_sem, Nat.reduceEqDiff, reduceIte, f8_35] at f8_39
                                         have f9_39 := congrArg (fun q => Env.get q 9) he39
                                         simp only [go_sem, Nat.reduceEqDiff, reduceIte, f9_35] at f9_39
                                         have f12_39 := congrArg (fun q => Env.get q 12) he39
                                         simp only [go_sem, Nat.reduceEqDiff, reduceIte, f12_35] at f12_39
                                         have f19_39 := congrArg (fun q => Env.get q 19) he39
                                         simp only [go_sem, Nat.reduceEqDiff, reduceIte, f19_35] at f19_39
                                         have f20_39 := congrArg (fun q => Env.get q 20) he39
                                         simp only [go_sem, Nat.reduceEqDiff, reduceIte, f20_35] at f20_39
                                         have f21_39 := congrArg (fun q => Env.get q 21) he39
                                         simp only [go_sem, Nat.reduceEqDiff, reduceIte, f21_35] at f21_39
                                         have f78_39 := congrArg (fun q => Env.get q 78) he39
                                         simp only [go_sem, Nat.reduceEqDiff, reduceIte, f78_35] at f78_39
                                         have f79_39 := congrArg (fun q => Env.get q 79) he39
                                         simp only [go_sem, Nat.reduceEqDiff, reduceIte, f79_35] at f79_39
                                         have f80_39 := congrArg (fun q => Env.get q 80) he39
                                         simp only [go_sem, Nat.reduceEqDiff, reduceIte, f80_35] at f80_39
                                         clear he39 f0_35 f1_35 f2_35 f3_35 f8_35 f9_35 f12_35 f18_35 f19_35 f20_35 f21_35 f78_35 f79_35 f80_35 f125_35
                                         refine W.thenN ?_
                                         have gs := take_flat ((U.take r).flatMap (hJ l U L x) ++ hO l x j ++ U.flatMap (hUp l x j)) L (hLp l x j) m hltm
                                         first
                                           | exact ⟨m + 1, by dsimp only; omega, ⟨by rw [gs, hqd, show hLp l x j q = _ from if_pos ⟨by omega, by omega⟩]; exact t11.most (by omega) P41, P41.kept (by omega) (by omega) gj11, kj1, Nat.lt_of_lt_of_le kj2' P41.next, f0_39, f1_39, f2_39, f3_39, f8_39, f9_39, f12_39, f19_39, f20_39, f21_39⟩, f78_39, f79_39, f80_39, by omega⟩
                                           | exact ⟨m + 1, by dsimp only; omega, ⟨by rw [gs, hqd, show hLp l x j q = _ from (if_neg (by omega)).trans (if_pos ⟨by omega, by omega⟩)]; exact t11.most (by omega) P41, P41.kept (by omega) (by omega) gj11, kj1, Nat.lt_of_lt_of_le kj2' P41.next, f0_39, f1_39, f2_39, f3_39, f8_39, f9_39, f12_39, f19_39, f20_39, f21_39⟩, f78_39, f79_39, f80_39, by omega⟩
                                           | exact ⟨m + 1, by dsimp only; omega, ⟨by rw [gs, hqd, show hLp l x j q = _ from (if_neg (by omega)).trans (if_neg (by omega)), List.append_nil]; exact t11, gj11, kj1, kj2', f0_39, f1_39, f2_39, f3_39, f8_39, f9_39, f12_39, f19_39, f20_39, f21_39⟩, f78_39, f79_39, f80_39, by omega⟩)))
                      · first
                        | (cases hc28; done)
                        | (exfalso; simp only [decide_eq_true_eq, decide_eq_false_iff_not, Bool.not_eq_true', Bool.not_eq_false', Bool.not_eq_eq_eq_not, Bool.not_true, Bool.not_false] at hc28; omega)
                        | (skip
                           try simp only [decide_eq_true_eq, decide_eq_false_iff_not, Bool.not_eq_true', Bool.not_eq_false', Bool.not_eq_eq_eq_not, Bool.not_true, Bool.not_false] at hc28
                           refine W.exit ?_
                           refine W.thenE ?_
                           refine W.thenE ?_
                           refine W.blockE ?_
                           refine W.blockN ?_
                           refine W.thenN ?_
                           refine W.region (fun K hK => ?_)
                           simp (config := { maxSteps := 10000000 }) only [go_sem, ↓forkQ_true, ↓forkQ_false, ↓guardQ_some, ↓resQ_val, ↓resQ_unit, ↓resQ_enter, ↓retQ_some, ↓resFQ_val, ↓resFQ_unit, ↓resFQ_enter, ↓retFQ_some, Nat.reduceEqDiff, reduceIte, Nat.reduceAdd, Nat.reduceMul, Nat.reduceSub, reduceCtorEq, Nat.reduceLeDiff, f0_27, f1_27, f2_27, f3_27, f8_27, f9_27, f12_27, f19_27, f20_27, f21_27, f78_27, f79_27, f80_27, f81_27, hadd]
                           refine hK _ _ ?_
                           clear hK K
                           refine W.forget (fun e40 he40 => ?_)
                           have f0_40 := congrArg (fun q => Env.get q 0) he40
                           simp only [go_sem, Nat.reduceEqDiff, reduceIte, f0_27] at f0_40
                           have f1_40 := congrArg (fun q => Env.get q 1) he40
                           simp only [go_sem, Nat.reduceEqDiff, reduceIte, f1_27] at f1_40
                           have f2_40 := congrArg (fun q => Env.get q 2) he40
                           simp only [go_sem, Nat.reduceEqDiff, reduceIte, f2_27] at f2_40
                           have f3_40 := congrArg (fun q => Env.get q 3) he40
                           simp only [go_sem, Nat.reduceEqDiff, reduceIte, f3_27] at f3_40
                           have f8_40 := congrArg (fun q => Env.get q 8) he40
                           simp only [go_sem, Nat.reduceEqDiff, reduceIte, f8_27] at f8_40
                           have f9_40 := congrArg (fun q => Env.get q 9) he40
                           simp only [go_sem, Nat.reduceEqDiff, reduceIte, f9_27] at f9_40
                           have f19_40 := congrArg (fun q => Env.get q 19) he40
                           simp only [go_sem, Nat.reduceEqDiff, reduceIte, f19_27] at f19_40
                           have f20_40 := congrArg (fun q => Env.get q 20) he40
                           simp only [go_sem, Nat.reduceEqDiff, reduceIte, f20_27] at f20_40
                           have f21_40 := congrArg (fun q => Env.get q 21) he40
                           simp only [go_sem, Nat.reduceEqDiff, reduceIte, f21_27] at f21_40
                           clear he40 f0_27 f1_27 f2_27 f3_27 f8_27 f9_27 f12_27 f19_27 f20_27 f21_27 f78_27 f79_27 f80_27 f81_27
                           refine W.thenN ?_
                           obtain rfl : m = L.length := by omega
                           have tt := hn.t
                           rw [List.take_length] at tt
                           have gs := take_flat [] U (hJ l U L x) r hlt
                           rw [List.nil_append, List.nil_append] at gs
                           exact ⟨r + 1, by dsimp only; omega, by rw [gs, hjd]; unfold hJ at tt ⊢; simpa only [List.append_assoc] using tt, f0_40, f1_40, f2_40, f3_40, f8_40, f9_40, f19_40, f20_40, f21_40, by omega⟩)
                    · obtain rfl : m = U.length := by omega
                      have tm := hm.t
                      rw [List.take_length] at tm
                      exact ⟨⟨by rw [List.take_zero, List.flatMap_nil, List.append_nil]; exact tm, hm.gj, hm.kj1, hm.kj2, f0_25, f1_25, f2_25, f3_25, f8_25, f9_25, f12_25, f19_25, f20_25, f21_25⟩, f78_25, f79_25, f80_25, Nat.zero_le _⟩)
             · exact ⟨⟨by rw [List.take_zero, List.flatMap_nil, List.append_nil]; exact hj.t, hj.gj, hj.kj1, hj.kj2, f0_14, f1_14, f2_14, f3_14, f8_14, f9_14, f12_14, f19_14, f20_14, f21_14⟩, by rw [f36_14, ha1], f37_14, f38_14, Nat.zero_le _⟩)
      · first
        | (cases hc7; done)
        | (exfalso; simp only [decide_eq_true_eq, decide_eq_false_iff_not, Bool.not_eq_true', Bool.not_eq_false', Bool.not_eq_eq_eq_not, Bool.not_true, Bool.not_false] at hc7; omega)
        | (skip
           try simp only [decide_eq_true_eq, decide_eq_false_iff_not, Bool.not_eq_true', Bool.not_eq_false', Bool.not_eq_eq_eq_not, Bool.not_true, Bool.not_false] at hc7
           refine W.exit ?_
           refine W.thenE ?_
           refine W.thenE ?_
           refine W.blockE ?_
           refine W.thenN ?_
           refine W.seq ?_
           refine W.region (fun K hK => ?_)
           obtain rfl : r = U.length := by omega
           have g := hi.t.g
           have z8 := hi.t.z8
           rw [List.take_length] at g
           simp (config := { maxSteps := 10000000 }) only [go_sem, ↓forkQ_true, ↓forkQ_false, ↓guardQ_some, ↓resQ_val, ↓resQ_unit, ↓resQ_enter, ↓retQ_some, ↓resFQ_val, ↓resFQ_unit, ↓resFQ_enter, ↓retFQ_some, Nat.reduceEqDiff, reduceIte, Nat.reduceAdd, Nat.reduceMul, Nat.reduceSub, reduceCtorEq, Nat.reduceLeDiff, f0_6, f1_6, f2_6, f3_6, f8_6, f9_6, f19_6, f20_6, f21_6, f22_6, g, z8, bcells]
           refine hK _ _ ?_
           clear hK K
           refine W.forget (fun e41 he41 => ?_)
           have f8_41 := congrArg (fun q => Env.get q 8) he41
           simp only [go_sem, Nat.reduceEqDiff, reduceIte, f8_6] at f8_41
           clear he41 f0_6 f1_6 f2_6 f3_6 f8_6 f9_6 f19_6 f20_6 f21_6 f22_6
           refine W.thenN ?_
           refine W.ret ?_
           rw [flatQ_ret]
           refine ⟨by simp only [go_sem, ↓forkQ_true, ↓forkQ_false, ↓guardQ_some, ↓resQ_val, ↓resQ_unit, ↓resQ_enter, ↓retQ_some, ↓resFQ_val, ↓resFQ_unit, ↓resFQ_enter, ↓retFQ_some, Nat.reduceEqDiff, reduceIte, Nat.reduceAdd, Nat.reduceMul, Nat.reduceSub, reduceCtorEq, Nat.reduceLeDiff, ex.wr], ?_⟩
           simp only [go_sem, ↓forkQ_true, ↓forkQ_false, ↓guardQ_some, ↓resQ_val, ↓resQ_unit, ↓resQ_enter, ↓retQ_some, ↓resFQ_val, ↓resFQ_unit, ↓resFQ_enter, ↓retFQ_some, Nat.reduceEqDiff, reduceIte, Nat.reduceAdd, Nat.reduceMul, Nat.reduceSub, reduceCtorEq, Nat.reduceLeDiff, f8_41, g, z8, bcells]
           rfl)
    · exact ⟨⟨((Ext.low h).alloc _).alloc _, Nat.le_refl _, by rw [Heap.get_alloc_ne _ _ (by show h.next ≠ h.next + 1; omega)]; exact Heap.get_alloc_same _ _, Heap.get_alloc_same _ _, fun h => (by cases h)⟩, f0_4, f1_4, f2_4, f3_4, f8_4, f9_4, f19_4, f20_4, f21_4, Nat.zero_le _⟩
  · rfl
end Go.Proofs.Ytlblocieleildaa
