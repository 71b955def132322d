/- What slopes gives. -/
import Derived.Test.YtlblocieleildaaSk13
set_option linter.unusedSimpArgs false
set_option linter.unusedVariables false
set_option maxRecDepth 20000
set_option maxHeartbeats 8000000
namespace Go.Proofs.Ytlblocieleildaa
open Go.Am

def natl (U : List Nat) : List Int := U.map (fun k : Nat => (k : Int))
theorem natl_len (U : List Nat) : (natl U).length = U.length := List.length_map _
theorem nat_natl (U : List Nat) (m : Nat) (hm : m < U.length) : nat (natl U) m = ((U.getD m 0 : Nat) : Int) := by
  unfold nat natl
  rw [List.getD_eq_getElem?_getD, List.getD_eq_getElem?_getD, List.getElem?_map, List.getElem?_eq_getElem hm]
  rfl
theorem getD_mem {U : List Nat} {m : Nat} (hm : m < U.length) : U.getD m 0 ∈ U := by
  rw [List.getD_eq_getElem?_getD, List.getElem?_eq_getElem hm]
  exact List.getElem_mem hm
theorem take_flat {α : Type} (A : List α) (U : List Nat) (f : Nat → List α) (m : Nat) (hm : m < U.length) : A ++ (U.take (m + 1)).flatMap f = (A ++ (U.take m).flatMap f) ++ f (U.getD m 0) := by
  rw [List.take_add_one, List.getElem?_eq_getElem hm, List.getD_eq_getElem?_getD, List.getElem?_eq_getElem hm]
  simp only [List.flatMap_append, Option.toList_some, List.flatMap_cons, List.flatMap_nil, List.append_nil, Option.getD_some, List.append_assoc]
/-- the pairs of two gates that bound from above, from below -/
def gP (l : List Gt) (i j : Nat) : List (Int × Int) := if (gt l i).x < (gt l j).x then [((gt l j).hi - (gt l i).lo, (gt l j).x - (gt l i).x)] else []
def lP (l : List Gt) (i j : Nat) : List (Int × Int) := if (gt l j).x < (gt l i).x then [((gt l i).lo - (gt l j).hi, (gt l i).x - (gt l j).x)] else []
def bd0 : Bd := ⟨false, 0, 0⟩
def gF (ps : List (Int × Int)) : Bd := ps.foldl (fun b p => atMostZ b p.1 p.2) bd0
def lF (ps : List (Int × Int)) : Bd := ps.foldl (fun b p => atLeastZ b p.1 p.2) bd0
theorem gF_one (ps : List (Int × Int)) (n d : Int) : gF (ps ++ [(n, d)]) = atMostZ (gF ps) n d := by unfold gF; rw [List.foldl_append]; rfl
theorem lF_one (ps : List (Int × Int)) (n d : Int) : lF (ps ++ [(n, d)]) = atLeastZ (lF ps) n d := by unfold lF; rw [List.foldl_append]; rfl
def gAll (l : List Gt) (U L : List Nat) : List (Int × Int) := L.flatMap fun i => U.flatMap (gP l i)
def lAll (l : List Gt) (U L : List Nat) : List (Int × Int) := L.flatMap fun i => U.flatMap (lP l i)
theorem atMostZ_ne {b : Bd} {n d : Int} (hb : b.s = true → b.d ≠ 0) (hd : 0 < d) : (atMostZ b n d).s = true → (atMostZ b n d).d ≠ 0 := by
  unfold atMostZ
  split
  · intro _; exact quoD_ne hd
  · exact hb
theorem atLeastZ_ne {b : Bd} {n d : Int} (hb : b.s = true → b.d ≠ 0) (hd : 0 < d) : (atLeastZ b n d).s = true → (atLeastZ b n d).d ≠ 0 := by
  unfold atLeastZ
  split
  · intro _; exact quoD_ne hd
  · exact hb
theorem Ext.put {h h1 h2 : Heap} {kb : Nat} {cs : List Value} (ex : Ext h h1) (p : Put h1 h2 kb cs) (hk : h.next ≤ kb) : Ext h h2 :=
  ⟨Nat.le_trans ex.next p.next, fun b hb => (p.get b (Nat.lt_of_lt_of_le hb ex.next) (by omega)).trans (ex.get b hb), p.wr.trans ex.wr⟩
/-- the two bounds in their blocks -/
structure Two (h h1 : Heap) (ps qs : List (Int × Int)) : Prop where
  ex : Ext h h1
  nx : h.next + 1 + 1 ≤ h1.next
  gl : h1.get h.next = some ⟨bcells (lF ps), true, false, none⟩
  gg : h1.get (h.next + 1) = some ⟨bcells (gF qs), true, false, none⟩
  dl : (lF ps).s = true → (lF ps).d ≠ 0
  dg : (gF qs).s = true → (gF qs).d ≠ 0
theorem Two.grow {h h1 h2 : Heap} {ps qs : List (Int × Int)} (t : Two h h1 ps qs) (ex : Ext h h2) (hn : h1.next ≤ h2.next) (hg : ∀ b, b < h1.next → h2.get b = h1.get b) : Two h h2 ps qs :=
  have := t.nx
  ⟨ex, Nat.le_trans t.nx hn, (hg _ (by omega)).trans t.gl, (hg _ (by omega)).trans t.gg, t.dl, t.dg⟩
theorem Two.most {h h1 h2 : Heap} {ps qs : List (Int × Int)} {n d : Int} (t : Two h h1 ps qs) (hd : 0 < d) (p : Put h1 h2 (h.next + 1) (bcells (atMostZ (gF qs) n d))) : Two h h2 ps (qs ++ [(n, d)]) :=
  have := t.nx
  ⟨Ext.put t.ex p (by omega), Nat.le_trans t.nx p.next, (p.get _ (by omega) (by omega)).trans t.gl, by rw [gF_one]; exact p.at_, t.dl, by rw [gF_one]; exact atMostZ_ne t.dg hd⟩
theorem Two.least {h h1 h2 : Heap} {ps qs : List (Int × Int)} {n d : Int} (t : Two h h1 ps qs) (hd : 0 < d) (p : Put h1 h2 h.next (bcells (atLeastZ (lF ps) n d))) : Two h h2 (ps ++ [(n, d)]) qs :=
  have := t.nx
  ⟨Ext.put t.ex p (by omega), Nat.le_trans t.nx p.next, by rw [lF_one]; exact p.at_, (p.get _ (by omega) (by omega)).trans t.gg, by rw [lF_one]; exact atLeastZ_ne t.dl hd, t.dg⟩
structure I28 (l : List Gt) (U L : List Nat) (a a1 a2 : Option Addr) (c c1 c2 : Nat) (h : Heap) (k : Nat) (e : Env) (h1 : Heap) : Prop where
  t : Two h h1 (lAll l U (L.take k)) (gAll l U (L.take k))
  e0 : e.get 0 = .slice a l.length c
  e1 : e.get 1 = .slice a1 U.length c1
  e6 : e.get 6 = .pointer (some ⟨h.next, 0, none⟩)
  e7 : e.get 7 = .pointer (some ⟨h.next + 1, 0, none⟩)
  e14 : e.get 14 = .slice a2 L.length c2
  e15 : e.get 15 = .int .i64 (L.length : Int)
  e16 : e.get 16 = .int .i64 (k : Int)
  le : k ≤ L.length
structure J28 (l : List Gt) (U L : List Nat) (a a1 a2 : Option Addr) (c c1 c2 : Nat) (h : Heap) (k : Nat) (m : Nat) (e : Env) (h1 : Heap) : Prop where
  t : Two h h1 (lAll l U (L.take k) ++ (U.take m).flatMap (lP l (L.getD k 0))) (gAll l U (L.take k) ++ (U.take m).flatMap (gP l (L.getD k 0)))
  e0 : e.get 0 = .slice a l.length c
  e1 : e.get 1 = .slice a1 U.length c1
  e6 : e.get 6 = .pointer (some ⟨h.next, 0, none⟩)
  e7 : e.get 7 = .pointer (some ⟨h.next + 1, 0, none⟩)
  e9 : e.get 9 = .int .i64 ((L.getD k 0 : Nat) : Int)
  e14 : e.get 14 = .slice a2 L.length c2
  e15 : e.get 15 = .int .i64 (L.length : Int)
  e16 : e.get 16 = .int .i64 (k : Int)
  e20 : e.get 20 = .slice a1 U.length c1
  e21 : e.get 21 = .int .i64 (U.length : Int)
  e22 : e.get 22 = .int .i64 (m : Int)
  le : m ≤ U.length
theorem c28 (l : List Gt) (U L : List Nat) (a a1 a2 : Option Addr) (c c1 c2 : Nat) (h : Heap) (hg : GA h l a) (hIU : IA h (natl U) a1) (hIL : IA h (natl L) a2) (o : Ok l) (hl : l.length ≤ 24) (hU : ∀ k, k ∈ U → k < l.length) (hL : ∀ k, k ∈ L → k < l.length) (hUl : U.length ≤ 24) (hLl : L.length ≤ 24) :
    callW Try.prog SkH 28 [.slice a l.length c, .slice a1 U.length c1, .slice a2 L.length c2] h = some (.tuple #[.agg #[.bool (lF (lAll l U L)).s, .int .i64 (lF (lAll l U L)).n, .int .i64 (lF (lAll l U L)).d], .agg #[.bool (gF (gAll l U L)).s, .int .i64 (gF (gAll l U L)).n, .int .i64 (gF (gAll l U L)).d]], h, true) := by
  refine call_flat (rs := [.cell 6 47, .cell 7 47]) [_, _] Try.func28 rfl rfl ?_ ?_
  rotate_left
  · skip
    refine W.forget (fun e1 he1 => ?_)
    have f0_1 := congrArg (fun q => Env.get q 0) he1
    simp only [ofList_cons, ofList_nil, Env.put_some, Env.put_none, Env.get_set, Env.get_set, Nat.reduceEqDiff, reduceIte, if_true, if_false, eq_self] at f0_1
    have f1_1 := congrArg (fun q => Env.get q 1) he1
    simp only [ofList_cons, ofList_nil, Env.put_some, Env.put_none, Env.get_set, Env.get_set, Nat.reduceEqDiff, reduceIte, if_true, if_false, eq_self] at f1_1
    have f2_1 := congrArg (fun q => Env.get q 2) he1
    simp only [ofList_cons, ofList_nil, Env.put_some, Env.put_none, Env.get_set, Env.get_set, Nat.reduceEqDiff, reduceIte, if_true, if_false, eq_self] at f2_1
    clear he1
    refine W.seq ?_
    refine W.region (fun K hK => ?_)
    simp (config := { maxSteps := 10000000 }) only [go_sem, ↓forkQ_true, ↓forkQ_false, ↓guardQ_some, ↓resQ_val, ↓resQ_unit, ↓resQ_enter, ↓retQ_some, ↓resFQ_val, ↓resFQ_unit, ↓resFQ_enter, ↓retFQ_some, Nat.reduceEqDiff, reduceIte, Nat.reduceAdd, Nat.reduceMul, Nat.reduceSub, reduceCtorEq, Nat.reduceLeDiff, f0_1, f1_1, f2_1]
    refine hK _ _ ?_
    clear hK K
    refine W.forget (fun e2 he2 => ?_)
    have f0_2 := congrArg (fun q => Env.get q 0) he2
    simp only [Env.put_some, Env.put_none, Env.get_set, Env.get_set, Nat.reduceEqDiff, reduceIte, if_true, if_false, eq_self, f0_1] at f0_2
    have f1_2 := congrArg (fun q => Env.get q 1) he2
    simp only [Env.put_some, Env.put_none, Env.get_set, Env.get_set, Nat.reduceEqDiff, reduceIte, if_true, if_false, eq_self, f1_1] at f1_2
    have f2_2 := congrArg (fun q => Env.get q 2) he2
    simp only [Env.put_some, Env.put_none, Env.get_set, Env.get_set, Nat.reduceEqDiff, reduceIte, if_true, if_false, eq_self, f2_1] at f2_2
    have f6_2 := congrArg (fun q => Env.get q 6) he2
    simp only [Env.put_some, Env.put_none, Env.get_set, Env.get_set, Nat.reduceEqDiff, reduceIte, if_true, if_false, eq_self] at f6_2
    have f7_2 := congrArg (fun q => Env.get q 7) he2
    simp only [Env.put_some, Env.put_none, Env.get_set, Env.get_set, Nat.reduceEqDiff, reduceIte, if_true, if_false, eq_self] at f7_2
    clear he2 f0_1 f1_1 f2_1
    refine W.thenN ?_
    refine W.seq ?_
    refine W.seq ?_
    refine W.region (fun K hK => ?_)
    simp (config := { maxSteps := 10000000 }) only [go_sem, ↓forkQ_true, ↓forkQ_false, ↓guardQ_some, ↓resQ_val, ↓resQ_unit, ↓resQ_enter, ↓retQ_some, ↓resFQ_val, ↓resFQ_unit, ↓resFQ_enter, ↓retFQ_some, Nat.reduceEqDiff, reduceIte, Nat.reduceAdd, Nat.reduceMul, Nat.reduceSub, reduceCtorEq, Nat.reduceLeDiff, f0_2, f1_2, f2_2, f6_2, f7_2]
    refine hK _ _ ?_
    clear hK K
    refine W.forget (fun e3 he3 => ?_)
    have f0_3 := congrArg (fun q => Env.get q 0) he3
    simp only [Env.put_some, Env.put_none, Env.get_set, Env.get_set, Nat.reduceEqDiff, reduceIte, if_true, if_false, eq_self, f0_2] at f0_3
    have f1_3 := congrArg (fun q => Env.get q 1) he3
    simp only [Env.put_some, Env.put_none, Env.get_set, Env.get_set, Nat.reduceEqDiff, reduceIte, if_true, if_false, eq_self, f1_2] at f1_3
    have f6_3 := congrArg (fun q => Env.get q 6) he3
    simp only [Env.put_some, Env.put_none, Env.get_set, Env.get_set, Nat.reduceEqDiff, reduceIte, if_true, if_false, eq_self, f6_2] at f6_3
    have f7_3 := congrArg (fun q => Env.get q 7) he3
    simp only [Env.put_some, Env.put_none, Env.get_set, Env.get_set, Nat.reduceEqDiff, reduceIte, if_true, if_false, eq_self, f7_2] at f7_3
    have f14_3 := congrArg (fun q => Env.get q 14) he3
    simp only [Env.put_some, Env.put_none, Env.get_set, Env.get_set, Nat.reduceEqDiff, reduceIte, if_true, if_false, eq_self] at f14_3
    have f15_3 := congrArg (fun q => Env.get q 15) he3
    simp only [Env.put_some, Env.put_none, Env.get_set, Env.get_set, Nat.reduceEqDiff, reduceIte, if_true, if_false, eq_self] at f15_3
    have f16_3 := congrArg (fun q => Env.get q 16) he3
    simp only [Env.put_some, Env.put_none, Env.get_set, Env.get_set, Nat.reduceEqDiff, reduceIte, if_true, if_false, eq_self] at f16_3
    clear he3 f0_2 f1_2 f2_2 f6_2 f7_2
    refine W.thenN ?_
    refine W.block ?_
    refine wq_rounds (fun k => L.length - k) (I28 l U L a a1 a2 c c1 c2 h) ?_ 0 _ _ ?_
    · intro k e4 k1 hi
      have f0_4 := hi.e0
      have f1_4 := hi.e1
      have f6_4 := hi.e6
      have f7_4 := hi.e7
      have f14_4 := hi.e14
      have f15_4 := hi.e15
      have f16_4 := hi.e16
      have ex := hi.t.ex
      have hle := hi.le
      have hadd : wrapF .i64 ((k : Int) + 1) = ((k + 1 : Nat) : Int) := by rw [w64_in _ (by omega)]; omega
      refine W.seq ?_
      refine W.region (fun K hK => ?_)
      simp (config := { maxSteps := 10000000 }) only [go_sem, ↓forkQ_true, ↓forkQ_false, ↓guardQ_some, ↓resQ_val, ↓resQ_unit, ↓resQ_enter, ↓retQ_some, ↓resFQ_val, ↓resFQ_unit, ↓resFQ_enter, ↓retFQ_some, Nat.reduceEqDiff, reduceIte, Nat.reduceAdd, Nat.reduceMul, Nat.reduceSub, reduceCtorEq, Nat.reduceLeDiff, f0_4, f1_4, f6_4, f7_4, f14_4, f15_4, f16_4, hadd]
      refine hK _ _ ?_
      clear hK K
      refine W.forget (fun e5 he5 => ?_)
      have f0_5 := congrArg (fun q => Env.get q 0) he5
      simp only [Env.put_some, Env.put_none, Env.get_set, Env.get_set, Nat.reduceEqDiff, reduceIte, if_true, if_false, eq_self, f0_4] at f0_5
      have f1_5 := congrArg (fun q => Env.get q 1) he5
      simp only [Env.put_some, Env.put_none, Env.get_set, Env.get_set, Nat.reduceEqDiff, reduceIte, if_true, if_false, eq_self, f1_4] at f1_5
      have f6_5 := congrArg (fun q => Env.get q 6) he5
      simp only [Env.put_some, Env.put_none, Env.get_set, Env.get_set, Nat.reduceEqDiff, reduceIte, if_true, if_false, eq_self, f6_4] at f6_5
      have f7_5 := congrArg (fun q => Env.get q 7) he5
      simp only [Env.put_some, Env.put_none, Env.get_set, Env.get_set, Nat.reduceEqDiff, reduceIte, if_true, if_false, eq_self, f7_4] at f7_5
      have f14_5 := congrArg (fun q => Env.get q 14) he5
      simp only [Env.put_some, Env.put_none, Env.get_set, Env.get_set, Nat.reduceEqDiff, reduceIte, if_true, if_false, eq_self, f14_4] at f14_5
      have f15_5 := congrArg (fun q => Env.get q 15) he5
      simp only [Env.put_some, Env.put_none, Env.get_set, Env.get_set, Nat.reduceEqDiff, reduceIte, if_true, if_false, eq_self, f15_4] at f15_5
      have f16_5 := congrArg (fun q => Env.get q 16) he5
      simp only [Env.put_some, Env.put_none, Env.get_set, Env.get_set, Nat.reduceEqDiff, reduceIte, if_true, if_false, eq_self, f16_4] at f16_5
      have f17_5 := congrArg (fun q => Env.get q 17) he5
      simp only [Env.put_some, Env.put_none, Env.get_set, Env.get_set, Nat.reduceEqDiff, reduceIte, if_true, if_false, eq_self] at f17_5
      clear he5 f0_4 f1_4 f6_4 f7_4 f14_4 f15_4 f16_4
      refine W.thenN ?_
      refine W.seq ?_
      refine W.cond f17_5 (fun hc6 => ?_) (fun hc6 => ?_)
      · first
        | (cases hc6; done)
        | (exfalso; simp only [decide_eq_true_eq, decide_eq_false_iff_not, Bool.not_eq_true', Bool.not_eq_false', Bool.not_eq_eq_eq_not, Bool.not_true, Bool.not_false] at hc6; omega)
        | (skip
           try simp only [decide_eq_true_eq, decide_eq_false_iff_not, Bool.not_eq_true', Bool.not_eq_false', Bool.not_eq_eq_eq_not, Bool.not_true, Bool.not_false] at hc6
           refine W.skip ?_
           refine W.thenN ?_
           refine W.seq ?_
           refine W.block ?_
           refine W.seq ?_
           refine W.region (fun K hK => ?_)
           have hlt : k < L.length := by omega
           have hirk := inRange_nat hlt
           obtain ⟨b2, blk2, rfl, hb2, hc2, hbl2⟩ := hIL.at (i := k) (by rw [natl_len]; exact hlt)
           rw [nat_natl L k hlt] at hc2
           have hg2 := (ex.get b2 hbl2).trans hb2
           have hin := hL _ (getD_mem hlt)
           simp (config := { maxSteps := 10000000 }) only [go_sem, ↓forkQ_true, ↓forkQ_false, ↓guardQ_some, ↓resQ_val, ↓resQ_unit, ↓resQ_enter, ↓retQ_some, ↓resFQ_val, ↓resFQ_unit, ↓resFQ_enter, ↓retFQ_some, Nat.reduceEqDiff, reduceIte, Nat.reduceAdd, Nat.reduceMul, Nat.reduceSub, reduceCtorEq, Nat.reduceLeDiff, f0_5, f1_5, f6_5, f7_5, f14_5, f15_5, f16_5, f17_5, hadd, hirk, hg2, hc2]
           refine hK _ _ ?_
           clear hK K
           refine W.forget (fun e7 he7 => ?_)
           have f0_7 := congrArg (fun q => Env.get q 0) he7
           simp only [Env.put_some, Env.put_none, Env.get_set, Env.get_set, Nat.reduceEqDiff, reduceIte, if_true, if_false, eq_self, f0_5] at f0_7
           have f1_7 := congrArg (fun q => Env.get q 1) he7
           simp only [Env.put_some, Env.put_none, Env.get_set, Env.get_set, Nat.reduceEqDiff, reduceIte, if_true, if_false, eq_self, f1_5] at f1_7
           have f6_7 := congrArg (fun q => Env.get q 6) he7
           simp only [Env.put_some, Env.put_none, Env.get_set, Env.get_set, Nat.reduceEqDiff, reduceIte, if_true, if_false, eq_self, f6_5] at f6_7
           have f7_7 := congrArg (fun q => Env.get q 7) he7
           simp only [Env.put_some, Env.put_none, Env.get_set, Env.get_set, Nat.reduceEqDiff, reduceIte, if_true, if_false, eq_self, f7_5] at f7_7
           have f9_7 := congrArg (fun q => Env.get q 9) he7
           simp only [Env.put_some, Env.put_none, Env.get_set, Env.get_set, Nat.reduceEqDiff, reduceIte, if_true, if_false, eq_self] at f9_7
           have f14_7 := congrArg (fun q => Env.get q 14) he7
           simp only [Env.put_some, Env.put_none, Env.get_set, Env.get_set, Nat.reduceEqDiff, reduceIte, if_true, if_false, eq_self, f14_5] at f14_7
           have f15_7 := congrArg (fun q => Env.get q 15) he7
           simp only [Env.put_some, Env.put_none, Env.get_set, Env.get_set, Nat.reduceEqDiff, reduceIte, if_true, if_false, eq_self, f15_5] at f15_7
           have f16_7 := congrArg (fun q => Env.get q 16) he7
           simp only [Env.put_some, Env.put_none, Env.get_set, Env.get_set, Nat.reduceEqDiff, reduceIte, if_true, if_false, eq_self, f16_5] at f16_7
           clear he7 f0_5 f1_5 f6_5 f7_5 f14_5 f15_5 f16_5 f17_5
           refine W.thenN ?_
           refine W.seq ?_
           refine W.region (fun K hK => ?_)
           simp (config := { maxSteps := 10000000 }) only [go_sem, ↓forkQ_true, ↓forkQ_false, ↓guardQ_some, ↓resQ_val, ↓resQ_unit, ↓resQ_enter, ↓retQ_some, ↓resFQ_val, ↓resFQ_unit, ↓resFQ_enter, ↓retFQ_some, Nat.reduceEqDiff, reduceIte, Nat.reduceAdd, Nat.reduceMul, Nat.reduceSub, reduceCtorEq, Nat.reduceLeDiff, f0_7, f1_7, f6_7, f7_7, f9_7, f14_7, f15_7, f16_7, hadd, hirk, hg2, hc2]
           refine hK _ _ ?_
           clear hK K
           refine W.forget (fun e8 he8 => ?_)
           have f0_8 := congrArg (fun q => Env.get q 0) he8
           simp only [Env.put_some, Env.put_none, Env.get_set, Env.get_set, Nat.reduceEqDiff, reduceIte, if_true, if_false, eq_self, f0_7] at f0_8
           have f1_8 := congrArg (fun q => Env.get q 1) he8
           simp only [Env.put_some, Env.put_none, Env.get_set, Env.get_set, Nat.reduceEqDiff, reduceIte, if_true, if_false, eq_self, f1_7] at f1_8
           have f6_8 := congrArg (fun q => Env.get q 6) he8
           simp only [Env.put_some, Env.put_none, Env.get_set, Env.get_set, Nat.reduceEqDiff, reduceIte, if_true, if_false, eq_self, f6_7] at f6_8
           have f7_8 := congrArg (fun q => Env.get q 7) he8
           simp only [Env.put_some, Env.put_none, Env.get_set, Env.get_set, Nat.reduceEqDiff, reduceIte, if_true, if_false, eq_self, f7_7] at f7_8
           have f9_8 := congrArg (fun q => Env.get q 9) he8
           simp only [Env.put_some, Env.put_none, Env.get_set, Env.get_set, Nat.reduceEqDiff, reduceIte, if_true, if_false, eq_self, f9_7] at f9_8
           have f14_8 := congrArg (fun q => Env.get q 14) he8
           simp only [Env.put_some, Env.put_none, Env.get_set, Env.get_set, Nat.reduceEqDiff, reduceIte, if_true, if_false, eq_self, f14_7] at f14_8
           have f15_8 := congrArg (fun q => Env.get q 15) he8
           simp only [Env.put_some, Env.put_none, Env.get_set, Env.get_set, Nat.reduceEqDiff, reduceIte, if_true, if_false, eq_self, f15_7] at f15_8
           have f16_8 := congrArg (fun q => Env.get q 16) he8
           simp only [Env.put_some, Env.put_none, Env.get_set, Env.get_set, Nat.reduceEqDiff, reduceIte, if_true, if_false, eq_self, f16_7] at f16_8
           have f20_8 := congrArg (fun q => Env.get q 20) he8
           simp only [Env.put_some, Env.put_none, Env.get_set, Env.get_set, Nat.reduceEqDiff, reduceIte, if_true, if_false, eq_self] at f20_8
           have f21_8 := congrArg (fun q => Env.get q 21) he8
           simp only [Env.put_some, Env.put_none, Env.get_set, Env.get_set, Nat.reduceEqDiff, reduceIte, if_true, if_false, eq_self] at f21_8
           have f22_8 := congrArg (fun q => Env.get q 22) he8
           simp only [Env.put_some, Env.put_none, Env.get_set, Env.get_set, Nat.reduceEqDiff, reduceIte, if_true, if_false, eq_self] at f22_8
           clear he8 f0_7 f1_7 f6_7 f7_7 f9_7 f14_7 f15_7 f16_7
           refine W.thenN ?_
           refine W.block ?_
           refine wq_rounds (fun m => U.length - m) (J28 l U L a a1 (some ⟨b2, 0, none⟩) c c1 c2 h k) ?_ 0 _ _ ?_
           · intro m e9 k2 hj
             have f0_9 := hj.e0
             have f1_9 := hj.e1
             have f6_9 := hj.e6
             have f7_9 := hj.e7
             have f9_9 := hj.e9
             have f14_9 := hj.e14
             have f15_9 := hj.e15
             have f16_9 := hj.e16
             have f20_9 := hj.e20
             have f21_9 := hj.e21
             have f22_9 := hj.e22
             have exj := hj.t.ex
             have hlej := hj.le
             have haddj : wrapF .i64 ((m : Int) + 1) = ((m + 1 : Nat) : Int) := by rw [w64_in _ (by omega)]; omega
             refine W.seq ?_
             refine W.region (fun K hK => ?_)
             simp (config := { maxSteps := 10000000 }) only [go_sem, ↓forkQ_true, ↓forkQ_false, ↓guardQ_some, ↓resQ_val, ↓resQ_unit, ↓resQ_enter, ↓retQ_some, ↓resFQ_val, ↓resFQ_unit, ↓resFQ_enter, ↓retFQ_some, Nat.reduceEqDiff, reduceIte, Nat.reduceAdd, Nat.reduceMul, Nat.reduceSub, reduceCtorEq, Nat.reduceLeDiff, f0_9, f1_9, f6_9, f7_9, f9_9, f14_9, f15_9, f16_9, f20_9, f21_9, f22_9, hadd, haddj]
             refine hK _ _ ?_
             clear hK K
             refine W.forget (fun e10 he10 => ?_)
             have f0_10 := congrArg (fun q => Env.get q 0) he10
             simp only [Env.put_some, Env.put_none, Env.get_set, Env.get_set, Nat.reduceEqDiff, reduceIte, if_true, if_false, eq_self, f0_9] at f0_10
             have f1_10 := congrArg (fun q => Env.get q 1) he10
             simp only [Env.put_some, Env.put_none, Env.get_set, Env.get_set, Nat.reduceEqDiff, reduceIte, if_true, if_false, eq_self, f1_9] at f1_10
             have f6_10 := congrArg (fun q => Env.get q 6) he10
             simp only [Env.put_some, Env.put_none, Env.get_set, Env.get_set, Nat.reduceEqDiff, reduceIte, if_true, if_false, eq_self, f6_9] at f6_10
             have f7_10 := congrArg (fun q => Env.get q 7) he10
             simp only [Env.put_some, Env.put_none, Env.get_set, Env.get_set, Nat.reduceEqDiff, reduceIte, if_true, if_false, eq_self, f7_9] at f7_10
             have f9_10 := congrArg (fun q => Env.get q 9) he10
             simp only [Env.put_some, Env.put_none, Env.get_set, Env.get_set, Nat.reduceEqDiff, reduceIte, if_true, if_false, eq_self, f9_9] at f9_10
             have f14_10 := congrArg (fun q => Env.get q 14) he10
             simp only [Env.put_some, Env.put_none, Env.get_set, Env.get_set, Nat.reduceEqDiff, reduceIte, if_true, if_false, eq_self, f14_9] at f14_10
             have f15_10 := congrArg (fun q => Env.get q 15) he10
             simp only [Env.put_some, Env.put_none, Env.get_set, Env.get_set, Nat.reduceEqDiff, reduceIte, if_true, if_false, eq_self, f15_9] at f15_10
             have f16_10 := congrArg (fun q => Env.get q 16) he10
             simp only [Env.put_some, Env.put_none, Env.get_set, Env.get_set, Nat.reduceEqDiff, reduceIte, if_true, if_false, eq_self, f16_9] at f16_10
             have f20_10 := congrArg (fun q => Env.get q 20) he10
             simp only [Env.put_some, Env.put_none, Env.get_set, Env.get_set, Nat.reduceEqDiff, reduceIte, if_true, if_false, eq_self, f20_9] at f20_10
             have f21_10 := congrArg (fun q => Env.get q 21) he10
             simp only [Env.put_some, Env.put_none, Env.get_set, Env.get_set, Nat.reduceEqDiff, reduceIte, if_true, if_false, eq_self, f21_9] at f21_10
             have f22_10 := congrArg (fun q => Env.get q 22) he10
             simp only [Env.put_some, Env.put_none, Env.get_set, Env.get_set, Nat.reduceEqDiff, reduceIte, if_true, if_false, eq_self, f22_9] at f22_10
             have f23_10 := congrArg (fun q => Env.get q 23) he10
             simp only [Env.put_some, Env.put_none, Env.get_set, Env.get_set, Nat.reduceEqDiff, reduceIte, if_true, if_false, eq_self] at f23_10
             clear he10 f0_9 f1_9 f6_9 f7_9 f9_9 f14_9 f15_9 f16_9 f20_9 f21_9 f22_9
             refine W.thenN ?_
             refine W.seq ?_
             refine W.cond f23_10 (fun hc11 => ?_) (fun hc11 => ?_)
             · first
               | (cases hc11; done)
               | (exfalso; simp only [decide_eq_true_eq, decide_eq_false_iff_not, Bool.not_eq_true', Bool.not_eq_false', Bool.not_eq_eq_eq_not, Bool.not_true, Bool.not_false] at hc11; omega)
               | (skip
                  try simp only [decide_eq_true_eq, decide_eq_false_iff_not, Bool.not_eq_true', Bool.not_eq_false', Bool.not_eq_eq_eq_not, Bool.not_true, Bool.not_false] at hc11
                  refine W.skip ?_
                  refine W.thenN ?_
                  refine W.seq ?_
                  refine W.block ?_
                  refine W.seq ?_
                  refine W.region (fun K hK => ?_)
                  have hltm : m < U.length := by omega
                  have hirm := inRange_nat hltm
                  obtain ⟨b1, blk1, ha1, hb1, hc1, hbl1⟩ := hIU.at (i := m) (by rw [natl_len]; exact hltm)
                  rw [nat_natl U m hltm] at hc1
                  have hg1 := (exj.get b1 hbl1).trans hb1
                  have hjn := hU _ (getD_mem hltm)
                  simp (config := { maxSteps := 10000000 }) only [go_sem, ↓forkQ_true, ↓forkQ_false, ↓guardQ_some, ↓resQ_val, ↓resQ_unit, ↓resQ_enter, ↓retQ_some, ↓resFQ_val, ↓resFQ_unit, ↓resFQ_enter, ↓retFQ_some, Nat.reduceEqDiff, reduceIte, Nat.reduceAdd, Nat.reduceMul, Nat.reduceSub, reduceCtorEq, Nat.reduceLeDiff, f0_10, f1_10, f6_10, f7_10, f9_10, f14_10, f15_10, f16_10, f20_10, f21_10, f22_10, f23_10, hadd, haddj, ha1, hirm, hg1, hc1]
                  refine hK _ _ ?_
                  clear hK K
                  refine W.forget (fun e12 he12 => ?_)
                  have f0_12 := congrArg (fun q => Env.get q 0) he12
                  simp only [Env.put_some, Env.put_none, Env.get_set, Env.get_set, Nat.reduceEqDiff, reduceIte, if_true, if_false, eq_self, f0_10] at f0_12
                  have f1_12 := congrArg (fun q => Env.get q 1) he12
                  simp only [Env.put_some, Env.put_none, Env.get_set, Env.get_set, Nat.reduceEqDiff, reduceIte, if_true, if_false, eq_self, f1_10] at f1_12
                  have f6_12 := congrArg (fun q => Env.get q 6) he12
                  simp only [Env.put_some, Env.put_none, Env.get_set, Env.get_set, Nat.reduceEqDiff, reduceIte, if_true, if_false, eq_self, f6_10] at f6_12
                  have f7_12 := congrArg (fun q => Env.get q 7) he12
                  simp only [Env.put_some, Env.put_none, Env.get_set, Env.get_set, Nat.reduceEqDiff, reduceIte, if_true, if_false, eq_self, f7_10] at f7_12
                  have f9_12 := congrArg (fun q => Env.get q 9) he12
                  simp only [Env.put_some, Env.put_none, Env.get_set, Env.get_set, Nat.reduceEqDiff, reduceIte, if_true, if_false, eq_self, f9_10] at f9_12
                  have f11_12 := congrArg (fun q => Env.get q 11) he12
                  simp only [Env.put_some, Env.put_none, Env.get_set, Env.get_set, Nat.reduceEqDiff, reduceIte, if_true, if_false, eq_self] at f11_12
                  have f14_12 := congrArg (fun q => Env.get q 14) he12
                  simp only [Env.put_some, Env.put_none, Env.get_set, Env.get_set, Nat.reduceEqDiff, reduceIte, if_true, if_false, eq_self, f14_10] at f14_12
                  have f15_12 := congrArg (fun q => Env.get q 15) he12
                  simp only [Env.put_some, Env.put_none, Env.get_set, Env.get_set, Nat.reduceEqDiff, reduceIte, if_true, if_false, eq_self, f15_10] at f15_12
                  have f16_12 := congrArg (fun q => Env.get q 16) he12
                  simp only [Env.put_some, Env.put_none, Env.get_set, Env.get_set, Nat.reduceEqDiff, reduceIte, if_true, if_false, eq_self, f16_10] at f16_12
                  have f20_12 := congrArg (fun q => Env.get q 20) he12
                  simp only [Env.put_some, Env.put_none, Env.get_set, Env.get_set, Nat.reduceEqDiff, reduceIte, if_true, if_false, eq_self, f20_10] at f20_12
                  have f21_12 := congrArg (fun q => Env.get q 21) he12
                  simp only [Env.put_some, Env.put_none, Env.get_set, Env.get_set, Nat.reduceEqDiff, reduceIte, if_true, if_false, eq_self, f21_10] at f21_12
                  have f22_12 := congrArg (fun q => Env.get q 22) he12
                  simp only [Env.put_some, Env.put_none, Env.get_set, Env.get_set, Nat.reduceEqDiff, reduceIte, if_true, if_false, eq_self, f22_10] at f22_12
                  clear he12 f0_10 f1_10 f6_10 f7_10 f9_10 f14_10 f15_10 f16_10 f20_10 f21_10 f22_10 f23_10
                  refine W.thenN ?_
                  refine W.seq ?_
                  refine W.drawP _ dr28_7 (fun K hK => ?_)
                  obtain ⟨b, blk, ext, ha0, hb, hcs, hbl⟩ := hg (ne_of_lt hin)
                  have hb' := (exj.get b hbl).trans hb
                  have hbn := exj.ne hbl
                  have hbn' := exj.ne' hbl
                  have hbn1 : (b = k2.next + 1) = False := eq_false (by have := exj.next; omega)
                  have hbn1' : (k2.next + 1 = b) = False := eq_false (by have := exj.next; omega)
                  have iri := inRange_nat hin
                  have irj := inRange_nat hjn
                  have cuti := gcut (ext := ext) hin
                  have cutj := gcut (ext := ext) hjn
                  have hf' := exj.fact'
                  have hw := exj.wr
                  simp (config := { maxSteps := 10000000 }) only [go_sem, ↓forkQ_true, ↓forkQ_false, ↓guardQ_some, ↓resQ_val, ↓resQ_unit, ↓resQ_enter, ↓retQ_some, ↓resFQ_val, ↓resFQ_unit, ↓resFQ_enter, ↓retFQ_some, Nat.reduceEqDiff, reduceIte, Nat.reduceAdd, Nat.reduceMul, Nat.reduceSub, reduceCtorEq, Nat.reduceLeDiff, f0_12, f1_12, f6_12, f7_12, f9_12, f11_12, f14_12, f15_12, f16_12, f20_12, f21_12, f22_12, hadd, haddj, ha1, hirm, hg1, hc1, ha0, hb', hbn, hbn', hbn1, hbn1', iri, irj, hcs, cuti, cutj, hf', hw]
                  refine hK _ _ _ (by simp only [go_sem, ↓forkQ_true, ↓forkQ_false, ↓guardQ_some, ↓resQ_val, ↓resQ_unit, ↓resQ_enter, ↓retQ_some, ↓resFQ_val, ↓resFQ_unit, ↓resFQ_enter, ↓retFQ_some, Nat.reduceEqDiff, reduceIte, Nat.reduceAdd, Nat.reduceMul, Nat.reduceSub, reduceCtorEq, Nat.reduceLeDiff, hbn, hbn', hbn1, hbn1']) ?_
                  clear hK K
                  refine W.forget (fun e13 he13 => ?_)
                  refine W.forgetH (fun k7 hk13 => ?_)
                  have t7 : Two h k7 _ _ := hj.t.grow (by rw [hk13]; exact (((exj.alloc _).alloc _).set exj.next _).set (Nat.le_succ_of_le exj.next) _) (by rw [hk13]; show k2.next ≤ k2.next + 1 + 1; omega) (fun q hq => by rw [hk13, Heap.get_set_ne _ _ (by omega), Heap.get_set_ne _ _ (by omega), Heap.get_alloc_ne _ _ (by show q ≠ k2.next + 1; omega), Heap.get_alloc_ne _ _ (by omega)])
                  have g12 : k7.get k2.next = some ⟨[.int .i64 (gt l (L.getD k 0)).x, .int .i64 (gt l (L.getD k 0)).lo, .int .i64 (gt l (L.getD k 0)).hi], true, false, none⟩ := by rw [hk13, Heap.get_set_ne _ _ (by omega)]; exact Heap.get_set_same _ _ _
                  have g13 : k7.get (k2.next + 1) = some ⟨[.int .i64 (gt l (U.getD m 0)).x, .int .i64 (gt l (U.getD m 0)).lo, .int .i64 (gt l (U.getD m 0)).hi], true, false, none⟩ := by rw [hk13]; exact Heap.get_set_same _ _ _
                  have ri := o.rng _ hin
                  have rj := o.rng _ hjn
                  clear hk13
                  have f0_13 := congrArg (fun q => Env.get q 0) he13
                  simp only [Env.put_some, Env.put_none, Env.get_set, Env.get_set, Nat.reduceEqDiff, reduceIte, if_true, if_false, eq_self, f0_12] at f0_13
                  have f1_13 := congrArg (fun q => Env.get q 1) he13
                  simp only [Env.put_some, Env.put_none, Env.get_set, Env.get_set, Nat.reduceEqDiff, reduceIte, if_true, if_false, eq_self, f1_12] at f1_13
                  have f6_13 := congrArg (fun q => Env.get q 6) he13
                  simp only [Env.put_some, Env.put_none, Env.get_set, Env.get_set, Nat.reduceEqDiff, reduceIte, if_true, if_false, eq_self, f6_12] at f6_13
                  have f7_13 := congrArg (fun q => Env.get q 7) he13
                  simp only [Env.put_some, Env.put_none, Env.get_set, Env.get_set, Nat.reduceEqDiff, reduceIte, if_true, if_false, eq_self, f7_12] at f7_13
                  have f9_13 := congrArg (fun q => Env.get q 9) he13
                  simp only [Env.put_some, Env.put_none, Env.get_set, Env.get_set, Nat.reduceEqDiff, reduceIte, if_true, if_false, eq_self, f9_12] at f9_13
                  have f12_13 := congrArg (fun q => Env.get q 12) he13
                  simp only [Env.put_some, Env.put_none, Env.get_set, Env.get_set, Nat.reduceEqDiff, reduceIte, if_true, if_false, eq_self] at f12_13
                  have f13_13 := congrArg (fun q => Env.get q 13) he13
                  simp only [Env.put_some, Env.put_none, Env.get_set, Env.get_set, Nat.reduceEqDiff, reduceIte, if_true, if_false, eq_self] at f13_13
                  have f14_13 := congrArg (fun q => Env.get q 14) he13
                  simp only [Env.put_some, Env.put_none, Env.get_set, Env.get_set, Nat.reduceEqDiff, reduceIte, if_true, if_false, eq_self, f14_12] at f14_13
                  have f15_13 := congrArg (fun q => Env.get q 15) he13
                  simp only [Env.put_some, Env.put_none, Env.get_set, Env.get_set, Nat.reduceEqDiff, reduceIte, if_true, if_false, eq_self, f15_12] at f15_13
                  have f16_13 := congrArg (fun q => Env.get q 16) he13
                  simp only [Env.put_some, Env.put_none, Env.get_set, Env.get_set, Nat.reduceEqDiff, reduceIte, if_true, if_false, eq_self, f16_12] at f16_13
                  have f20_13 := congrArg (fun q => Env.get q 20) he13
                  simp only [Env.put_some, Env.put_none, Env.get_set, Env.get_set, Nat.reduceEqDiff, reduceIte, if_true, if_false, eq_self, f20_12] at f20_13
                  have f21_13 := congrArg (fun q => Env.get q 21) he13
                  simp only [Env.put_some, Env.put_none, Env.get_set, Env.get_set, Nat.reduceEqDiff, reduceIte, if_true, if_false, eq_self, f21_12] at f21_13
                  have f22_13 := congrArg (fun q => Env.get q 22) he13
                  simp only [Env.put_some, Env.put_none, Env.get_set, Env.get_set, Nat.reduceEqDiff, reduceIte, if_true, if_false, eq_self, f22_12] at f22_13
                  clear he13 f0_12 f1_12 f6_12 f7_12 f9_12 f11_12 f14_12 f15_12 f16_12 f20_12 f21_12 f22_12
                  refine W.thenN ?_
                  refine W.block ?_
                  refine W.seq ?_
                  refine W.region (fun K hK => ?_)
                  simp (config := { maxSteps := 10000000 }) only [go_sem, ↓forkQ_true, ↓forkQ_false, ↓guardQ_some, ↓resQ_val, ↓resQ_unit, ↓resQ_enter, ↓retQ_some, ↓resFQ_val, ↓resFQ_unit, ↓resFQ_enter, ↓retFQ_some, Nat.reduceEqDiff, reduceIte, Nat.reduceAdd, Nat.reduceMul, Nat.reduceSub, reduceCtorEq, Nat.reduceLeDiff, f0_13, f1_13, f6_13, f7_13, f9_13, f12_13, f13_13, f14_13, f15_13, f16_13, f20_13, f21_13, f22_13, hadd, haddj, ha1, hirm, hg1, hc1, ha0, hb', hbn, hbn', hbn1, hbn1', iri, irj, hcs, cuti, cutj, hf', hw, g12, g13]
                  refine hK _ _ ?_
                  clear hK K
                  refine W.forget (fun e14 he14 => ?_)
                  have f0_14 := congrArg (fun q => Env.get q 0) he14
                  simp only [Env.put_some, Env.put_none, Env.get_set, Env.get_set, Nat.reduceEqDiff, reduceIte, if_true, if_false, eq_self, f0_13] at f0_14
                  have f1_14 := congrArg (fun q => Env.get q 1) he14
                  simp only [Env.put_some, Env.put_none, Env.get_set, Env.get_set, Nat.reduceEqDiff, reduceIte, if_true, if_false, eq_self, f1_13] at f1_14
                  have f6_14 := congrArg (fun q => Env.get q 6) he14
                  simp only [Env.put_some, Env.put_none, Env.get_set, Env.get_set, Nat.reduceEqDiff, reduceIte, if_true, if_false, eq_self, f6_13] at f6_14
                  have f7_14 := congrArg (fun q => Env.get q 7) he14
                  simp only [Env.put_some, Env.put_none, Env.get_set, Env.get_set, Nat.reduceEqDiff, reduceIte, if_true, if_false, eq_self, f7_13] at f7_14
                  have f9_14 := congrArg (fun q => Env.get q 9) he14
                  simp only [Env.put_some, Env.put_none, Env.get_set, Env.get_set, Nat.reduceEqDiff, reduceIte, if_true, if_false, eq_self, f9_13] at f9_14
                  have f12_14 := congrArg (fun q => Env.get q 12) he14
                  simp only [Env.put_some, Env.put_none, Env.get_set, Env.get_set, Nat.reduceEqDiff, reduceIte, if_true, if_false, eq_self, f12_13] at f12_14
                  have f13_14 := congrArg (fun q => Env.get q 13) he14
                  simp only [Env.put_some, Env.put_none, Env.get_set, Env.get_set, Nat.reduceEqDiff, reduceIte, if_true, if_false, eq_self, f13_13] at f13_14
                  have f14_14 := congrArg (fun q => Env.get q 14) he14
                  simp only [Env.put_some, Env.put_none, Env.get_set, Env.get_set, Nat.reduceEqDiff, reduceIte, if_true, if_false, eq_self, f14_13] at f14_14
                  have f15_14 := congrArg (fun q => Env.get q 15) he14
                  simp only [Env.put_some, Env.put_none, Env.get_set, Env.get_set, Nat.reduceEqDiff, reduceIte, if_true, if_false, eq_self, f15_13] at f15_14
                  have f16_14 := congrArg (fun q => Env.get q 16) he14
                  simp only [Env.put_some, Env.put_none, Env.get_set, Env.get_set, Nat.reduceEqDiff, reduceIte, if_true, if_false, eq_self, f16_13] at f16_14
                  have f20_14 := congrArg (fun q => Env.get q 20) he14
                  simp only [Env.put_some, Env.put_none, Env.get_set, Env.get_set, Nat.reduceEqDiff, reduceIte, if_true, if_false, eq_self, f20_13] at f20_14
                  have f21_14 := congrArg (fun q => Env.get q 21) he14
                  simp only [Env.put_some, Env.put_none, Env.get_set, Env.get_set, Nat.reduceEqDiff, reduceIte, if_true, if_false, eq_self, f21_13] at f21_14
                  have f22_14 := congrArg (fun q => Env.get q 22) he14
                  simp only [Env.put_some, Env.put_none, Env.get_set, Env.get_set, Nat.reduceEqDiff, reduceIte, if_true, if_false, eq_self, f22_13] at f22_14
                  have f34_14 := congrArg (fun q => Env.get q 34) he14
                  simp only [Env.put_some, Env.put_none, Env.get_set, Env.get_set, Nat.reduceEqDiff, reduceIte, if_true, if_false, eq_self] at f34_14
                  clear he14 f0_13 f1_13 f6_13 f7_13 f9_13 f12_13 f13_13 f14_13 f15_13 f16_13 f20_13 f21_13 f22_13
                  refine W.thenN ?_
                  refine W.cond f34_14 (fun hc15 => ?_) (fun hc15 => ?_)
                  · first
                    | (cases hc15; done)
                    | (exfalso; simp only [decide_eq_true_eq, decide_eq_false_iff_not, Bool.not_eq_true', Bool.not_eq_false', Bool.not_eq_eq_eq_not, Bool.not_true, Bool.not_false] at hc15; omega)
                    | (skip
                       try simp only [decide_eq_true_eq, decide_eq_false_iff_not, Bool.not_eq_true', Bool.not_eq_false', Bool.not_eq_eq_eq_not, Bool.not_true, Bool.not_false] at hc15
                       refine W.region (fun K hK => ?_)
                       have s1 : wrapF .i64 ((gt l (U.getD m 0)).hi - (gt l (L.getD k 0)).lo) = (gt l (U.getD m 0)).hi - (gt l (L.getD k 0)).lo := w64_in _ (by omega)
                       have s2 : wrapF .i64 ((gt l (U.getD m 0)).x - (gt l (L.getD k 0)).x) = (gt l (U.getD m 0)).x - (gt l (L.getD k 0)).x := w64_in _ (by omega)
                       obtain ⟨k9, q9, q41, P41⟩ := c41 _ (h.next + 1) ((gt l (U.getD m 0)).hi - (gt l (L.getD k 0)).lo) ((gt l (U.getD m 0)).x - (gt l (L.getD k 0)).x) (by omega) (by omega) t7.dg k7 t7.gg (by have := t7.nx; omega) (by rw [t7.ex.wr]; omega)
                       simp (config := { maxSteps := 10000000 }) only [go_sem, ↓forkQ_true, ↓forkQ_false, ↓guardQ_some, ↓resQ_val, ↓resQ_unit, ↓resQ_enter, ↓retQ_some, ↓resFQ_val, ↓resFQ_unit, ↓resFQ_enter, ↓retFQ_some, Nat.reduceEqDiff, reduceIte, Nat.reduceAdd, Nat.reduceMul, Nat.reduceSub, reduceCtorEq, Nat.reduceLeDiff, f0_14, f1_14, f6_14, f7_14, f9_14, f12_14, f13_14, f14_14, f15_14, f16_14, f20_14, f21_14, f22_14, f34_14, hadd, haddj, ha1, hirm, hg1, hc1, ha0, hb', hbn, hbn', hbn1, hbn1', iri, irj, hcs, cuti, cutj, hf', hw, g12, g13, s1, s2, q41, g12, g13]
                       refine hK _ _ ?_
                       clear hK K
                       refine W.forget (fun e16 he16 => ?_)
                       have f0_16 := congrArg (fun q => Env.get q 0) he16
                       simp only [Env.put_some, Env.put_none, Env.get_set, Env.get_set, Nat.reduceEqDiff, reduceIte, if_true, if_false, eq_self, f0_14] at f0_16
                       have f1_16 := congrArg (fun q => Env.get q 1) he16
                       simp only [Env.put_some, Env.put_none, Env.get_set, Env.get_set, Nat.reduceEqDiff, reduceIte, if_true, if_false, eq_self, f1_14] at f1_16
                       have f6_16 := congrArg (fun q => Env.get q 6) he16
                       simp only [Env.put_some, Env.put_none, Env.get_set, Env.get_set, Nat.reduceEqDiff, reduceIte, if_true, if_false, eq_self, f6_14] at f6_16
                       have f7_16 := congrArg (fun q => Env.get q 7) he16
                       simp only [Env.put_some, Env.put_none, Env.get_set, Env.get_set, Nat.reduceEqDiff, reduceIte, if_true, if_false, eq_self, f7_14] at f7_16
                       have f9_16 := congrArg (fun q => Env.get q 9) he16
                       simp only [Env.put_some, Env.put_none, Env.get_set, Env.get_set, Nat.reduceEqDiff, reduceIte, if_true, if_false, eq_self, f9_14] at f9_16
                       have f14_16 := congrArg (fun q => Env.get q 14) he16
                       simp only [Env.put_some, Env.put_none, Env.get_set, Env.get_set, Nat.reduceEqDiff, reduceIte, if_true, if_false, eq_self, f14_14] at f14_16
                       have f15_16 := congrArg (fun q => Env.get q 15) he16
                       simp only [Env.put_some, Env.put_none, Env.get_set, Env.get_set, Nat.reduceEqDiff, reduceIte, if_true, if_false, eq_self, f15_14] at f15_16
                       have f16_16 := congrArg (fun q => Env.get q 16) he16
                       simp only [Env.put_some, Env.put_none, Env.get_set, Env.get_set, Nat.reduceEqDiff, reduceIte, if_true, if_false, eq_self, f16_14] at f16_16
                       have f20_16 := congrArg (fun q => Env.get q 20) he16
                       simp only [Env.put_some, Env.put_none, Env.get_set, Env.get_set, Nat.reduceEqDiff, reduceIte, if_true, if_false, eq_self, f20_14] at f20_16
                       have f21_16 := congrArg (fun q => Env.get q 21) he16
                       simp only [Env.put_some, Env.put_none, Env.get_set, Env.get_set, Nat.reduceEqDiff, reduceIte, if_true, if_false, eq_self, f21_14] at f21_16
                       have f22_16 := congrArg (fun q => Env.get q 22) he16
                       simp only [Env.put_some, Env.put_none, Env.get_set, Env.get_set, Nat.reduceEqDiff, reduceIte, if_true, if_false, eq_self, f22_14] at f22_16
                       clear he16 f0_14 f1_14 f6_14 f7_14 f9_14 f12_14 f13_14 f14_14 f15_14 f16_14 f20_14 f21_14 f22_14 f34_14
                       refine W.blockN ?_
                       refine W.blockN ?_
                       refine W.thenN ?_
                       refine W.region (fun K hK => ?_)
                       simp (config := { maxSteps := 10000000 }) only [go_sem, ↓forkQ_true, ↓forkQ_false, ↓guardQ_some, ↓resQ_val, ↓resQ_unit, ↓resQ_enter, ↓retQ_some, ↓resFQ_val, ↓resFQ_unit, ↓resFQ_enter, ↓retFQ_some, Nat.reduceEqDiff, reduceIte, Nat.reduceAdd, Nat.reduceMul, Nat.reduceSub, reduceCtorEq, Nat.reduceLeDiff, f0_16, f1_16, f6_16, f7_16, f9_16, f14_16, f15_16, f16_16, f20_16, f21_16, f22_16, hadd, haddj, ha1, hirm, hg1, hc1, ha0, hb', hbn, hbn', hbn1, hbn1', iri, irj, hcs, cuti, cutj, hf', hw, g12, g13, s1, s2, q41, g12, g13]
                       refine hK _ _ ?_
                       clear hK K
                       refine W.forget (fun e17 he17 => ?_)
                       have f0_17 := congrArg (fun q => Env.get q 0) he17
                       simp only [Env.put_some, Env.put_none, Env.get_set, Env.get_set, Nat.reduceEqDiff, reduceIte, if_true, if_false, eq_self, f0_16] at f0_17
                       have f1_17 := congrArg (fun q => Env.get q 1) he17
                       simp only [Env.put_some, Env.put_none, Env.get_set, Env.get_set, Nat.reduceEqDiff, reduceIte, if_true, if_false, eq_self, f1_16] at f1_17
                       have f6_17 := congrArg (fun q => Env.get q 6) he17
                       simp only [Env.put_some, Env.put_none, Env.get_set, Env.get_set, Nat.reduceEqDiff, reduceIte, if_true, if_false, eq_self, f6_16] at f6_17
                       have f7_17 := congrArg (fun q => Env.get q 7) he17
                       simp only [Env.put_some, Env.put_none, Env.get_set, Env.get_set, Nat.reduceEqDiff, reduceIte, if_true, if_false, eq_self, f7_16] at f7_17
                       have f9_17 := congrArg (fun q => Env.get q 9) he17
                       simp only [Env.put_some, Env.put_none, Env.get_set, Env.get_set, Nat.reduceEqDiff, reduceIte, if_true, if_false, eq_self, f9_16] at f9_17
                       have f14_17 := congrArg (fun q => Env.get q 14) he17
                       simp only [Env.put_some, Env.put_none, Env.get_set, Env.get_set, Nat.reduceEqDiff, reduceIte, if_true, if_false, eq_self, f14_16] at f14_17
                       have f15_17 := congrArg (fun q => Env.get q 15) he17
                       simp only [Env.put_some, Env.put_none, Env.get_set, Env.get_set, Nat.reduceEqDiff, reduceIte, if_true, if_false, eq_self, f15_16] at f15_17
                       have f16_17 := congrArg (fun q => Env.get q 16) he17
                       simp only [Env.put_some, Env.put_none, Env.get_set, Env.get_set, Nat.reduceEqDiff, reduceIte, if_true, if_false, eq_self, f16_16] at f16_17
                       have f20_17 := congrArg (fun q => Env.get q 20) he17
                       simp only [Env.put_some, Env.put_none, Env.get_set, Env.get_set, Nat.reduceEqDiff, reduceIte, if_true, if_false, eq_self, f20_16] at f20_17
                       have f21_17 := congrArg (fun q => Env.get q 21) he17
                       simp only [Env.put_some, Env.put_none, Env.get_set, Env.get_set, Nat.reduceEqDiff, reduceIte, if_true, if_false, eq_self, f21_16] at f21_17
                       have f22_17 := congrArg (fun q => Env.get q 22) he17
                       simp only [Env.put_some, Env.put_none, Env.get_set, Env.get_set, Nat.reduceEqDiff, reduceIte, if_true, if_false, eq_self, f22_16] at f22_17
                       clear he17 f0_16 f1_16 f6_16 f7_16 f9_16 f14_16 f15_16 f16_16 f20_16 f21_16 f22_16
                       refine W.thenN ?_
                       have gs := take_flat (gAll l U (L.take k)) U (gP l (L.getD k 0)) m hltm
                       have ls := take_flat (lAll l U (L.take k)) U (lP l (L.getD k 0)) m hltm
                       first
                         | exact ⟨m + 1, by dsimp only; omega, (by rw [gs, ls, show gP l (L.getD k 0) (U.getD m 0) = _ from if_pos ‹_›, show lP l (L.getD k 0) (U.getD m 0) = _ from if_neg (by omega), List.append_nil]; exact Two.most t7 (by omega) P41), f0_17, f1_17, f6_17, f7_17, f9_17, f14_17, f15_17, f16_17, f20_17, f21_17, f22_17, hltm⟩
                         | exact ⟨m + 1, by dsimp only; omega, (by rw [gs, ls, show lP l (L.getD k 0) (U.getD m 0) = _ from if_pos ‹_›, show gP l (L.getD k 0) (U.getD m 0) = _ from if_neg (by omega), List.append_nil]; exact Two.least t7 (by omega) P42), f0_17, f1_17, f6_17, f7_17, f9_17, f14_17, f15_17, f16_17, f20_17, f21_17, f22_17, hltm⟩
                         | exact ⟨m + 1, by dsimp only; omega, (by rw [gs, ls, show lP l (L.getD k 0) (U.getD m 0) = _ from if_neg ‹_›, show gP l (L.getD k 0) (U.getD m 0) = _ from if_neg ‹_›, List.append_nil, List.append_nil]; exact t7), f0_17, f1_17, f6_17, f7_17, f9_17, f14_17, f15_17, f16_17, f20_17, f21_17, f22_17, hltm⟩)
                  · first
                    | (cases hc15; done)
                    | (exfalso; simp only [decide_eq_true_eq, decide_eq_false_iff_not, Bool.not_eq_true', Bool.not_eq_false', Bool.not_eq_eq_eq_not, Bool.not_true, Bool.not_false] at hc15; omega)
                    | (skip
                       try simp only [decide_eq_true_eq, decide_eq_false_iff_not, Bool.not_eq_true', Bool.not_eq_false', Bool.not_eq_eq_eq_not, Bool.not_true, Bool.not_false] at hc15
                       refine W.seq ?_
                       refine W.region (fun K hK => ?_)
                       simp (config := { maxSteps := 10000000 }) only [go_sem, ↓forkQ_true, ↓forkQ_false, ↓guardQ_some, ↓resQ_val, ↓resQ_unit, ↓resQ_enter, ↓retQ_some, ↓resFQ_val, ↓resFQ_unit, ↓resFQ_enter, ↓retFQ_some, Nat.reduceEqDiff, reduceIte, Nat.reduceAdd, Nat.reduceMul, Nat.reduceSub, reduceCtorEq, Nat.reduceLeDiff, f0_14, f1_14, f6_14, f7_14, f9_14, f12_14, f13_14, f14_14, f15_14, f16_14, f20_14, f21_14, f22_14, f34_14, hadd, haddj, ha1, hirm, hg1, hc1, ha0, hb', hbn, hbn', hbn1, hbn1', iri, irj, hcs, cuti, cutj, hf', hw, g12, g13, g12, g13]
                       refine hK _ _ ?_
                       clear hK K
                       refine W.forget (fun e18 he18 => ?_)
                       have f0_18 := congrArg (fun q => Env.get q 0) he18
                       simp only [Env.put_some, Env.put_none, Env.get_set, Env.get_set, Nat.reduceEqDiff, reduceIte, if_true, if_false, eq_self, f0_14] at f0_18
                       have f1_18 := congrArg (fun q => Env.get q 1) he18
                       simp only [Env.put_some, Env.put_none, Env.get_set, Env.get_set, Nat.reduceEqDiff, reduceIte, if_true, if_false, eq_self, f1_14] at f1_18
                       have f6_18 := congrArg (fun q => Env.get q 6) he18
                       simp only [Env.put_some, Env.put_none, Env.get_set, Env.get_set, Nat.reduceEqDiff, reduceIte, if_true, if_false, eq_self, f6_14] at f6_18
                       have f7_18 := congrArg (fun q => Env.get q 7) he18
                       simp only [Env.put_some, Env.put_none, Env.get_set, Env.get_set, Nat.reduceEqDiff, reduceIte, if_true, if_false, eq_self, f7_14] at f7_18
                       have f9_18 := congrArg (fun q => Env.get q 9) he18
                       simp only [Env.put_some, Env.put_none, Env.get_set, Env.get_set, Nat.reduceEqDiff, reduceIte, if_true, if_false, eq_self, f9_14] at f9_18
                       have f12_18 := congrArg (fun q => Env.get q 12) he18
                       simp only [Env.put_some, Env.put_none, Env.get_set, Env.get_set, Nat.reduceEqDiff, reduceIte, if_true, if_false, eq_self, f12_14] at f12_18
                       have f13_18 := congrArg (fun q => Env.get q 13) he18
                       simp only [Env.put_some, Env.put_none, Env.get_set, Env.get_set, Nat.reduceEqDiff, reduceIte, if_true, if_false, eq_self, f13_14] at f13_18
                       have f14_18 := congrArg (fun q => Env.get q 14) he18
                       simp only [Env.put_some, Env.put_none, Env.get_set, Env.get_set, Nat.reduceEqDiff, reduceIte, if_true, if_false, eq_self, f14_14] at f14_18
                       have f15_18 := congrArg (fun q => Env.get q 15) he18
                       simp only [Env.put_some, Env.put_none, Env.get_set, Env.get_set, Nat.reduceEqDiff, reduceIte, if_true, if_false, eq_self, f15_14] at f15_18
                       have f16_18 := congrArg (fun q => Env.get q 16) he18
                       simp only [Env.put_some, Env.put_none, Env.get_set, Env.get_set, Nat.reduceEqDiff, reduceIte, if_true, if_false, eq_self, f16_14] at f16_18
                       have f20_18 := congrArg (fun q => Env.get q 20) he18
                       simp only [Env.put_some, Env.put_none, Env.get_set, Env.get_set, Nat.reduceEqDiff, reduceIte, if_true, if_false, eq_self, f20_14] at f20_18
                       have f21_18 := congrArg (fun q => Env.get q 21) he18
                       simp only [Env.put_some, Env.put_none, Env.get_set, Env.get_set, Nat.reduceEqDiff, reduceIte, if_true, if_false, eq_self, f21_14] at f21_18
                       have f22_18 := congrArg (fun q => Env.get q 22) he18
                       simp only [Env.put_some, Env.put_none, Env.get_set, Env.get_set, Nat.reduceEqDiff, reduceIte, if_true, if_false, eq_self, f22_14] at f22_18
                       have f51_18 := congrArg (fun q => Env.get q 51) he18
                       simp only [Env.put_some, Env.put_none, Env.get_set, Env.get_set, Nat.reduceEqDiff, reduceIte, if_true, if_false, eq_self] at f51_18
                       clear he18 f0_14 f1_14 f6_14 f7_14 f9_14 f12_14 f13_14 f14_14 f15_14 f16_14 f20_14 f21_14 f22_14 f34_14
                       refine W.thenN ?_
                       refine W.cond f51_18 (fun hc19 => ?_) (fun hc19 => ?_)
                       · first
                         | (cases hc19; done)
                         | (exfalso; simp only [decide_eq_true_eq, decide_eq_false_iff_not, Bool.not_eq_true', Bool.not_eq_false', Bool.not_eq_eq_eq_not, Bool.not_true, Bool.not_false] at hc19; omega)
                         | (skip
                            try simp only [decide_eq_true_eq, decide_eq_false_iff_not, Bool.not_eq_true', Bool.not_eq_false', Bool.not_eq_eq_eq_not, Bool.not_true, Bool.not_false] at hc19
                            refine W.region (fun K hK => ?_)
                            have s1 : wrapF .i64 ((gt l (L.getD k 0)).lo - (gt l (U.getD m 0)).hi) = (gt l (L.getD k 0)).lo - (gt l (U.getD m 0)).hi := w64_in _ (by omega)
                            have s2 : wrapF .i64 ((gt l (L.getD k 0)).x - (gt l (U.getD m 0)).x) = (gt l (L.getD k 0)).x - (gt l (U.getD m 0)).x := w64_in _ (by omega)
                            obtain ⟨k9, q9, q42, P42⟩ := c42 _ h.next ((gt l (L.getD k 0)).lo - (gt l (U.getD m 0)).hi) ((gt l (L.getD k 0)).x - (gt l (U.getD m 0)).x) (by omega) (by omega) t7.dl k7 t7.gl (by have := t7.nx; omega) (by rw [t7.ex.wr]; omega)
                            simp (config := { maxSteps := 10000000 }) only [go_sem, ↓forkQ_true, ↓forkQ_false, ↓guardQ_some, ↓resQ_val, ↓resQ_unit, ↓resQ_enter, ↓retQ_some, ↓resFQ_val, ↓resFQ_unit, ↓resFQ_enter, ↓retFQ_some, Nat.reduceEqDiff, reduceIte, Nat.reduceAdd, Nat.reduceMul, Nat.reduceSub, reduceCtorEq, Nat.reduceLeDiff, f0_18, f1_18, f6_18, f7_18, f9_18, f12_18, f13_18, f14_18, f15_18, f16_18, f20_18, f21_18, f22_18, f51_18, hadd, haddj, ha1, hirm, hg1, hc1, ha0, hb', hbn, hbn', hbn1, hbn1', iri, irj, hcs, cuti, cutj, hf', hw, g12, g13, g12, g13, s1, s2, q42, g12, g13]
                            refine hK _ _ ?_
                            clear hK K
                            refine W.forget (fun e20 he20 => ?_)
                            have f0_20 := congrArg (fun q => Env.get q 0) he20
                            simp only [Env.put_some, Env.put_none, Env.get_set, Env.get_set, Nat.reduceEqDiff, reduceIte, if_true, if_false, eq_self, f0_18] at f0_20
                            have f1_20 := congrArg (fun q => Env.get q 1) he20
                            simp only [Env.put_some, Env.put_none, Env.get_set, Env.get_set, Nat.reduceEqDiff, reduceIte, if_true, if_false, eq_self, f1_18] at f1_20
                            have f6_20 := congrArg (fun q => Env.get q 6) he20
                            simp only [Env.put_some, Env.put_none, Env.get_set, Env.get_set, Nat.reduceEqDiff, reduceIte, if_true, if_false, eq_self, f6_18] at f6_20
                            have f7_20 := congrArg (fun q => Env.get q 7) he20
                            simp only [Env.put_some, Env.put_none, Env.get_set, Env.get_set, Nat.reduceEqDiff, reduceIte, if_true, if_false, eq_self, f7_18] at f7_20
                            have f9_20 := congrArg (fun q => Env.get q 9) he20
                            simp only [Env.put_some, Env.put_none, Env.get_set, Env.get_set, Nat.reduceEqDiff, reduceIte, if_true, if_false, eq_self, f9_18] at f9_20
                            have f14_20 := congrArg (fun q => Env.get q 14) he20
                            simp only [Env.put_some, Env.put_none, Env.get_set, Env.get_set, Nat.reduceEqDiff, reduceIte, if_true, if_false, eq_self, f14_18] at f14_20
                            have f15_20 := congrArg (fun q => Env.get q 15) he20
                            simp only [Env.put_some, Env.put_none, Env.get_set, Env.get_set, Nat.reduceEqDiff, reduceIte, if_true, if_false, eq_self, f15_18] at f15_20
                            have f16_20 := congrArg (fun q => Env.get q 16) he20
                            simp only [Env.put_some, Env.put_none, Env.get_set, Env.get_set, Nat.reduceEqDiff, reduceIte, if_true, if_false, eq_self, f16_18] at f16_20
                            have f20_20 := congrArg (fun q => Env.get q 20) he20
                            simp only [Env.put_some, Env.put_none, Env.get_set, Env.get_set, Nat.reduceEqDiff, reduceIte, if_true, if_false, eq_self, f20_18] at f20_20
                            have f21_20 := congrArg (fun q => Env.get q 21) he20
                            simp only [Env.put_some, Env.put_none, Env.get_set, Env.get_set, Nat.reduceEqDiff, reduceIte, if_true, if_false, eq_self, f21_18] at f21_20
                            have f22_20 := congrArg (fun q => Env.get q 22) he20
                            simp only [Env.put_some, Env.put_none, Env.get_set, Env.get_set, Nat.reduceEqDiff, reduceIte, if_true, if_false, eq_self, f22_18] at f22_20
                            clear he20 f0_18 f1_18 f6_18 f7_18 f9_18 f12_18 f13_18 f14_18 f15_18 f16_18 f20_18 f21_18 f22_18 f51_18
                            refine W.blockN ?_
                            refine W.blockN ?_
                            refine W.thenN ?_
                            refine W.region (fun K hK => ?_)
                            simp (config := { maxSteps := 10000000 }) only [go_sem, ↓forkQ_true, ↓forkQ_false, ↓guardQ_some, ↓resQ_val, ↓resQ_unit, ↓resQ_enter, ↓retQ_some, ↓resFQ_val, ↓resFQ_unit, ↓resFQ_enter, ↓retFQ_some, Nat.reduceEqDiff, reduceIte, Nat.reduceAdd, Nat.reduceMul, Nat.reduceSub, reduceCtorEq, Nat.reduceLeDiff, f0_20, f1_20, f6_20, f7_20, f9_20, f14_20, f15_20, f16_20, f20_20, f21_20, f22_20, hadd, haddj, ha1, hirm, hg1, hc1, ha0, hb', hbn, hbn', hbn1, hbn1', iri, irj, hcs, cuti, cutj, hf', hw, g12, g13, g12, g13, s1, s2, q42, g12, g13]
                            refine hK _ _ ?_
                            clear hK K
                            refine W.forget (fun e21 he21 => ?_)
                            have f0_21 := congrArg (fun q => Env.get q 0) he21
                            simp only [Env.put_some, Env.put_none, Env.get_set, Env.get_set, Nat.reduceEqDiff, reduceIte, if_true, if_false, eq_self, f0_20] at f0_21
                            have f1_21 := congrArg (fun q => Env.get q 1) he21
                            simp only [Env.put_some, Env.put_none, Env.get_set, Env.get_set, Nat.reduceEqDiff, reduceIte, if_true, if_false, eq_self, f1_20] at f1_21
                            have f6_21 := congrArg (fun q => Env.get q 6) he21
                            simp only [Env.put_some, Env.put_none, Env.get_set, Env.get_set, Nat.reduceEqDiff, reduceIte, if_true, if_false, eq_self, f6_20] at f6_21
                            have f7_21 := congrArg (fun q => Env.get q 7) he21
                            simp only [Env.put_some, Env.put_none, Env.get_set, Env.get_set, Nat.reduceEqDiff, reduceIte, if_true, if_false, eq_self, f7_20] at f7_21
                            have f9_21 := congrArg (fun q => Env.get q 9) he21
                            simp only [Env.put_some, Env.put_none, Env.get_set, Env.get_set, Nat.reduceEqDiff, reduceIte, if_true, if_false, eq_self, f9_20] at f9_21
                            have f14_21 := congrArg (fun q => Env.get q 14) he21
                            simp only [Env.put_some, Env.put_none, Env.get_set, Env.get_set, Nat.reduceEqDiff, reduceIte, if_true, if_false, eq_self, f14_20] at f14_21
                            have f15_21 := congrArg (fun q => Env.get q 15) he21
                            simp only [Env.put_some, Env.put_none, Env.get_set, Env.get_set, Nat.reduceEqDiff, reduceIte, if_true, if_false, eq_self, f15_20] at f15_21
                            have f16_21 := congrArg (fun q => Env.get q 16) he21
                            simp only [Env.put_some, Env.put_none, Env.get_set, Env.get_set, Nat.reduceEqDiff, reduceIte, if_true, if_false, eq_self, f16_20] at f16_21
                            have f20_21 := congrArg (fun q => Env.get q 20) he21
                            simp only [Env.put_some, Env.put_none, Env.get_set, Env.get_set, Nat.reduceEqDiff, reduceIte, if_true, if_false, eq_self, f20_20] at f20_21
                            have f21_21 := congrArg (fun q => Env.get q 21) he21
                            simp only [Env.put_some, Env.put_none, Env.get_set, Env.get_set, Nat.reduceEqDiff, reduceIte, if_true, if_false, eq_self, f21_20] at f21_21
                            have f22_21 := congrArg (fun q => Env.get q 22) he21
                            simp only [Env.put_some, Env.put_none, Env.get_set, Env.get_set, Nat.reduceEqDiff, reduceIte, if_true, if_false, eq_self, f22_20] at f22_21
                            clear he21 f0_20 f1_20 f6_20 f7_20 f9_20 f14_20 f15_20 f16_20 f20_20 f21_20 f22_20
                            refine W.thenN ?_
                            have gs := take_flat (gAll l U (L.take k)) U (gP l (L.getD k 0)) m hltm
                            have ls := take_flat (lAll l U (L.take k)) U (lP l (L.getD k 0)) m hltm
                            first
                              | exact ⟨m + 1, by dsimp only; omega, (by rw [gs, ls, show gP l (L.getD k 0) (U.getD m 0) = _ from if_pos ‹_›, show lP l (L.getD k 0) (U.getD m 0) = _ from if_neg (by omega), List.append_nil]; exact Two.most t7 (by omega) P41), f0_21, f1_21, f6_21, f7_21, f9_21, f14_21, f15_21, f16_21, f20_21, f21_21, f22_21, hltm⟩
                              | exact ⟨m + 1, by dsimp only; omega, (by rw [gs, ls, show lP l (L.getD k 0) (U.getD m 0) = _ from if_pos ‹_›, show gP l (L.getD k 0) (U.getD m 0) = _ from if_neg (by omega), List.append_nil]; exact Two.least t7 (by omega) P42), f0_21, f1_21, f6_21, f7_21, f9_21, f14_21, f15_21, f16_21, f20_21, f21_21, f22_21, hltm⟩
                              | exact ⟨m + 1, by dsimp only; omega, (by rw [gs, ls, show lP l (L.getD k 0) (U.getD m 0) = _ from if_neg ‹_›, show gP l (L.getD k 0) (U.getD m 0) = _ from if_neg ‹_›, List.append_nil, List.append_nil]; exact t7), f0_21, f1_21, f6_21, f7_21, f9_21, f14_21, f15_21, f16_21, f20_21, f21_21, f22_21, hltm⟩)
                       · first
                         | (cases hc19; done)
                         | (exfalso; simp only [decide_eq_true_eq, decide_eq_false_iff_not, Bool.not_eq_true', Bool.not_eq_false', Bool.not_eq_eq_eq_not, Bool.not_true, Bool.not_false] at hc19; omega)
                         | (skip
                            try simp only [decide_eq_true_eq, decide_eq_false_iff_not, Bool.not_eq_true', Bool.not_eq_false', Bool.not_eq_eq_eq_not, Bool.not_true, Bool.not_false] at hc19
                            refine W.skip ?_
                            refine W.blockN ?_
                            refine W.blockN ?_
                            refine W.thenN ?_
                            refine W.region (fun K hK => ?_)
                            simp (config := { maxSteps := 10000000 }) only [go_sem, ↓forkQ_true, ↓forkQ_false, ↓guardQ_some, ↓resQ_val, ↓resQ_unit, ↓resQ_enter, ↓retQ_some, ↓resFQ_val, ↓resFQ_unit, ↓resFQ_enter, ↓retFQ_some, Nat.reduceEqDiff, reduceIte, Nat.reduceAdd, Nat.reduceMul, Nat.reduceSub, reduceCtorEq, Nat.reduceLeDiff, f0_18, f1_18, f6_18, f7_18, f9_18, f12_18, f13_18, f14_18, f15_18, f16_18, f20_18, f21_18, f22_18, f51_18, hadd, haddj, ha1, hirm, hg1, hc1, ha0, hb', hbn, hbn', hbn1, hbn1', iri, irj, hcs, cuti, cutj, hf', hw, g12, g13, g12, g13]
                            refine hK _ _ ?_
                            clear hK K
                            refine W.forget (fun e22 he22 => ?_)
                            have f0_22 := congrArg (fun q => Env.get q 0) he22
                            simp only [Env.put_some, Env.put_none, Env.get_set, Env.get_set, Nat.reduceEqDiff, reduceIte, if_true, if_false, eq_self, f0_18] at f0_22
                            have f1_22 := congrArg (fun q => Env.get q 1) he22
                            simp only [Env.put_some, Env.put_none, Env.get_set, Env.get_set, Nat.reduceEqDiff, reduceIte, if_true, if_false, eq_self, f1_18] at f1_22
                            have f6_22 := congrArg (fun q => Env.get q 6) he22
                            simp only [Env.put_some, Env.put_none, Env.get_set, Env.get_set, Nat.reduceEqDiff, reduceIte, if_true, if_false, eq_self, f6_18] at f6_22
                            have f7_22 := congrArg (fun q => Env.get q 7) he22
                            simp only [Env.put_some, Env.put_none, Env.get_set, Env.get_set, Nat.reduceEqDiff, reduceIte, if_true, if_false, eq_self, f7_18] at f7_22
                            have f9_22 := congrArg (fun q => Env.get q 9) he22
                            simp only [Env.put_some, Env.put_none, Env.get_set, Env.get_set, Nat.reduceEqDiff, reduceIte, if_true, if_false, eq_self, f9_18] at f9_22
                            have f14_22 := congrArg (fun q => Env.get q 14) he22
                            simp only [Env.put_some, Env.put_none, Env.get_set, Env.get_set, Nat.reduceEqDiff, reduceIte, if_true, if_false, eq_self, f14_18] at f14_22
                            have f15_22 := congrArg (fun q => Env.get q 15) he22
                            simp only [Env.put_some, Env.put_none, Env.get_set, Env.get_set, Nat.reduceEqDiff, reduceIte, if_true, if_false, eq_self, f15_18] at f15_22
                            have f16_22 := congrArg (fun q => Env.get q 16) he22
                            simp only [Env.put_some, Env.put_none, Env.get_set, Env.get_set, Nat.reduceEqDiff, reduceIte, if_true, if_false, eq_self, f16_18] at f16_22
                            have f20_22 := congrArg (fun q => Env.get q 20) he22
                            simp only [Env.put_some, Env.put_none, Env.get_set, Env.get_set, Nat.reduceEqDiff, reduceIte, if_true, if_false, eq_self, f20_18] at f20_22
                            have f21_22 := congrArg (fun q => Env.get q 21) he22
                            simp only [Env.put_some, Env.put_none, Env.get_set, Env.get_set, Nat.reduceEqDiff, reduceIte, if_true, if_false, eq_self, f21_18] at f21_22
                            have f22_22 := congrArg (fun q => Env.get q 22) he22
                            simp only [Env.put_some, Env.put_none, Env.get_set, Env.get_set, Nat.reduceEqDiff, reduceIte, if_true, if_false, eq_self, f22_18] at f22_22
                            clear he22 f0_18 f1_18 f6_18 f7_18 f9_18 f12_18 f13_18 f14_18 f15_18 f16_18 f20_18 f21_18 f22_18 f51_18
                            refine W.thenN ?_
                            have gs := take_flat (gAll l U (L.take k)) U (gP l (L.getD k 0)) m hltm
                            have ls := take_flat (lAll l U (L.take k)) U (lP l (L.getD k 0)) m hltm
                            first
                              | exact ⟨m + 1, by dsimp only; omega, (by rw [gs, ls, show gP l (L.getD k 0) (U.getD m 0) = _ from if_pos ‹_›, show lP l (L.getD k 0) (U.getD m 0) = _ from if_neg (by omega), List.append_nil]; exact Two.most t7 (by omega) P41), f0_22, f1_22, f6_22, f7_22, f9_22, f14_22, f15_22, f16_22, f20_22, f21_22, f22_22, hltm⟩
                              | exact ⟨m + 1, by dsimp only; omega, (by rw [gs, ls, show lP l (L.getD k 0) (U.getD m 0) = _ from if_pos ‹_›, show gP l (L.getD k 0) (U.getD m 0) = _ from if_neg (by omega), List.append_nil]; exact Two.least t7 (by omega) P42), f0_22, f1_22, f6_22, f7_22, f9_22, f14_22, f15_22, f16_22, f20_22, f21_22, f22_22, hltm⟩
                              | exact ⟨m + 1, by dsimp only; omega, (by rw [gs, ls, show lP l (L.getD k 0) (U.getD m 0) = _ from if_neg ‹_›, show gP l (L.getD k 0) (U.getD m 0) = _ from if_neg ‹_›, List.append_nil, List.append_nil]; exact t7), f0_22, f1_22, f6_22, f7_22, f9_22, f14_22, f15_22, f16_22, f20_22, f21_22, f22_22, hltm⟩)))
             · first
               | (cases hc11; done)
               | (exfalso; simp only [decide_eq_true_eq, decide_eq_false_iff_not, Bool.not_eq_true', Bool.not_eq_false', Bool.not_eq_eq_eq_not, Bool.not_true, Bool.not_false] at hc11; omega)
               | (skip
                  try simp only [decide_eq_true_eq, decide_eq_false_iff_not, Bool.not_eq_true', Bool.not_eq_false', Bool.not_eq_eq_eq_not, Bool.not_true, Bool.not_false] at hc11
                  refine W.exit ?_
                  refine W.thenE ?_
                  refine W.thenE ?_
                  refine W.blockE ?_
                  refine W.blockN ?_
                  refine W.thenN ?_
                  refine W.region (fun K hK => ?_)
                  simp (config := { maxSteps := 10000000 }) only [go_sem, ↓forkQ_true, ↓forkQ_false, ↓guardQ_some, ↓resQ_val, ↓resQ_unit, ↓resQ_enter, ↓retQ_some, ↓resFQ_val, ↓resFQ_unit, ↓resFQ_enter, ↓retFQ_some, Nat.reduceEqDiff, reduceIte, Nat.reduceAdd, Nat.reduceMul, Nat.reduceSub, reduceCtorEq, Nat.reduceLeDiff, f0_10, f1_10, f6_10, f7_10, f9_10, f14_10, f15_10, f16_10, f20_10, f21_10, f22_10, f23_10, hadd]
                  refine hK _ _ ?_
                  clear hK K
                  refine W.forget (fun e23 he23 => ?_)
                  have f0_23 := congrArg (fun q => Env.get q 0) he23
                  simp only [Env.put_some, Env.put_none, Env.get_set, Env.get_set, Nat.reduceEqDiff, reduceIte, if_true, if_false, eq_self, f0_10] at f0_23
                  have f1_23 := congrArg (fun q => Env.get q 1) he23
                  simp only [Env.put_some, Env.put_none, Env.get_set, Env.get_set, Nat.reduceEqDiff, reduceIte, if_true, if_false, eq_self, f1_10] at f1_23
                  have f6_23 := congrArg (fun q => Env.get q 6) he23
                  simp only [Env.put_some, Env.put_none, Env.get_set, Env.get_set, Nat.reduceEqDiff, reduceIte, if_true, if_false, eq_self, f6_10] at f6_23
                  have f7_23 := congrArg (fun q => Env.get q 7) he23
                  simp only [Env.put_some, Env.put_none, Env.get_set, Env.get_set, Nat.reduceEqDiff, reduceIte, if_true, if_false, eq_self, f7_10] at f7_23
                  have f14_23 := congrArg (fun q => Env.get q 14) he23
                  simp only [Env.put_some, Env.put_none, Env.get_set, Env.get_set, Nat.reduceEqDiff, reduceIte, if_true, if_false, eq_self, f14_10] at f14_23
                  have f15_23 := congrArg (fun q => Env.get q 15) he23
                  simp only [Env.put_some, Env.put_none, Env.get_set, Env.get_set, Nat.reduceEqDiff, reduceIte, if_true, if_false, eq_self, f15_10] at f15_23
                  have f16_23 := congrArg (fun q => Env.get q 16) he23
                  simp only [Env.put_some, Env.put_none, Env.get_set, Env.get_set, Nat.reduceEqDiff, reduceIte, if_true, if_false, eq_self, f16_10] at f16_23
                  clear he23 f0_10 f1_10 f6_10 f7_10 f9_10 f14_10 f15_10 f16_10 f20_10 f21_10 f22_10 f23_10
                  refine W.thenN ?_
                  obtain rfl : m = U.length := by omega
                  have tt := hj.t
                  rw [List.take_length] at tt
                  have el : lAll l U (L.take (k + 1)) = lAll l U (L.take k) ++ U.flatMap (lP l (L.getD k 0)) := by have := take_flat [] L (fun i => U.flatMap (lP l i)) k hlt; simpa [lAll] using this
                  have eg : gAll l U (L.take (k + 1)) = gAll l U (L.take k) ++ U.flatMap (gP l (L.getD k 0)) := by have := take_flat [] L (fun i => U.flatMap (gP l i)) k hlt; simpa [gAll] using this
                  exact ⟨k + 1, by dsimp only; omega, by rw [el, eg]; exact tt, f0_23, f1_23, f6_23, f7_23, f14_23, f15_23, f16_23, hlt⟩)
           · exact ⟨by simpa using hi.t, f0_8, f1_8, f6_8, f7_8, f9_8, f14_8, f15_8, f16_8, f20_8, f21_8, f22_8, Nat.zero_le _⟩)
      · first
        | (cases hc6; done)
        | (exfalso; simp only [decide_eq_true_eq, decide_eq_false_iff_not, Bool.not_eq_true', Bool.not_eq_false', Bool.not_eq_eq_eq_not, Bool.not_true, Bool.not_false] at hc6; omega)
        | (skip
           try simp only [decide_eq_true_eq, decide_eq_false_iff_not, Bool.not_eq_true', Bool.not_eq_false', Bool.not_eq_eq_eq_not, Bool.not_true, Bool.not_false] at hc6
           refine W.exit ?_
           refine W.thenE ?_
           refine W.thenE ?_
           refine W.blockE ?_
           refine W.thenN ?_
           refine W.seq ?_
           refine W.region (fun K hK => ?_)
           obtain rfl : k = L.length := by omega
           have gl := hi.t.gl
           have gg := hi.t.gg
           rw [List.take_length] at gl gg
           simp (config := { maxSteps := 10000000 }) only [go_sem, ↓forkQ_true, ↓forkQ_false, ↓guardQ_some, ↓resQ_val, ↓resQ_unit, ↓resQ_enter, ↓retQ_some, ↓resFQ_val, ↓resFQ_unit, ↓resFQ_enter, ↓retFQ_some, Nat.reduceEqDiff, reduceIte, Nat.reduceAdd, Nat.reduceMul, Nat.reduceSub, reduceCtorEq, Nat.reduceLeDiff, f0_5, f1_5, f6_5, f7_5, f14_5, f15_5, f16_5, f17_5, gl, gg, bcells]
           refine hK _ _ ?_
           clear hK K
           refine W.forget (fun e24 he24 => ?_)
           have f6_24 := congrArg (fun q => Env.get q 6) he24
           simp only [Env.put_some, Env.put_none, Env.get_set, Env.get_set, Nat.reduceEqDiff, reduceIte, if_true, if_false, eq_self, f6_5] at f6_24
           have f7_24 := congrArg (fun q => Env.get q 7) he24
           simp only [Env.put_some, Env.put_none, Env.get_set, Env.get_set, Nat.reduceEqDiff, reduceIte, if_true, if_false, eq_self, f7_5] at f7_24
           clear he24 f0_5 f1_5 f6_5 f7_5 f14_5 f15_5 f16_5 f17_5
           refine W.thenN ?_
           refine W.ret ?_
           rw [flatQ_ret]
           refine ⟨by simp only [go_sem, ↓forkQ_true, ↓forkQ_false, ↓guardQ_some, ↓resQ_val, ↓resQ_unit, ↓resQ_enter, ↓retQ_some, ↓resFQ_val, ↓resFQ_unit, ↓resFQ_enter, ↓retFQ_some, Nat.reduceEqDiff, reduceIte, Nat.reduceAdd, Nat.reduceMul, Nat.reduceSub, reduceCtorEq, Nat.reduceLeDiff, ex.wr], ?_⟩
           simp only [go_sem, ↓forkQ_true, ↓forkQ_false, ↓guardQ_some, ↓resQ_val, ↓resQ_unit, ↓resQ_enter, ↓retQ_some, ↓resFQ_val, ↓resFQ_unit, ↓resFQ_enter, ↓retFQ_some, Nat.reduceEqDiff, reduceIte, Nat.reduceAdd, Nat.reduceMul, Nat.reduceSub, reduceCtorEq, Nat.reduceLeDiff, f6_24, f7_24, gl, gg, bcells])
    · exact ⟨⟨((Ext.low h).alloc _).alloc _, Nat.le_refl _, by rw [Heap.get_alloc_ne _ _ (by show h.next ≠ h.next + 1; omega)]; exact Heap.get_alloc_same _ _, Heap.get_alloc_same _ _, fun h => (by cases h), fun h => (by cases h)⟩, f0_3, f1_3, f6_3, f7_3, f14_3, f15_3, f16_3, Nat.zero_le _⟩
  · rfl
end Go.Proofs.Ytlblocieleildaa
